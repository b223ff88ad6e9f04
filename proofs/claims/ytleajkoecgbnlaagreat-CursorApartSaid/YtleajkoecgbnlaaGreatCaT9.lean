/- A part of the proof: SKb, SKc, CUc, CUd, CUe, CUf, CUg, CUh, CUb, CUi, CUj, CUk, CUl, SQe, SB, RZ, SD, SE, SF, SG, SI, SJ, SK, SL, SN, SQf, SQg, SSa, SSb, SSc, SSd, SSe, SSf, SSg, SSh, SSi, SSj, SSk, SSl, SQh, SSm, SSn, CUm, SKd. No condition. -/
import Derived.Test.YtleajkoecgbnlaaGreatCaT8
set_option linter.unusedVariables false
set_option linter.unusedSimpArgs false
set_option maxHeartbeats 32000000
namespace Go.Q15
open Go Go.QAbs
set_option maxRecDepth 100000
variable {ap lev w:AV}{l:CLv}{e:Env}{g:FuncId}{a at_:Int}{Q:Jh}{A A0:List (Bool × List Blk)}{caps es:LV}{L0 bs:List Blk}{k:List Fr}{s s0:B8}{i ic ix la li lm mx n ver:Nat}{x:Opd}{O:Orc}{ro:Ro}{st:St}{t:Tr}
def ZJT(A:List (Bool × List Blk))(r:Ro)(g:FuncId)(s:Int):St:=⟨A,false,[.arr 5 0 [r.av],.arr 1 0 [.func (.func g) [] []],.arr 1 0 [.int .i64 s]]⟩
theorem Zvj(A:List (Bool × List Blk))(r:Ro)(g:FuncId)(s:Int):Cl (ZJT A r g s) [(A.length,2)] [.arr 1 0 [.int .i64 s]]:=by
 refine⟨by simp,rfl,fun k hk=>?_,fun j lv ix b h1 h2=>?_⟩
 ·simp only[List.mem_singleton]at hk
  subst hk;simp[St.wr,ZJT]
 ·match j,h1,h2 with
  | 0,h1,h2=>obtain⟨rfl,rfl⟩:=Prod.mk.inj (Option.some.inj h1);obtain rfl:=Option.some.inj h2;exact St.get_cur ..
  | n+1,h1,h2=>simp at h1
theorem Zub(A:List (Bool × List Blk))(r:Ro)(g:FuncId)(s t:Int):Zv (ZJT A r g s) [(A.length,2)] [.arr 1 0 [.int .i64 t]]=ZJT A r g t:=by
 simp[Zv,St.upd,ZJT]
theorem Zuc(A:List (Bool × List Blk))(r:Ro){q:Mea->Int}(hq:Comp q)(hg:ZNQ g q)(s:Int)(m:Mea)(L:List Blk)(h0:0<=s)(h1:s<=1000000000)(hf:m.Fit 65536):
 S Tb Xp [m.av,.ptr A.length 2 0 0 0,.ptr A.length 1 0 0 0] ⟨(ZJT A r g s).ps,false,L⟩=some (.tup [],⟨(ZJT A r g (s+q m)).ps,false,L⟩):=by
 have H:=(Zvj A r g s).push (A:=(ZJT A r g s).ps) (ro:=false) (L:=L) rfl
 have e:Zv ⟨(ZJT A r g s).ps,false,L⟩ [(A.length,2)] [.arr 1 0 [.int .i64 (s+q m)]]=⟨(ZJT A r g (s+q m)).ps,false,L⟩:=by
  rw[J4 rfl (fun k hk=>by simp only[List.mem_singleton]at hk;subst hk;exact Nat.le_refl _),Zub]
 obtain⟨f1,f2⟩:=hq.fit m 65536 hf
 have hgm:=fun st=>hg m st
 have hpart:∀L',St.get ⟨(ZJT A r g s).ps++[(false,L)],false,L'⟩ A.length 1=some (.arr 1 0 [.func (.func g) [] []]):=fun L'=>by
  have h1:(ZJT A r g s).get A.length 1=some (.arr 1 0 [.func (.func g) [] []]):=St.get_cur ..
  exact ZV (st:=⟨(ZJT A r g s).ps,false,L⟩) Y (ZV Y h1)
 rw[<- e]
 refine Jz Y (fun A1 hA=>?_)
 have hA':A1=(Zv ⟨(ZJT A r g s).ps,false,L⟩ [(A.length,2)] [.arr 1 0 [.int .i64 s]]).ps:=by rw[H.same];exact hA
 have g2:=fun L'=>H.old hA' rfl rfl (ro:=false) (L:=L') (j:=0) rfl rfl
 have hA0:A1=(ZJT A r g s).ps++[(false,L)]:=hA
 have hpart1:∀L',St.get ⟨A1,false,L'⟩ A.length 1=some (.arr 1 0 [.func (.func g) [] []]):=fun L'=>by rw[hA0];exact hpart L'
 unfold Mea.av at *
 repeat'(first|refine Zt Y (hpart1 _) Y Y ?_|refine Xf Y Y Y (hgm _) ?_|refine ZE ?_|refine ZD ?_|refine ZQ Y Y Y Y ?_|refine ZB Y ?_|refine ZC ?_|refine Zr Y Y (by omega) ?_|refine Zc Y Y Y ?_|refine Zt Y (g2 _) Y Y ?_)
 all_goals try first|contradiction|omega
 refine ZH5 H hA' Y Y (j:=0) Y Y Y Y Y Y Y (fun A2 hA2 _=>?_)
 repeat'(first|refine ZB Y ?_|refine ZL ?_)
 refine ZX hA2 (.inl Y) Y Y Y Y ?_;rfl
theorem Zrw(A:List (Bool × List Blk))(r:Ro){q:Mea->Int}(hq:Comp q)(hg:ZNQ g q):Pass (ZJT A r g) q Xp [.ptr A.length 2 0 0 0,.ptr A.length 1 0 0 0] (A.length+1) :=
 ⟨hq,fun _=>by simp[ZJT],fun s m L h0 h1 hf=>⟨_,Zuc A r hq hg s m L h0 h1 hf⟩,fun m=>rfl⟩
theorem Zrx{f:FuncId}{q:Mea->Int}(hq:Comp q)(hg:ZNQ g q){p:UInt8->Bool}(hp:∀l,q (JQ l)=l.countP p)(hf:∀(s:B8) (a:Int),0<=a->a<=s.length->s.length<100001->∀st,S Tb f [.str s,.int .i64 a] st=some (.tup [.int .i64 ((s.take a.toNat).countP p),.int .i64 0],st))
 {st:St} {la b:Nat} {N:ZO} (hN:GoodN N) (hR:Rd st la (b+5) N) {r:Ro} {s:B8} (h:Rt N r s) {a:Int} (h0:0<=a) (h1:a<=s.length) (hs:s.length<=100000) :
 S Tb ZEj [.ptr la (b+5) 0 0 0,r.av,.int .i64 a,.func (.func g) [] [],.func (.func f) [] []] st=some (.tup [.int .i64 ((s.take a.toNat).countP p),.int .i64 0],st):=by
 have hm:=h.m hN
 have hmq:q r.m=s.countP p:=by rw[hm];exact hp s
 have hmb:r.m.b=s.length:=by rw[hm];rfl
 refine QA Y (fun A hA=>?_)
 have hC:=fun L=>ZDx (hR.push hA (ro:=false) (L:=L)) h.rt
 have hgm:=fun st=>hg r.m st
 rw[hmq]at hgm
 by_cases he:a=s.length
 ·have e1:s.take a.toNat=s:=by rw[List.take_of_length_le (by omega)]
  rw[e1]
  unfold Ro.av Mea.av at *
  repeat'(first|refine ZE ?_|refine ZD ?_|refine ZG Y ?_|refine ZI Y Y ?_|refine ZQ Y Y Y Y ?_|refine Z9 Y ?_|refine Zi Y Y Y Y ?_|refine ZB Y ?_|refine ZC ?_|(refine cm0 Y Y Y ?_ ?_<;>intro _<;>try omega)|refine ZU Y ?_|refine ZF Y ?_|refine Zc Y Y Y ?_|refine ZA Y Y Y (hC _) ?_|refine ZA Y Y Y (hgm _) ?_|refine ZH ?_|refine ZP ?_|refine ZL ?_|refine ZW ?_)
  all_goals try first|contradiction|omega
  refine ZX hA (by simp) Y Y Y Y ?_
  rfl
 ·obtain⟨hz,x,x1,x2,x3,x4⟩:=h.rt.nz (by rw[hmb];omega)
  have htx:ZGC N r=s:=h.tx;unfold ZGC at htx;rw[if_neg hz]at htx
  obtain⟨pre,leaf,post,t1,t2,t3,t4,t5⟩:=ZTd comp_b hq hN r.h r.at_ x a x1 x3 h0 (by rw[x4,hmb];omega)
  rw[htx]at t1
  have el:∀l:B8,(JQ l).b=l.length:=fun l=>rfl
  rw[el]at t2 t3 t4;rw[el]at t4;rw[hp]at t5;subst t1
  have hlen:(pre++leaf++post).length=pre.length+leaf.length+post.length:=by simp[Nat.add_assoc]
  have hW:=Zcc (Zrw A r hq hg) ZlK hN (fun s=>hR.push hA (ro:=false) (L:=[.arr 5 0 [r.av],.arr 1 0 [.func (.func g) [] []],.arr 1 0 [.int .i64 s]])) h.rt hz a ⟨h0,by omega,by omega⟩ 0 ⟨by decide,by decide⟩
  rw[Int.zero_add,t2,t5]at hW
  have hin:=fun st=>hf leaf (a-pre.length) t3 (by omega) (by omega) st
  have hct:((pre++leaf++post).take a.toNat).countP p=pre.countP p+(leaf.take (a-pre.length).toNat).countP p:=by
   rw[show a.toNat=pre.length+(a-pre.length).toNat by omega,List.append_assoc,List.take_length_add_append,List.take_append_of_le_length (by omega),List.countP_append]
  have hb1:=List.countP_le_length (p:=p) (l:=pre);have hb2:=List.countP_le_length (p:=p) (l:=leaf.take (a-(pre.length:Int)).toNat);rw[List.length_take]at hb2;rw[hct]
  simp only at hW
  generalize (JS (QU Mea.b) q N r.h r.at_ a).2.1=path at *
  unfold ZJT at hW
  unfold Ro.av at *
  repeat'(first|refine ZE ?_|refine ZD ?_|refine ZG Y ?_|refine ZI Y Y ?_|refine ZQ Y Y Y Y ?_|refine Z9 Y ?_|refine Zi Y Y Y Y ?_|refine Zp Y Y ?_|refine ZB Y ?_|refine ZC ?_|(refine cm0 Y Y Y ?_ ?_<;>intro _<;>try omega)|refine ZF Y ?_|refine Zr Y Y (by omega) ?_|refine YN Y Y ?_|refine Zc Y Y Y ?_|refine Zy Y Y Y Y Y Y ?_|refine ZA Y Y Y (hC _) ?_|refine ZA Y Y Y (hW) ?_|refine ZA Y Y Y (hin _) ?_|refine ZH ?_|refine ZP ?_|refine ZL ?_)
  all_goals try first|contradiction|omega
  refine ZX hA (by simp) Y Y Y Y ?_
  rfl
theorem ZpW{p:UInt8->Bool}(hg:Zq9 g p)(s:B8)(a:Int)(h0:0<=a)(h1:a<=s.length)(hs:s.length<100001)(st:St):
 S Tb ZA7 [.str s,.int .i64 a,.func (.func g) [] []] st=some (.tup [.int .i64 ((s.take a.toNat).countP p),.int .i64 0],st):=by
 refine QA Y (fun A hA=>?_)
 have hC:=fun st=>ZXp g p hg (s.take a.toNat) (by rw[List.length_take];omega) st
 repeat'(first|refine ZE ?_|refine ZD ?_|refine ZG Y ?_|refine Z9 Y ?_|refine Zi Y Y Y Y ?_|refine ZB Y ?_|refine ZC ?_|refine Q4 Y ?_|(refine cm0 Y Y Y ?_ ?_<;>intro _<;>try omega)|refine ZF Y ?_|refine ZGR Y Y (by omega) ?_|refine ZA Y Y Y (hC _) ?_|refine ZH ?_|refine ZP ?_|refine ZL ?_)
 all_goals try first|contradiction|omega
 refine ZX hA (by simp) Y Y Y Y ?_
 rfl
theorem ZpX(s:B8)(a:Int)(h0:0<=a)(h1:a<=s.length)(hs:s.length<100001)(st:St):
 S Tb ZA5 [.str s,.int .i64 a] st=some (.tup [.int .i64 ((s.take a.toNat).countP QB),.int .i64 0],st):=by
 refine QA Y (fun A hA=>?_)
 have hC:=fun st=>ZpW Zi0 s a h0 h1 hs st
 repeat'(first|refine ZE ?_|refine ZD ?_|refine ZG Y ?_|refine Zp Y Y ?_|refine ZB Y ?_|refine ZC ?_|refine ZA Y Y Y (hC _) ?_|refine ZP ?_|refine ZL ?_)
 all_goals try contradiction
 refine ZX hA (by simp) Y Y Y Y ?_
 rfl
theorem Zvk:ZNQ ZBl Mea.l:=fun m st=>by
 refine QA Y (fun A hA=>?_)
 unfold Mea.av
 repeat'(first|refine ZE ?_|refine ZD ?_|refine ZG Y ?_|refine ZI Y Y ?_|refine ZQ Y Y Y Y ?_|refine ZB Y ?_|refine ZC ?_|refine Zc Y Y Y ?_|refine ZP ?_|refine ZL ?_)
 refine ZX hA (by simp) Y Y Y Y ?_
 rfl
theorem Zcj{b:Nat}{N:ZO}(hN:GoodN N)(hR:Rd st la (b+5) N){r:Ro}(h:Rt N r s)(h0:0<=a)(h1:a<=s.length)(hs:s.length<=100000):
 S Tb ZBF [.ptr la (b+5) 0 0 0,r.av,.int .i64 a] st=some (.tup [.int .i64 ((s.take a.toNat).countP QB),.int .i64 0],st):=by
 refine QA Y (fun A hA=>?_)
 have hB:=fun L=>Zrx Zcb Zvk (p:=QB) (fun l=>rfl) (fun s a h0 h1 hs st=>ZpX s a h0 h1 hs st) hN (hR.push hA (ro:=false) (L:=L)) h h0 h1 hs
 unfold Ro.av at *
 repeat'(first|refine ZE ?_|refine ZD ?_|refine ZG Y ?_|refine ZQ Y Y Y Y ?_|refine Zp Y Y ?_|refine ZB Y ?_|refine ZC ?_|refine Zc Y Y Y ?_|refine ZA Y Y Y (hB _) ?_|refine ZP ?_|refine ZL ?_)
 all_goals try contradiction
 refine ZX hA (by simp) Y Y Y Y ?_
 rfl
theorem ZjE{b:Nat}{N:ZO}(hN:GoodN N)(hR:Rd st la (b+5) N){r:Ro}(h:Rt N r s)(hs:s.length<=100000):
 S Tb Yv [.ptr la (b+5) 0 0 0,r.av,.int .i64 s.length] st=some (.tup [.bool true,.int .i64 0],st):=by
 have hm:=h.m hN
 have hmb:r.m.b=s.length:=by rw[hm];rfl
 refine QA Y (fun A hA=>?_)
 have hC:=fun L=>ZDx (hR.push hA (ro:=false) (L:=L)) h.rt
 rw[<- hmb]
 unfold Ro.av at *
 repeat'(first|refine ZE ?_|refine ZD ?_|refine ZG Y ?_|refine ZI Y Y ?_|refine ZQ Y Y Y Y ?_|refine Z9 Y ?_|refine Zi Y Y Y Y ?_|refine ZB Y ?_|refine ZC ?_|(refine cm0 Y Y Y ?_ ?_<;>intro _<;>try omega)|refine ZU Y ?_|refine ZF Y ?_|refine Zc Y Y Y ?_|refine ZA Y Y Y (hC _) ?_|refine ZH ?_|refine ZP ?_|refine ZL ?_|refine ZW ?_)
 all_goals try first|contradiction|omega
 refine ZX hA (by simp) Y Y Y Y ?_
 rfl
theorem Zm0{b:Nat}{N:ZO}(hN:GoodN N)(hR:Rd st la (b+5) N){r:Ro}(h:Rt N r s){c:UInt8}(hi:s[i]?=some c)(hs:s.length<=100000):
 S Tb Yv [.ptr la (b+5) 0 0 0,r.av,.int .i64 i] st=some (.tup [.bool (ZAg c),.int .i64 0],st):=by
 have hm:=h.m hN
 have hmb:r.m.b=s.length:=by rw[hm];rfl
 have hil:=(List.getElem?_eq_some_iff.1 hi).1
 have hbb:ZAg c=(decide (((c.toNat:Nat):Int)<128) || decide (191<((c.toNat:Nat):Int))):=by
  unfold ZAg
  apply Bool.eq_iff_iff.2
  simp
  omega
 refine QA Y (fun A hA=>?_)
 have hC:=fun L=>ZDx (hR.push hA (ro:=false) (L:=L)) h.rt
 have hB:=fun L=>Zvh hN (hR.push hA (ro:=false) (L:=L)) h hi hs
 rw[hbb]
 by_cases q1:((c.toNat:Nat):Int)<128
 ·rw[decide_eq_true q1,Bool.true_or]
  unfold Ro.av at *
  repeat'(first|refine ZE ?_|refine ZD ?_|refine ZG Y ?_|refine ZI Y Y ?_|refine ZQ Y Y Y Y ?_|refine Z9 Y ?_|refine Ji Y Y ?_|refine Zi Y Y Y Y ?_|refine Zp Y Y ?_|refine ZB Y ?_|refine ZC ?_|(refine cm0 Y Y Y ?_ ?_<;>intro _<;>try omega)|refine ZF Y ?_|refine Zc Y Y Y ?_|refine ZA Y Y Y (hC _) ?_|refine ZA Y Y Y (hB _) ?_|refine ZH ?_|refine ZP ?_|refine ZL ?_)
  all_goals try first|contradiction|omega
  refine ZX hA (by simp) Y Y Y Y ?_
  rfl
 ·by_cases q2:191<((c.toNat:Nat):Int)
  ·rw[decide_eq_true q2,Bool.or_true]
   unfold Ro.av at *
   repeat'(first|refine ZE ?_|refine ZD ?_|refine ZG Y ?_|refine ZI Y Y ?_|refine ZQ Y Y Y Y ?_|refine Z9 Y ?_|refine Zi Y Y Y Y ?_|refine Zp Y Y ?_|refine ZB Y ?_|refine ZC ?_|(refine cm0 Y Y Y ?_ ?_<;>intro _<;>try omega)|refine ZF Y ?_|refine Zc Y Y Y ?_|refine ZA Y Y Y (hC _) ?_|refine ZA Y Y Y (hB _) ?_|refine ZH ?_|refine ZP ?_|refine ZL ?_)
   all_goals try first|contradiction|omega
   refine ZX hA (by simp) Y Y Y Y ?_
   rfl
  ·rw[decide_eq_false q1,decide_eq_false q2,Bool.or_false]
   unfold Ro.av at *
   repeat'(first|refine ZE ?_|refine ZD ?_|refine ZG Y ?_|refine ZI Y Y ?_|refine ZQ Y Y Y Y ?_|refine Z9 Y ?_|refine Zi Y Y Y Y ?_|refine Zp Y Y ?_|refine ZB Y ?_|refine ZC ?_|(refine cm0 Y Y Y ?_ ?_<;>intro _<;>try omega)|refine ZF Y ?_|refine Zc Y Y Y ?_|refine ZA Y Y Y (hC _) ?_|refine ZA Y Y Y (hB _) ?_|refine ZH ?_|refine ZP ?_|refine ZL ?_)
   all_goals try first|contradiction|omega
   refine ZX hA (by simp) Y Y Y Y ?_
   rfl
theorem Zvl{p:UInt8->Bool}{k:Nat}(h:k<s.countP p):∃i c,NthB p s k i c:=by
 have key:∀n,n<=s.length->k<(s.take n).countP p->∃i c,NthB p s k i c:=by
  intro n
  induction n with
  | zero=>intro _ h;simp at h
  | succ n ih =>
   intro hn hk
   rcases Nat.lt_or_ge k ((s.take n).countP p) with q|q
   ·exact ih (by omega) q
   ·obtain⟨c,hc⟩:∃c,s[n]?=some c:=⟨_,jE (by omega)⟩
    have hs:=YH (p:=p) hc
    by_cases hp:p c=true
    ·rw[if_pos hp]at hs
     exact⟨n,c,hc,hp,by omega⟩
    ·rw[if_neg hp]at hs;omega
 exact key s.length (Nat.le_refl _) (by rw[List.take_length];exact h)
section
variable {N:ZO}{r:Ro}{s:B8}{la b:Nat}
theorem Zud(hN:GoodN N)(h:Rt N r s)(hs:s.length<=100000){k:Int}(h0:0<=k)(h1:k<=r.m.l):∃a:Int,0<=a/\a<=s.length/\(((s.take a.toNat).countP QB:Nat):Int)=k/\(0<a->s[(a-1).toNat]?=some 10) /\
 ∀ {st:St},Rd st la (b+5) N->S Tb Jy [.ptr la (b+5) 0 0 0,r.av,.int .i64 k] st=some (.tup [.int .i64 a,.int .i64 0],st):=by
 have hm:=h.m hN
 have hmr:r.m.l=s.countP QB:=by rw[hm];rfl
 rcases Int.lt_or_le 0 k with q|q
 ·obtain⟨i,c,hi⟩:=Zvl (p:=QB) (s:=s) (k:=(k-1).toNat) (by omega)
  have hil:=(List.getElem?_eq_some_iff.1 hi.get).1;have h2:=YH (p:=QB) hi.get;rw[if_pos hi.is,hi.cnt]at h2
  refine⟨(i:Int)+1,by omega,by omega,?_,fun _=>?_,fun hR=>?_⟩
  ·rw[show ((i:Int)+1).toNat=i+1 by omega,h2];omega
  ·have hc : c = 10 := by
    have:=hi.is
    unfold QB at this
    have h10:c.toNat=10:=by simpa using this
    exact UInt8.toNat_inj.1 h10
   rw[show ((i:Int)+1-1).toNat=i by omega,hi.get,hc]
  ·have:=Zvi hN hR h hi hs
   rw[show (((k-1).toNat:Nat):Int)+1=k by omega]at this
   exact this
 ·obtain rfl:k=0:=by omega
  exact⟨0,by omega,by omega,by simp,fun e=>by omega,fun hR=>ZpV hN hR h hs⟩
end
structure RdO(st:St)(la ix:Nat)(N:ZO)(ks:List (Nat × Nat)):Prop where
 at_:∃a0 a1 im a3 a4 a5,st.get la ix=some (.arr 6 0 [.agg [a0,a1,.map la im,a3,a4,a5]])/\st.get la im=some (.map (N.map nodeAV))/\(la,ix)∉ks/\(la,im)∉ks
theorem RdO.rd{N:ZO}{ks:List (Nat × Nat)}(h:RdO st la ix N ks):Rd st la ix N:=by
 obtain⟨a0,a1,im,a3,a4,a5,h1,h2,_⟩:=h;exact⟨a0,a1,im,a3,a4,a5,h1,h2⟩
theorem RdO.put{L:List Blk}{ks:List (Nat × Nat)}{b0:List Blk}{N:ZO}(h:RdO ⟨A0,false,L0⟩ la ix N ks)(H:Cl ⟨A0,false,L0⟩ ks b0)(hst:(⟨A,false,L⟩:St)=Zv ⟨A0,false,L0⟩ ks bs)(hl:bs.length=ks.length)(hn:bs.all noH=true)(T:List Blk):RdO ⟨A,false,L++T⟩ la ix N ks:=by
 obtain⟨a0,a1,im,a3,a4,a5,h1,h2,h3,h4⟩:=h;exact⟨a0,a1,im,a3,a4,a5,Zu2 H hst hl hn h3 h1 T,Zu2 H hst hl hn h4 h2 T,h3,h4⟩
theorem RdO.push{L:List Blk}{ks:List (Nat × Nat)}{N:ZO}(h:RdO st la ix N ks)(hA:A=st.A++[(st.ro,st.L)]):RdO ⟨A,false,L⟩ la ix N ks:=by
 obtain⟨a0,a1,im,a3,a4,a5,h1,h2,h3,h4⟩:=h;exact⟨a0,a1,im,a3,a4,a5,ZV hA h1,ZV hA h2,h3,h4⟩
theorem Zry{L:List Blk}{ks:List (Nat × Nat)}(h:Cl ⟨A,false,L⟩ ks bs)(T:List Blk):Cl ⟨A,false,L++T⟩ ks bs :=
 ⟨h.nd,h.len,fun k hk=>Zmx (h.wr k hk),fun j lv ix b h1 h2=>XI (h.get j lv ix b h1 h2)⟩
theorem ZlN:∀ {ks:List (Nat × Nat)} {A:List (Bool × List Blk)} {L:List Blk} {b0 bs:List Blk} {T:List Blk},Cl ⟨A,false,L⟩ ks b0->bs.length=ks.length->bs.all noH=true->Zv ⟨A,false,L++T⟩ ks bs=⟨(Zv ⟨A,false,L⟩ ks bs).A,false,(Zv ⟨A,false,L⟩ ks bs).L++T⟩
 | [],_,_,_,bs,_,_,_,_=>by cases bs<;>rfl
 | _::_,_,_,_,[],_,_,h,_=>by simp at h
 | k::ks,A,L,[],b::bs,T,H,_,_=>by have:=H.len;simp at this
 | k::ks,A,L,b'::b0,b::bs,T,H,hl,hn=>by
  simp only[List.all_cons,Bool.and_eq_true]at hn;have hg:=H.get 0 k.1 k.2 b' rfl rfl;have ht:=H.tail hn.1;rw[Zv,Zv,ZjB hg]
  have e:St.upd ⟨A,false,L⟩ k.1 k.2 b=⟨(St.upd ⟨A,false,L⟩ k.1 k.2 b).A,false,(St.upd ⟨A,false,L⟩ k.1 k.2 b).L⟩:=by
   have:=ZjC (A:=A) (L:=L) (lv:=k.1) (ix:=k.2) (b:=b)
   cases hq:St.upd ⟨A,false,L⟩ k.1 k.2 b with
   | mk a r l=>rw[hq]at this;simp only at this;rw[this]
  rw[e]at ht
  rw[ZlN ht (by simpa using hl) hn.2,<- e]
theorem Zm1{L:List Blk}{ks:List (Nat × Nat)}{b0 bs':List Blk}(T:List Blk)(H:Cl ⟨A0,false,L0⟩ ks b0)(hst:(⟨A,false,L⟩:St)=Zv ⟨A0,false,L0⟩ ks bs)(hl:bs.length=ks.length)(hn:bs.all noH=true)(hl':bs'.length=ks.length)(hn':bs'.all noH=true):
 ∃A2 L2,Zv ⟨A,false,L++T⟩ ks bs'=⟨A2,false,L2++T⟩/\(⟨A2,false,L2⟩:St)=Zv ⟨A0,false,L0⟩ ks bs':=by
 have H1:=H.put hl hn;rw[<- hst]at H1;refine⟨_,_,ZlN H1 hl' hn',?_⟩;rw[ZlM,hst,ZCn H.nd hl hl']
def Qz(ap:AV)(r:Ro)(lev:AV)(vis at_:Int):Blk:=.arr 9 0 [.agg [ap,.int .u64 r.at_,.int .i64 r.h,.int .i64 r.m.b,.int .i64 r.m.r,.int .i64 r.m.l,lev,.int .i64 vis,.int .i64 at_]]
def CLv.av(N:ZO)(l:CLv):AV:=.agg [.int .i64 l.n,.str (QP N l.o).text,.lit ((QP N l.o).ks.map Kid.av),.int .i64 l.f,.int .i64 l.t]
def Qx(ap:AV)(r:Ro)(lv li ver m:Nat)(es:LV)(vis at_:Int):List Blk:=[Qz ap r (.ref lv li ver 0 m) vis at_,.arr 5 ver es]
theorem Zue{L:List Blk}{lv m b:Nat}{r:Ro}{vis:Int}{N:ZO}(H:Cl ⟨A,false,L⟩ [(lv,ic),(lv,li)] (Qx (.ptr la (b+5) 0 0 0) r lv li ver m es vis at_))(hm:m<=es.length)(hm2:m<1000)(hv:0<=vis/\vis<1000000000)
 (hla:la<=lv) (hR:Rd ⟨A,false,L⟩ la (b+5) N) {o:Nat} {x:Nd} (hx:lk N o=some x) (hl:x.ks.length<=4) (f t:Int) :
 ∃A2 L2 bx,S Tb Jp [.ptr lv ic 0 0 0,.int .u64 o,.int .i64 f,.int .i64 t] ⟨A,false,L⟩=some (.int .i64 0,⟨A2,false,L2++[bx]⟩) /\
  (⟨A2,false,L2⟩:St)=Zv ⟨A,false,L⟩ [(lv,ic),(lv,li)] (Qx (.ptr la (b+5) 0 0 0) r lv li (ver+1) (m+1) (es.take m++[CLv.av N ⟨x.h,o,f,t⟩]) (vis+1) at_):=by
 have hG:=ZL6 hR hx hl;have hc0:=H.get 0 lv ic _ rfl rfl
 have hc:=fun T=>XI (T:=T) hc0
 have hnd:=Q5 hx;have hcp:x.copy.av=.agg [.int .i64 x.h,.str x.text,.lit (x.ks.map Kid.av)]:=rfl;rw[hcp]at hG
 have hav:CLv.av N ⟨x.h,o,f,t⟩=.agg [.int .i64 x.h,.str x.text,.lit (x.ks.map Kid.av),.int .i64 f,.int .i64 t]:=by
  unfold CLv.av;simp only;rw[hnd]
 rw[hav];obtain⟨A2,L2,e2⟩:∃A2 L2,(⟨A2,false,L2⟩:St)=Zv ⟨A,false,L⟩ [(lv,ic),(lv,li)] (Qx (.ptr la (b+5) 0 0 0) r lv li (ver+1) (m+1) (es.take m++[.agg [.int .i64 x.h,.str x.text,.lit (x.ks.map Kid.av),.int .i64 f,.int .i64 t]]) (vis+1) at_):=⟨_,_,ZlM⟩;refine⟨A2,L2,.arr 3 0 [.agg [.int .i64 x.h,.str x.text,.lit (x.ks.map Kid.av)]],XW Y ?_,e2⟩;unfold Qz at hc0 hc;have hst:(⟨A,false,L⟩:St)=Zv ⟨A,false,L⟩ [(lv,ic),(lv,li)] (Qx (.ptr la (b+5) 0 0 0) r lv li ver m es vis at_):=H.same.symm
 repeat'(first|refine Zt Y hc0 Y Y ?_|refine Zt Y (hc _) Y Y ?_|refine ZXs Y Y Y ?_|refine ZE ?_|refine ZD ?_|refine ZG Y ?_|refine ZI Y Y ?_|refine Zp Y Y ?_|refine ZB Y ?_|refine ZC ?_|refine Ze Y Y ?_|refine Ql Y Y Y ?_|(refine cm0 Y Y Y ?_ ?_<;>intro _<;>try omega)|refine ZF Y ?_|refine Zn Y Y Y ?_|refine Zw Y Y Y ?_|refine Q1 Y Y Y Y Y Y ?_|refine ZA Y Y Y (hG) ?_|refine ZH ?_)
 all_goals try contradiction
 refine ZuV (j:=1) H hst Y Y Y Y hm Y Y Y Y Y (by simp;omega) (by decide) (fun A3 L3 e3 a3 l3=>?_)
 repeat'(first|refine ZI Y Y ?_|refine Ze Y Y ?_)
 refine Zmy (j:=0) H e3 Y Y Y Y Y Y Y (Qu _ (Nat.lt_succ_self _)) Y (fun A4 L4 e4 a4 l4=>?_)
 have hc4:=Zrr H e4 rfl rfl (j:=0) rfl rfl
 repeat'(first|refine Zt Y (hc4 _) Y Y ?_|refine ZE ?_|refine ZD ?_|refine ZG Y ?_|refine ZI Y Y ?_|refine ZB Y ?_|refine ZC ?_|refine Ze Y Y ?_|refine Zr Y Y (by omega) ?_)
 refine Zmy (j:=0) H e4 Y Y Y Y Y Y Y Y Y (fun A5 L5 e5 a5 l5=>?_)
 repeat'(first|refine ZE ?_|refine ZD ?_|refine ZG Y ?_|refine ZB Y ?_|refine ZC ?_|refine ZP ?_|refine ZL ?_)
 have e52:(⟨A5,false,L5⟩:St)=⟨A2,false,L2⟩:=by
  rw[e5,e2];rfl
 simp only[St.mk.injEq,true_and]at e52;refine (Jo (.inr Y) Y Y Y Y).trans ?_;rw[e52.1,e52.2];rfl
theorem ZpY{L:List Blk}{b:Nat}{r:Ro}{vis:Int}{N:ZO}(hc0:L[ic]?=some (Qz (.ptr la (b+5) 0 0 0) r .nils vis at_))(hv:0<=vis/\vis<1000000000)
 (hR:Rd ⟨A,false,L⟩ la (b+5) N) {o:Nat} {x:Nd} (hx:lk N o=some x) (hl:x.ks.length<=4) (f t:Int) :
 ∃bx,S Tb Jp [.ptr A.length ic 0 0 0,.int .u64 o,.int .i64 f,.int .i64 t] ⟨A,false,L⟩=some (.int .i64 0,⟨A,false,(L++[bx,Blk.arr 5 0 [CLv.av N ⟨x.h,o,f,t⟩]]).set ic (Qz (.ptr la (b+5) 0 0 0) r (.ref A.length (L.length+1) 0 0 1) (vis+1) at_)⟩):=by
 have hG:=ZL6 hR hx hl
 have hc:=fun T=>ZDw (T:=T) hc0
 have hlt:=(List.getElem?_eq_some_iff.1 hc0).1;have hnd:=Q5 hx;have hcp:x.copy.av=.agg [.int .i64 x.h,.str x.text,.lit (x.ks.map Kid.av)]:=rfl;rw[hcp]at hG
 have hav:CLv.av N ⟨x.h,o,f,t⟩=.agg [.int .i64 x.h,.str x.text,.lit (x.ks.map Kid.av),.int .i64 f,.int .i64 t]:=by
  unfold CLv.av;simp only;rw[hnd]
 rw[hav];refine⟨.arr 3 0 [.agg [.int .i64 x.h,.str x.text,.lit (x.ks.map Kid.av)]],XW Y ?_⟩;unfold Qz at hc0 hc ⊢
 repeat'(first|refine ZQ Y hc0 Y Y ?_|refine ZQ Y (hc _) Y Y ?_|refine ZXs Y Y Y ?_|refine ZE ?_|refine ZD ?_|refine ZG Y ?_|refine ZI Y Y ?_|refine Zp Y Y ?_|refine ZB Y ?_|refine ZC ?_|refine Ze Y Y ?_|refine Ql Y Y Y ?_|(refine cm0 Y Y Y ?_ ?_<;>intro _<;>try omega)|refine ZF Y ?_|refine Zn Y Y Y ?_|refine Zw Y Y Y ?_|refine Q1 Y Y Y Y Y Y ?_|refine ZA Y Y Y (hG) ?_|refine ZH ?_)
 all_goals try contradiction
 refine ZDu Y Y Y (by simp) (by decide) Y ?_
 repeat'(first|refine ZI Y Y ?_|refine Ze Y Y ?_)
 rw[List.append_assoc];refine Qs (hc _) Y Y Y (Qu _ (Nat.lt_succ_self _)) Y ?_
 have hc4:∀c,((L++([Blk.arr 3 0 [.agg [.int .i64 x.h,.str x.text,.lit (x.ks.map Kid.av)]]]++[Blk.arr 5 0 [.agg [.int .i64 x.h,.str x.text,.lit (x.ks.map Kid.av),.int .i64 f,.int .i64 t]]])).set ic c)[ic]?=some c:=fun c=>List.getElem?_set_self (by simp;omega)
 repeat'(first|refine ZQ Y (hc4 _) Y Y ?_|refine ZE ?_|refine ZD ?_|refine ZG Y ?_|refine ZI Y Y ?_|refine ZB Y ?_|refine ZC ?_|refine Ze Y Y ?_|refine Zr Y Y (by omega) ?_)
 refine Qs (hc4 _) Y Y Y Y Y ?_
 repeat'(first|refine ZE ?_|refine ZD ?_|refine ZG Y ?_|refine ZB Y ?_|refine ZC ?_|refine ZP ?_|refine ZL ?_)
 refine (Jo (.inr Y) Y Y Y Y).trans ?_;rw[List.set_set]
 simp
theorem Zrz{L T:List Blk}{lv m b:Nat}{r:Ro}{b0:List Blk}{vis:Int}{N:ZO}(H:Cl ⟨A0,false,L0⟩ [(lv,ic),(lv,li)] b0)
 (hst:(⟨A,false,L⟩:St)=Zv ⟨A0,false,L0⟩ [(lv,ic),(lv,li)] (Qx (.ptr la (b+5) 0 0 0) r lv li ver m es vis at_)) (hm:m<=es.length) (hm2:m<1000) (hv:0<=vis/\vis<1000000000) (hla:la<=lv) (hR:RdO ⟨A0,false,L0⟩ la (b+5) N [(lv,ic),(lv,li)]) (hN:GoodN N)
 {l:CLv} {n:Nat} (hl:CLvOk N s l) (hn:l.n=n+1) {a:Int} (h0:l.f<=a) (h1:a<l.t) (hs:s.length<=100000) {k:List Fr} {Q:Jh}
 (hQ:∀A2 L2 T2,(⟨A2,false,L2⟩:St)=Zv ⟨A0,false,L0⟩ [(lv,ic),(lv,li)] (Qx (.ptr la (b+5) 0 0 0) r lv li (ver+1) (m+1) (es.take m++[CLv.av N (l.down N a)]) (vis+1) at_) ->
  Rk (S Tb) k Q .norm [(0,.ptr lv ic 0 0 0),(1,.int .i64 a),(9,.bool true)] ⟨A2,false,L2++T2⟩) :
 Ru (S Tb) p_cursor_path_enter_24.loop (.blk 4::k) Q [(0,.ptr lv ic 0 0 0),(1,.int .i64 a),(8,.int .i64 l.f),(9,.bool false),(97,.lit ((QP N l.o).ks.map Kid.av)),(98,.int .i64 (QP N l.o).ks.length),(99,.int .i64 0)] ⟨A,false,L++T⟩:=by
 obtain⟨d1,d2,d3,d4,d5,kd,hkd,ko,kb⟩:=hl.down hN hn h0 h1;have hlen:=hl.len hN;have hdl:=d1.len hN;obtain⟨y,y1,y2,y3⟩:=d1.nd;have eo:(l.down N a).o=kd.at_:=ko;have ef:(l.down N a).f=l.f+Qw Mea.b (QP N l.o).ks (ZBC N l.o (a-l.f)):=rfl
 have et:(l.down N a).t=l.f+Qw Mea.b (QP N l.o).ks (ZBC N l.o (a-l.f))+kd.m.b:=by
  show l.f+X7 N l.o (a-l.f)+ZKf N l.o (a-l.f)=_
  rw[kb];rfl
 have hyl:y.ks.length<=4:=((hN _ y y1).1).len;have hfit:=hl.fit hN
 have hk4:(QP N l.o).ks.length<=4:=by
  obtain⟨x,x1,_⟩:=hl.nd;rw[Q5 x1];exact ((hN _ x x1).1).len
 have hdown:l.down N a=⟨y.h,kd.at_,(l.down N a).f,(l.down N a).t⟩:=by
  rw[<- eo,y2]
 generalize hI:ZBC N l.o (a-l.f)=I at *
 have hIl:=(List.getElem?_eq_some_iff.1 hkd).1
 have mono:∀i,i<=I->0<=Qw Mea.b (QP N l.o).ks i/\Qw Mea.b (QP N l.o).ks i<=Qw Mea.b (QP N l.o).ks I:=by
  intro i
  have key:∀(l:List Kid),(∀k∈l,0<=k.m.b)->0<=(Z7 (l.map Kid.m)).b:=by
   intro l
   induction l with
   | nil=>intro _;exact Int.le_of_eq comp_b.zero.symm
   | cons y m ih2 =>
    intro hq;rw[jC,Z7,comp_b.add]
    have:=ih2 (fun q hq2=>hq q (List.mem_cons_of_mem _ hq2))
    have:=hq y (by simp)
    omega
  intro hi
  refine⟨key _ (fun k hk=>hfit k (List.mem_of_mem_take hk)),?_⟩
  have e:=congrArg (fun l=>(Z7 (l.map Kid.m)).b) (List.take_append_drop i ((QP N l.o).ks.take I))
  simp only[List.map_append,ZAH,comp_b.add,List.take_take,Nat.min_eq_left hi]at e
  have:=key (((QP N l.o).ks.take I).drop i) (fun k hk=>hfit k (List.mem_of_mem_take (List.mem_of_mem_drop hk)))
  unfold Qw;omega
 refine Z2 (α:=Nat × List Blk) (fun p=>[(0,.ptr lv ic 0 0 0),(1,.int .i64 a),(8,.int .i64 (l.f+Qw Mea.b (QP N l.o).ks p.1)),(9,.bool false),(97,.lit ((QP N l.o).ks.map Kid.av)),(98,.int .i64 (QP N l.o).ks.length),(99,.int .i64 p.1)])
  (fun p=>⟨A,false,L++p.2⟩) (fun p=>p.1<=I) (fun p=>I-p.1) (0,T) (by simp[Qw,Z7,comp_b.zero]) rfl (Nat.zero_le _) ?_
 rintro⟨i,G⟩ hi
 replace hi:i<=I:=hi
 simp only
 obtain⟨k1,hk1⟩:∃k,(QP N l.o).ks[i]?=some k:=⟨_,jE (by omega)⟩
 have qk:0<=((i:Nat):Int)/\(QP N l.o).ks[((i:Nat):Int).toNat]?=some k1:=⟨by omega,by rw[show ((i:Nat):Int).toNat=i by omega];exact hk1⟩
 have hsu:=ZK4 comp_b hk1;have hm1:=mono i hi;have hb0:=hfit k1 (jM hk1);have hfr:((l.f+Qw Mea.b (QP N l.o).ks i:Int))=l.f+Qw Mea.b (QP N l.o).ks i:=rfl
 have hb1:k1.m.b<=65536:=by
  obtain⟨x,x1,_⟩:=hl.nd
  have:=(hN _ x x1).1.ksFit
  rw[Q5 x1]at hk1;exact (this k1 (jM hk1)).2
 have hfb:0<=l.f+Qw Mea.b (QP N l.o).ks i/\l.f+Qw Mea.b (QP N l.o).ks i<=200000:=by omega
 have e8:l.f+Qw Mea.b (QP N l.o).ks (i+1)=l.f+Qw Mea.b (QP N l.o).ks i+k1.m.b:=by omega
 rcases Nat.lt_or_ge i I with hlt|hge
 ·have hm2:=mono (i+1) hlt
  have hnot:¬ a<l.f+Qw Mea.b (QP N l.o).ks i+k1.m.b:=by omega
  have hG:∀c:Blk,L++G++[c]=L++(G++[c]):=fun c=>List.append_assoc ..
  generalize hL3:L++G=L3 at *
  unfold Kid.av at *
  simp only at *
  clear hsu hm1 hm2 hfr
  generalize l.f+Qw Mea.b (QP N l.o).ks i=fr at *
  repeat'(first|refine Jw (f:=Kid.av) Y Y qk (fun _=>rfl) ?_|refine ZE ?_|refine ZD ?_|refine ZG Y ?_|refine ZI Y Y ?_|refine ZB Y ?_|refine ZC ?_|refine Ql Y Y Y ?_|refine Qt Y Y ?_|(refine cm0 Y Y Y ?_ ?_<;>intro _<;>try omega)|refine ZU Y ?_|refine ZF Y ?_|refine Zr Y Y (by omega) ?_|refine Zw Y Y Y ?_|refine Q1 Y Y Y Y Y Y ?_|refine ZH ?_|refine ZS ?_|refine Z5 ?_|refine QJ ?_)
  all_goals try first|contradiction|omega
  refine⟨(i+1,G++[.arr 4 0 [Kid.av k1]]),⟨?_,?_⟩,by simp only;omega,by simp only;omega⟩
  ·simp only
   rw[e8];rfl
  ·exact congrArg (St.mk _ false) (hG _)
 ·obtain rfl:i=I:=by omega
  obtain rfl:k1=kd:=Option.some.inj (hk1.symm.trans hkd)
  have hyes:a<l.f+Qw Mea.b (QP N l.o).ks i+k1.m.b:=by omega
  have hG:∀c:Blk,L++G++[c]=L++(G++[c]):=fun c=>List.append_assoc ..
  have H1:=H.put (bs':=Qx (.ptr la (b+5) 0 0 0) r lv li ver m es vis at_) rfl rfl;rw[<- hst]at H1;obtain⟨A2,L2,bx,hV,e2⟩:=Zue (Zry H1 (G++[.arr 4 0 [k1.av]])) hm hm2 hv hla (hR.put H hst rfl rfl _).rd y1 hyl (l.down N a).f (l.down N a).t;obtain⟨A3,L3',f1,f2⟩:=Zm1 (bs':=Qx (.ptr la (b+5) 0 0 0) r lv li (ver+1) (m+1) (es.take m++[CLv.av N (l.down N a)]) (vis+1) at_) (G++[.arr 4 0 [k1.av]]) H hst rfl rfl rfl rfl;rw[eo,<- hdown,f1]at e2;simp only[St.mk.injEq,true_and]at e2;obtain⟨rfl,rfl⟩:=e2;rw[eo,ef,et,<- hG]at hV;have hq:=hQ _ _ ((G++[.arr 4 0 [k1.av]])++[bx]) f2;rw[<- List.append_assoc]at hq;clear hsu hm1 hfr
  generalize hL3:L++G=L3 at *
  unfold Kid.av at *
  generalize l.f+Qw Mea.b (QP N l.o).ks i=fr at *
  repeat'(first|exact hq|refine Jw (f:=Kid.av) Y Y qk (fun _=>rfl) ?_|refine ZE ?_|refine ZD ?_|refine ZG Y ?_|refine ZI Y Y ?_|refine ZB Y ?_|refine ZC ?_|refine Ql Y Y Y ?_|refine Qt Y Y ?_|(refine cm0 Y Y Y ?_ ?_<;>intro _<;>try omega)|refine ZU Y ?_|refine ZF Y ?_|refine Zr Y Y (by omega) ?_|refine Zw Y Y Y ?_|refine Q1 Y Y Y Y Y Y ?_|refine ZA Y Y Y (hV) ?_|refine ZH ?_|refine Zz ?_|refine ZS ?_|refine Zk ?_|refine Zh Y ?_|refine ZQm Y ?_|refine Zx ?_)
  all_goals try first|contradiction|omega
structure EnS where
 k:Nat
 ver:Nat
 es:LV
 A:List (Bool × List Blk)
 L:List Blk
 T:List Blk
 xs:Env
theorem ZGF{α:Type}{l:List α}{k:Nat}{x:α}(h:l[k]?=some x):l.take (k+1)=l.take k++[x]:=by
 rw[List.take_add_one,h];rfl
theorem Zck{L T:List Blk}{lv k0 b:Nat}{r:Ro}{b0:List Blk}{vis:Int}{N:ZO}{xs:Env}(H:Cl ⟨A0,false,L0⟩ [(lv,ic),(lv,li)] b0)
 (hst:(⟨A,false,L⟩:St)=Zv ⟨A0,false,L0⟩ [(lv,ic),(lv,li)] (Qx (.ptr la (b+5) 0 0 0) r lv li ver k0 es vis at_)) (hla:la<=lv) (hR:RdO ⟨A0,false,L0⟩ la (b+5) N [(lv,ic),(lv,li)]) (hN:GoodN N)
 {rt:CLv} {n:Nat} (hrt:CLvOk N s rt) (hn:rt.n=n) (hn16:n<=16) {a:Int} (h0:rt.f<=a) (h1:a<rt.t) (hs:s.length<=100000) (hk0:1<=k0/\k0<=n+1) (hv:0<=vis/\vis<900000000) (hke:k0<=es.length) (hes:es.take k0=((QR N a n rt).take k0).map (CLv.av N)) {kf:List Fr} {Q:Jh}
 (hQ:∀A2 L2 T2 ver2 es2,(⟨A2,false,L2⟩:St)=Zv ⟨A0,false,L0⟩ [(lv,ic),(lv,li)] (Qx (.ptr la (b+5) 0 0 0) r lv li ver2 (n+1) es2 (vis+((n+1-k0:Nat):Int)) at_)->n+1<=es2.length->es2.take (n+1)=(QR N a n rt).map (CLv.av N) ->
  Rk (S Tb) kf Q .ret [(4,.int .i64 0)] ⟨A2,false,L2++T2⟩) :
 Ru (S Tb) p_cursor_path_enter_27.loop (.blk 2::kf) Q ((0,.ptr lv ic 0 0 0)::(1,.int .i64 a)::xs) ⟨A,false,L++T⟩:=by
 have hpl:=ZCr N a n rt
 refine Z2 (α:=EnS) (fun q=>(0,.ptr lv ic 0 0 0)::(1,.int .i64 a)::q.xs) (fun q=>⟨q.A,false,q.L++q.T⟩)
  (fun q=>(⟨q.A,false,q.L⟩:St)=Zv ⟨A0,false,L0⟩ [(lv,ic),(lv,li)] (Qx (.ptr la (b+5) 0 0 0) r lv li q.ver q.k q.es (vis+((q.k-k0:Nat):Int)) at_)/\k0<=q.k/\q.k<=n+1/\q.k<=q.es.length/\q.es.take q.k=((QR N a n rt).take q.k).map (CLv.av N)) (fun q=>n+1-q.k) ⟨k0,ver,es,A,L,T,xs⟩ rfl rfl ⟨by simp only[Nat.sub_self];rw[hst];simp,Nat.le_refl _,hk0.2,hke,hes⟩ ?_
 clear hst hes hke
 rintro⟨k,ver,es,A,L,T,xs⟩ ⟨hst,hk1,hk2,hke,hes⟩
 simp only at hst hk1 hk2 hke hes ⊢
 obtain⟨l,hl⟩:∃l,(QR N a n rt)[k-1]?=some l:=⟨_,jE (by rw[hpl];omega)⟩
 obtain⟨p1,p2,p3,p4,p5,p6⟩:=ZAm hN n rt hn hrt h0 h1 (k-1) l hl;have hll:=p1.len hN
 have hel:es[0+(((k:Nat):Int)-1).toNat]?=some (CLv.av N l):=by
  rw[show 0+(((k:Nat):Int)-1).toNat=k-1 by omega]
  have e1:(es.take k)[k-1]?=es[k-1]?:=List.getElem?_take_of_lt (by omega)
  rw[<- e1,hes,jG,List.getElem?_take_of_lt (by omega),hl];rfl
 have hc:=Zrr H hst rfl rfl (j:=0) rfl rfl;have hlv:=Zrr H hst rfl rfl (j:=1) rfl rfl
 have hwi:∀T,wIs 5 ver (St.get ⟨A,false,L++T⟩ lv li)=true:=fun T=>by rw[hlv T];simp[wIs]
 have hasc:∀c:List Blk,L++T++c=L++(T++c):=fun c=>List.append_assoc ..
 have hvis:0<=vis+((k-k0:Nat):Int)/\vis+((k-k0:Nat):Int)<1000000000:=by omega
 cases hln:l.n with
 | zero =>
  have hkn:k=n+1:=by omega
  subst hkn
  have hfull:es.take (n+1)=(QR N a n rt).map (CLv.av N):=by
   rw[hes,List.take_of_length_le (by rw[hpl];exact Nat.le_refl _)]
  have hav:CLv.av N l=.agg [.int .i64 ((0:Nat):Int),.str (QP N l.o).text,.lit ((QP N l.o).ks.map Kid.av),.int .i64 l.f,.int .i64 l.t]:=by
   unfold CLv.av;rw[hln]
  rw[hav]at hel;have hq:=hQ A L (T++[.arr 5 0 [.agg [.int .i64 ((0:Nat):Int),.str (QP N l.o).text,.lit ((QP N l.o).ks.map Kid.av),.int .i64 l.f,.int .i64 l.t]]]) ver es hst hke hfull;rw[<- hasc]at hq;unfold Qz at hc
  repeat'(first|exact hq|refine Zt Y (hc _) Y Y ?_|refine Xy Y Y (by omega) (hwi _) ?_|refine Zt Y (hlv _) hel Y ?_|refine ZE ?_|refine ZD ?_|refine ZG Y ?_|refine ZI Y Y ?_|refine ZB Y ?_|refine ZC ?_|refine Ze Y Y ?_|refine JI Y ?_|refine Ql Y Y Y ?_|(refine cm0 Y Y Y ?_ ?_<;>intro _<;>try omega)|refine ZU Y ?_|refine Qe Y Y (by omega) ?_|refine Zw Y Y Y ?_|refine Q1 Y Y Y Y Y Y ?_|refine ZP ?_|refine ZS ?_|refine ZW ?_|refine QS ?_|refine ZC0 ?_)
  all_goals try first|contradiction|omega
 | succ n' =>
  have hav:CLv.av N l=.agg [.int .i64 ((n'+1:Nat):Int),.str (QP N l.o).text,.lit ((QP N l.o).ks.map Kid.av),.int .i64 l.f,.int .i64 l.t]:=by
   unfold CLv.av;rw[hln]
  rw[hav]at hel
  have hnext:=Zcf N a n rt (k-1) l (by omega) hl
  rw[show k-1+1=k by omega]at hnext
  have hck:=fun (T:List Blk) (kf:List Fr) (Q:Jh)=>Zrz (T:=T) (k:=kf) (Q:=Q) H hst hke (by omega) hvis hla hR hN p1 hln p3 p4 hs
  have hgo:∀A2 L2 T2 (x:Nat × AV),(⟨A2,false,L2⟩:St)=Zv ⟨A0,false,L0⟩ [(lv,ic),(lv,li)] (Qx (.ptr la (b+5) 0 0 0) r lv li (ver+1) (k+1) (es.take k++[CLv.av N (l.down N a)]) (vis+((k-k0:Nat):Int)+1) at_) ->
   ∃q:EnS,((0,AV.ptr lv ic 0 0 0)::(1,AV.int .i64 a)::[x]=(0,AV.ptr lv ic 0 0 0)::(1,AV.int .i64 a)::q.xs/\(⟨A2,false,L2++T2⟩:St)=⟨q.A,false,q.L++q.T⟩) /\
    ((⟨q.A,false,q.L⟩:St)=Zv ⟨A0,false,L0⟩ [(lv,ic),(lv,li)] (Qx (.ptr la (b+5) 0 0 0) r lv li q.ver q.k q.es (vis+((q.k-k0:Nat):Int)) at_)/\k0<=q.k/\q.k<=n+1/\q.k<=q.es.length/\q.es.take q.k=((QR N a n rt).take q.k).map (CLv.av N))/\n+1-q.k<n+1-k:=by
   intro A2 L2 T2 x e2
   refine⟨⟨k+1,ver+1,es.take k++[CLv.av N (l.down N a)],A2,L2,T2,[x]⟩,⟨rfl,rfl⟩,⟨?_,by simp only;omega,by simp only;omega,by simp only[lL,List.length_take,List.length_singleton];omega,?_⟩,by simp only;omega⟩
   ·simp only
    rw[e2,show vis+((k+1-k0:Nat):Int)=vis+((k-k0:Nat):Int)+1 by omega]
   ·simp only
    rw[List.take_of_length_le (by simp;omega),ZGF hnext,List.map_append,hes];rfl
  unfold Qz at hc
  repeat'(first|refine Zt Y (hc _) Y Y ?_|refine Xy Y Y (by omega) (hwi _) ?_|refine Zt Y (hlv _) hel Y ?_|refine ZEd Y ?_|refine ZE ?_|refine ZD ?_|refine ZG Y ?_|refine ZI Y Y ?_|refine ZB Y ?_|refine ZC ?_|refine Ze Y Y ?_|refine JI Y ?_|refine Ql Y Y Y ?_|(refine cm0 Y Y Y ?_ ?_<;>intro _<;>try omega)|refine ZF Y ?_|refine Qe Y Y (by omega) ?_|refine Zw Y Y Y ?_|refine Q1 Y Y Y Y Y Y ?_|refine ZH ?_|refine ZS ?_)
  all_goals try first|contradiction|omega
  rw[hasc]
  refine hck _ _ _ (fun A2 L2 T2 e2=>?_)
  have hg2:=fun x=>hgo A2 L2 T2 x e2
  repeat'(first|exact hg2 _|refine ZE ?_|refine ZD ?_|refine ZG Y ?_|refine ZB Y ?_|refine ZC ?_|refine ZF Y ?_|refine YA Y Y ?_|refine ZH ?_|refine Z5 ?_|refine QJ ?_)
  all_goals try contradiction
def EnQ(A0:List (Bool × List Blk))(L0:List Blk)(lv ic li la b:Nat)(r:Ro)(N:ZO)(n:Nat)(rt:CLv)(a vis at_:Int)(v:AV)(st':St):Prop :=
 v=.int .i64 0/\∃A2 L2 T2 ver es,st'=⟨A2,false,L2++T2⟩/\(⟨A2,false,L2⟩:St)=Zv ⟨A0,false,L0⟩ [(lv,ic),(lv,li)] (Qx (.ptr la (b+5) 0 0 0) r lv li ver (n+1) es vis at_)/\n+1<=es.length/\es.take (n+1)=(QR N a n rt).map (CLv.av N)
theorem ZjF{lv b:Nat}{r:Ro}{vis:Int}{N:ZO}{rt:CLv}{p:Int}(H:Cl ⟨A0,false,L0⟩ [(lv,ic),(lv,li)] (Qx (.ptr la (b+5) 0 0 0) r lv li ver (n+1) es vis at_))
 (hla:la<=lv) (hR:RdO ⟨A0,false,L0⟩ la (b+5) N [(lv,ic),(lv,li)]) (hN:GoodN N) (hrt:CLvOk N s rt) (hn:rt.n=n) (hn16:n<=16) (hp0:rt.f<=p) (hp1:p<rt.t) (h0:rt.f<=a) (h1:a<rt.t) (hs:s.length<=100000) (hv:0<=vis/\vis<800000000)
 (hke:n+1<=es.length) (hes:es.take (n+1)=(QR N p n rt).map (CLv.av N)) :
 Sp Tb QZ [.ptr lv ic 0 0 0,.int .i64 a] ⟨A0,false,L0⟩ (EnQ A0 L0 lv ic li la b r N n rt a (vis+((n+1-cmL N p a n rt:Nat):Int)) at_):=by
 refine ZhX (rfl:Tb QZ=some (.pf YQ)) ?_;have hcm:=Zcg N p a n rt;have hpl:=ZCr N p n rt
 have hcl:∀k,cmL N p a n rt<=k->k<=n+1->k<=es.length:=fun k _ h=>by omega
 have hst0:(⟨A0,false,L0⟩:St)=Zv ⟨A0,false,L0⟩ [(lv,ic),(lv,li)] (Qx (.ptr la (b+5) 0 0 0) r lv li ver (n+1) es vis at_):=H.same.symm
 have e00:(⟨A0,false,L0⟩:St)=⟨A0,false,L0++[]⟩:=by rw[lN]
 rw[e00]
 repeat'(first|refine ZE ?_|refine ZD ?_|refine ZG Y ?_|refine ZB Y ?_|refine ZC ?_|refine ZS ?_)
 refine Z2 (α:=Nat × List (Bool × List Blk) × List Blk × List Blk) (fun q=>[(0,.ptr lv ic 0 0 0),(1,.int .i64 a)]) (fun q=>⟨q.2.1,false,q.2.2.1++q.2.2.2⟩)
  (fun q=>(⟨q.2.1,false,q.2.2.1⟩:St)=Zv ⟨A0,false,L0⟩ [(lv,ic),(lv,li)] (Qx (.ptr la (b+5) 0 0 0) r lv li ver q.1 es vis at_)/\cmL N p a n rt<=q.1/\q.1<=n+1) (fun q=>q.1) (n+1,A0,L0,[]) rfl rfl ⟨hst0,hcm.2,Nat.le_refl _⟩ ?_
 clear hst0 e00
 rintro⟨k,A,L,T⟩ ⟨hst,hk1,hk2⟩
 simp only at hst hk1 hk2 ⊢
 obtain⟨l,hl⟩:∃l,(QR N p n rt)[k-1]?=some l:=⟨_,jE (by rw[hpl];omega)⟩
 obtain⟨p1,p2,p3,p4,p5,p6⟩:=ZAm hN n rt hn hrt hp0 hp1 (k-1) l hl;have hll:=p1.len hN
 have hel:es[0+(((k:Nat):Int)-1).toNat]?=some (CLv.av N l):=by
  rw[show 0+(((k:Nat):Int)-1).toNat=k-1 by omega]
  have e1:(es.take (n+1))[k-1]?=es[k-1]?:=List.getElem?_take_of_lt (by omega)
  rw[<- e1,hes,jG,hl];rfl
 have hc:=Zrr H hst rfl rfl (j:=0) rfl rfl;have hlv:=Zrr H hst rfl rfl (j:=1) rfl rfl
 have hwi:∀T,wIs 5 ver (St.get ⟨A,false,L++T⟩ lv li)=true:=fun T=>by rw[hlv T];simp[wIs]
 have hasc:∀c:List Blk,L++T++c=L++(T++c):=fun c=>List.append_assoc ..
 have hin:(l.f<=a/\a<l.t)↔k=cmL N p a n rt:=by
  constructor
  ·intro q
   rcases Nat.lt_or_ge (k-1) (cmL N p a n rt) with w|w
   ·omega
   ·exact absurd q (ZoG hN n rt hn hrt hp0 hp1 h0 h1 (k-1) l hl w)
  ·intro q
   have e1:((QR N p n rt).take (cmL N p a n rt))[k-1]?=some l:=by rw[List.getElem?_take_of_lt (by omega)];exact hl
   rw[Zch,List.getElem?_take_of_lt (by omega)]at e1
   obtain⟨_,_,w1,w2,_⟩:=ZAm hN n rt hn hrt h0 h1 (k-1) l e1;exact⟨w1,w2⟩
 have hav:CLv.av N l=.agg [.int .i64 l.n,.str (QP N l.o).text,.lit ((QP N l.o).ks.map Kid.av),.int .i64 l.f,.int .i64 l.t]:=rfl;rw[hav]at hel
 by_cases hka:k=cmL N p a n rt
 ·have hq:=hin.2 hka
  have htail:=fun (T:List Blk) (xs:Env) (kf:List Fr) (Q:Jh)=>Zck (T:=T) (xs:=xs) (kf:=kf) (Q:=Q) H hst hla hR hN hrt hn hn16 h0 h1 hs (by omega) (by omega) (hcl k hk1 hk2) (by
   rw[hka]
   have e1:es.take (cmL N p a n rt)=(es.take (n+1)).take (cmL N p a n rt):=by rw[List.take_take,Nat.min_eq_left hcm.2]
   rw[e1,hes,<- List.map_take,Zch])
  rw[hka]at htail;have hq0:=hq.1;have hq1:=hq.2;unfold Qz at hc
  have hc':=fun c:List Blk=>(congrArg (fun X=>St.get ⟨A,false,X⟩ lv ic) (hasc c)).trans (hc (T++c))
  repeat'(first|refine Zt Y (hc _) Y Y ?_|refine Zt Y (hc' _) Y Y ?_|refine Xy Y Y (by omega) (hwi _) ?_|refine Zt Y (hlv _) hel Y ?_|refine ZE ?_|refine ZD ?_|refine ZG Y ?_|refine ZI Y Y ?_|refine Z9 Y ?_|refine Zi Y Y Y Y ?_|refine ZB Y ?_|refine ZC ?_|refine Ze Y Y ?_|refine JI Y ?_|refine Ql Y Y Y ?_|(refine cm0 Y Y Y ?_ ?_<;>intro _<;>try omega)|refine ZU Y ?_|refine ZF Y ?_|refine Qe Y Y (by omega) ?_|refine Zw Y Y Y ?_|refine Q1 Y Y Y Y Y Y ?_|refine ZH ?_|refine Zz ?_|refine ZS ?_|refine Zk ?_|refine Zh Y ?_|refine ZQm Y ?_|refine Zx ?_)
  all_goals try first|contradiction|omega
  rw[hasc]
  refine htail _ _ _ _ (fun A2 L2 T2 ver2 es2 e2 f2 f3=>?_)
  repeat'(refine ZL ?_)
  exact⟨_,_,Jo (.inr Y) Y Y Y Y,rfl,A2,L2,T2,ver2,es2,rfl,e2,f2,f3⟩
 ·have hq:¬ (l.f<=a/\a<l.t):=fun w=>hka (hin.1 w)
  have hcE:∀A2 L2 T2,(⟨A2,false,L2⟩:St)=Zv ⟨A0,false,L0⟩ [(lv,ic),(lv,li)] ((Qx (.ptr la (b+5) 0 0 0) r lv li ver k es vis at_).set 0 (.arr 9 0 ([AV.agg [.ptr la (b+5) 0 0 0,.int .u64 r.at_,.int .i64 r.h,.int .i64 r.m.b,.int .i64 r.m.r,.int .i64 r.m.l,.ref lv li ver 0 k,.int .i64 vis,.int .i64 at_]].set 0 (.agg [.ptr la (b+5) 0 0 0,.int .u64 r.at_,.int .i64 r.h,.int .i64 r.m.b,.int .i64 r.m.r,.int .i64 r.m.l,.ref lv li ver 0 (k-1),.int .i64 vis,.int .i64 at_])))) ->
   ∃q:Nat × List (Bool × List Blk) × List Blk × List Blk,(([(0,AV.ptr lv ic 0 0 0),(1,AV.int .i64 a)]:Env)=[(0,.ptr lv ic 0 0 0),(1,.int .i64 a)]/\(⟨A2,false,L2++T2⟩:St)=⟨q.2.1,false,q.2.2.1++q.2.2.2⟩) /\
   ((⟨q.2.1,false,q.2.2.1⟩:St)=Zv ⟨A0,false,L0⟩ [(lv,ic),(lv,li)] (Qx (.ptr la (b+5) 0 0 0) r lv li ver q.1 es vis at_)/\cmL N p a n rt<=q.1/\q.1<=n+1)/\q.1<k:=fun A2 L2 T2 e2=>⟨(k-1,A2,L2,T2),⟨rfl,rfl⟩,⟨e2,by simp only;omega,by simp only;omega⟩,by show k-1<k;omega⟩
  unfold Qz at hc
  have hslc:(((k:Nat):Int)-1).toNat=k-1:=by omega
  have hc':=fun c:List Blk=>(congrArg (fun X=>St.get ⟨A,false,X⟩ lv ic) (hasc c)).trans (hc (T++c))
  have hwi':∀c:List Blk,wIs 5 ver (St.get ⟨A,false,L++T++c⟩ lv li)=true:=fun c=>by rw[hasc];exact hwi _
  repeat'(first|refine Zt Y (hc _) Y Y ?_|refine Zt Y (hc' _) Y Y ?_|refine Xy Y Y (by omega) (hwi _) ?_|refine Zt Y (hlv _) hel Y ?_|refine ZGS Y Y (by omega) (hwi' _) ?_|refine ZE ?_|refine ZD ?_|refine ZG Y ?_|refine ZI Y Y ?_|refine Z9 Y ?_|refine Ji Y Y ?_|refine Zi Y Y Y Y ?_|refine ZB Y ?_|refine ZC ?_|refine Ze Y Y ?_|refine JI Y ?_|refine Ql Y Y Y ?_|(refine cm0 Y Y Y ?_ ?_<;>intro _<;>try omega)|refine ZU Y ?_|refine ZF Y ?_|refine Qe Y Y (by omega) ?_|refine Zw Y Y Y ?_|refine Q1 Y Y Y Y Y Y ?_|refine ZH ?_|refine ZS ?_)
  all_goals try first|contradiction|omega
  all_goals rw[hasc]
  all_goals refine Zmy (j:=0) H hst Y Y Y Y Y Y Y (Qu _ (Nat.lt_succ_self _)) Y (fun A2 L2 e2 _ _=>?_)
  all_goals rw[hslc]at e2
  all_goals repeat'(first|refine ZB Y ?_|refine Z5 ?_|refine QJ ?_)
  all_goals exact hcE A2 L2 _ e2
theorem Zr0{b:Nat}{N:ZO}(hN:GoodN N)(hR:Rd st la (b+5) N){r:Ro}(h:Rt N r s)(hs:s.length<=100000):S Tb ZC6 [.ptr la (b+5) 0 0 0,r.av] st=some (.int .i64 0,st):=by
 refine QA Y (fun A hA=>?_)
 obtain⟨t,hB⟩:∃t,∀L,S Tb Yv [.ptr la (b+5) 0 0 0,r.av,.int .i64 0] ⟨A,false,L⟩=some (.tup [.bool t,.int .i64 0],⟨A,false,L⟩):=by
  match s,h with
  | [],h=>exact⟨true,fun L=>ZjE hN (hR.push hA) h (by simp)⟩
  | c::s,h=>exact⟨_,fun L=>Zm0 hN (hR.push hA) h (i:=0) (c:=c) Y hs⟩
 unfold Ro.av at *
 repeat'(first|refine ZE ?_|refine ZD ?_|refine ZG Y ?_|refine ZQ Y Y Y Y ?_|refine Zp Y Y ?_|refine ZB Y ?_|refine ZC ?_|refine Zc Y Y Y ?_|refine ZA Y Y Y (hB _) ?_|refine ZP ?_|refine ZL ?_)
 all_goals refine ZX hA (by simp) Y Y Y Y ?_
 all_goals rfl
def QM(r:Ro):CLv:=⟨r.h,r.at_,0,r.m.b⟩
theorem Rt.lv{N:ZO}(hN:GoodN N){r:Ro}(h:Rt N r s)(h0:r.at_≠0):CLvOk N s (QM r)/\(QM r).t=s.length/\0<s.length:=by
 obtain⟨hb1,hb2⟩:=h.b hN
 rcases h.rt with e|⟨_,x,x1,x2,x3,x4⟩
 ·rw[e]at h0;exact absurd Y h0
 refine⟨⟨⟨x,x1,x3,by rw[x4];show _=r.m.b-0;omega⟩,[],[],?_,rfl⟩,hb2,?_⟩
 ·have:=h.tx
  unfold ZGC at this;rw[if_neg h0]at this
  simp[QM,this]
 ·have hp : 0 < x.mea.b := by
   rcases x2 with q|⟨n,ks,q⟩
   ·unfold Nd.mea;rw[if_pos q.h];have:=q.lo;show 0<((x.text.length:Nat):Int);omega
   ·have e:=q.eq;subst e
    unfold Nd.mea
    rw[if_neg (by simp)]
    have h1:∀k∈ks,0<k.m.b:=fun k hk=>by
     have:=(q.kid k hk).lo
     have h2:1<=leastB n:=by unfold leastB;exact Nat.le_trans (by decide) (Nat.mul_le_mul_left 8 Nat.one_le_two_pow)
     omega
    have key:∀(l:List Kid),(∀k∈l,0<k.m.b)->0<=(Z7 (l.map Kid.m)).b:=by
     intro l
     induction l with
     | nil=>intro _;exact Int.le_of_eq comp_b.zero.symm
     | cons y m ih2 =>
      intro hq;rw[jC,Z7,comp_b.add]
      have:=ih2 (fun q hq2=>hq q (List.mem_cons_of_mem _ hq2))
      have:=hq y (by simp)
      omega
    match ks,q.lo,h1 with
    | k::l,_,h1 =>
     show 0<(Z7 ((k::l).map Kid.m)).b
     rw[jC,Z7,comp_b.add]
     have:=key l (fun z hz=>h1 z (List.mem_cons_of_mem _ hz))
     have:=h1 k (by simp)
     omega
  rw[x4,hb2]at hp;omega
theorem Zcl:∀ {ks:List (Nat × Nat)} {A:List (Bool × List Blk)} {L:List Blk} {bs:List Blk},(∀k∈ks,k.1=A.length)->(Zv ⟨A,false,L⟩ ks bs).A=A
 | [],_,_,_,_=>by cases ‹List Blk›<;>rfl
 | _::_,_,_,[],_=>rfl
 | k::ks,A,L,b::bs,h=>by
  rw[Zv]
  have e:St.upd ⟨A,false,L⟩ k.1 k.2 b=⟨A,false,L.set k.2 b⟩:=by
   unfold St.upd
   rw[if_pos (h k (by simp))]
  rw[e]
  exact Zcl (fun q hq=>h q (by simp[hq]))
theorem Zgs{ks:List (Nat × Nat)}:∀ {A:List (Bool × List Blk)} {L:List Blk} {bs:List Blk},(∀k∈ks,k.1=A.length)->∀i,(A.length,i)∉ks->(Zv ⟨A,false,L⟩ ks bs).L[i]?=L[i]?:=by
 induction ks with
 | nil=>intro A L bs _ i _;cases bs<;>rfl
 | cons k ks ih =>
  intro A L bs h i hi
  cases bs with
  | nil=>rfl
  | cons b bs =>
   rw[Zv]
   have hk:=h k (by simp)
   have e:St.upd ⟨A,false,L⟩ k.1 k.2 b=⟨A,false,L.set k.2 b⟩:=by
    unfold St.upd;rw[if_pos hk]
   simp only[List.mem_cons,not_or]at hi
   rw[e,ih (fun q hq=>h q (by simp[hq])) i hi.2,jS]
   intro q
   exact hi.1 (by rw[<- hk,<- q])
theorem ZpZ{L:List Blk}{b:Nat}{r:Ro}{N:ZO}(hN:GoodN N)(h:Rt N r s)(h0:r.at_≠0)(hs:s.length<=100000)(hc:L[ic]?=some (Qz (.ptr la (b+5) 0 0 0) r .nils 0 0))(hla:la<=A.length)
 (hR:∃a0 a1 im a3 a4 a5,St.get ⟨A,false,L⟩ la (b+5)=some (.arr 6 0 [.agg [a0,a1,.map la im,a3,a4,a5]])/\St.get ⟨A,false,L⟩ la im=some (.map (N.map nodeAV))) :
 Sp Tb QZ [.ptr A.length ic 0 0 0,.int .i64 0] ⟨A,false,L⟩ (fun v st'=>v=.int .i64 0/\∃X ver es,st'=⟨A,false,X⟩/\Cl ⟨A,false,X⟩ [(A.length,ic),(A.length,L.length+1)] (Qx (.ptr la (b+5) 0 0 0) r A.length (L.length+1) ver (r.h+1) es ((r.h+1:Nat):Int) 0) /\
  r.h+1<=es.length/\es.take (r.h+1)=(QR N 0 r.h (QM r)).map (CLv.av N)/\L.length<=X.length/\∀i,i<L.length->i≠ic->X[i]?=L[i]?):=by
 refine ZhX (rfl:Tb QZ=some (.pf YQ)) ?_;obtain⟨hlv,ht,hpos⟩:=h.lv hN h0;have hh:=h.rt.h13 hN;obtain⟨⟨x,x1,x2,x3⟩,_⟩:=id hlv;have hx1:lk N r.at_=some x:=x1;have hx2:x.h=r.h:=x2;have hxl:x.ks.length<=4:=((hN _ x x1).1).len
 have hRd:Rd ⟨A,false,L⟩ la (b+5) N:=by
  obtain⟨a0,a1,im,a3,a4,a5,g1,g2⟩:=hR;exact⟨a0,a1,im,a3,a4,a5,g1,g2⟩
 have hic:=(List.getElem?_eq_some_iff.1 hc).1
 obtain⟨bx,hV⟩:=ZpY hc (by decide) hRd hx1 hxl 0 r.m.b
 rw[hx2]at hV
 -- the store behind the first visit
 generalize hL1:(L++[bx,.arr 5 0 [CLv.av N ⟨r.h,r.at_,0,r.m.b⟩]]).set ic (Qz (.ptr la (b+5) 0 0 0) r (.ref A.length (L.length+1) 0 0 1) (0+1) 0)=L1 at hV
 have hl1:L1.length=L.length+2:=by rw[<- hL1];simp
 have g0:L1[ic]?=some (Qz (.ptr la (b+5) 0 0 0) r (.ref A.length (L.length+1) 0 0 1) (0+1) 0):=by rw[<- hL1];exact List.getElem?_set_self (by simp;omega)
 have g1:L1[L.length+1]?=some (.arr 5 0 [CLv.av N (QM r)]):=by
  rw[<- hL1,jS (by omega),List.getElem?_append_right (by omega),show L.length+1-L.length=1 by omega];rfl
 have gst:∀i,i<L.length->i≠ic->L1[i]?=L[i]?:=fun i hi hn=>by
  rw[<- hL1,jS (fun q=>hn q.symm),jL hi]
 have H:Cl ⟨A,false,L1⟩ [(A.length,ic),(A.length,L.length+1)] (Qx (.ptr la (b+5) 0 0 0) r A.length (L.length+1) 0 1 [CLv.av N (QM r)] 1 0):=by
  refine⟨by simp;omega,rfl,fun k hk=>?_,fun j lv ix c q1 q2=>?_⟩
  ·simp only[List.mem_cons,List.not_mem_nil,or_false]at hk
   rcases hk with rfl|rfl<;>simp[St.wr]
  ·match j,q1,q2 with
   | 0,q1,q2=>obtain⟨rfl,rfl⟩:=Prod.mk.inj (Option.some.inj q1);obtain rfl:=Option.some.inj q2;rw[St.get_cur,g0];rfl
   | 1,q1,q2=>obtain⟨rfl,rfl⟩:=Prod.mk.inj (Option.some.inj q1);obtain rfl:=Option.some.inj q2;rw[St.get_cur,g1];rfl
   | n+2,q1,q2=>simp at q1
 have hget:∀lv ix c,St.get ⟨A,false,L⟩ lv ix=some c->¬ (lv=A.length/\ix=ic)->St.get ⟨A,false,L1⟩ lv ix=some c/\¬ (lv=A.length/\ix=L.length+1):=by
  intro lv ix c q hn;rw[St.get]at q ⊢
  simp only at q ⊢
  by_cases w:lv=A.length
  ·rw[if_pos w]at q ⊢
   have hlt:=ZC3 q
   rw[gst ix hlt (fun e=>hn ⟨w,e⟩)]
   exact⟨q,fun e=>by omega⟩
  ·rw[if_neg w]at q ⊢
   exact⟨q,fun e=>w e.1⟩
 have hRO:RdO ⟨A,false,L1⟩ la (b+5) N [(A.length,ic),(A.length,L.length+1)]:=by
  obtain⟨a0,a1,im,a3,a4,a5,q1,q2⟩:=hR
  have n1:¬ (la=A.length/\b+5=ic):=by
   rintro⟨rfl,rfl⟩
   rw[St.get_cur,hc]at q1
   simp[Qz,vis]at q1
  have n2:¬ (la=A.length/\im=ic):=by
   rintro⟨rfl,rfl⟩
   rw[St.get_cur,hc]at q2
   simp[Qz,vis]at q2
  obtain⟨w1,w2⟩:=hget _ _ _ q1 n1;obtain⟨w3,w4⟩:=hget _ _ _ q2 n2
  exact⟨a0,a1,im,a3,a4,a5,w1,w3,by simp only[List.mem_cons,jP,List.not_mem_nil,or_false,not_or];exact⟨n1,w2⟩,by simp only[List.mem_cons,jP,List.not_mem_nil,or_false,not_or];exact⟨n2,w4⟩⟩
 have hpl:=ZCr N 0 r.h (QM r);have hp0:=ZoF N 0 r.h (QM r)
 have e00:(⟨A,false,L1⟩:St)=⟨A,false,L1++[]⟩:=by rw[lN]
 have htail:=fun (xs:Env) (kf:List Fr) (Q:Jh)=>Zck (n:=r.h) (T:=[]) (xs:=xs) (kf:=kf) (Q:=Q) H H.same.symm hla hRO hN hlv rfl (by show r.h<=16;omega) (a:=0) (by show (0:Int)<=0;omega) (by rw[ht];omega) hs ⟨Nat.le_refl _,by omega⟩ (by decide) (Nat.le_refl _) (by
  rw[show (1:Nat)=0+1 from rfl,ZGF hp0];rfl)
 have hc':=hc;unfold Qz at hc g0;rw[e00]at hV
 repeat'(first|refine ZE ?_|refine ZD ?_|refine ZG Y ?_|refine ZB Y ?_|refine ZC ?_|refine ZS ?_)
 refine Z2 (α:=Unit) (fun _=>[(0,.ptr A.length ic 0 0 0),(1,.int .i64 0)]) (fun _=>⟨A,false,L⟩) (fun _=>True) (fun _=>0) () Y Y trivial ?_
 intro _ _
 repeat'(first|refine ZQ Y hc Y Y ?_|refine htail _ _ _ (fun A2 L2 T2 ver2 es2 e2 f2 f3=>?_)|refine ZE ?_|refine ZD ?_|refine ZG Y ?_|refine ZI Y Y ?_|refine ZB Y ?_|refine ZC ?_|refine Ze Y Y ?_|refine J8 Y ?_|(refine cm0 Y Y Y ?_ ?_<;>intro _<;>try omega)|refine ZU Y ?_|refine ZF Y ?_|refine ZA Y Y Y (hV) ?_|refine ZH ?_|refine Zz ?_|refine ZS ?_|refine ZL ?_|refine Zk ?_|refine Zh Y ?_|refine Zx ?_)
 all_goals try first|contradiction|omega
 have eA:A2=A:=by
  have:=congrArg St.A e2
  rw[Zcl (by simp)]at this
  exact this
 subst eA
 have hstay:=Zgs (ks:=[(A2.length,ic),(A2.length,L.length+1)]) (A:=A2) (L:=L1) (bs:=Qx (.ptr la (b+5) 0 0 0) r A2.length (L.length+1) ver2 (r.h+1) es2 (1+((r.h+1-1:Nat):Int)) 0) (by simp)
 rw[<- e2]at hstay;have hLL:=(ZQO e2).2
 refine⟨_,_,Jo (.inr Y) Y Y Y Y,rfl,L2++T2,ver2,es2,rfl,?_,f2,f3,by rw[lL];omega,fun i hi hn=>?_⟩
 ·have:=(H.put (bs':=Qx (.ptr la (b+5) 0 0 0) r A2.length (L.length+1) ver2 (r.h+1) es2 (1+((r.h+1-1:Nat):Int)) 0) rfl rfl)
  rw[<- e2]at this
  have:=Zry this T2
  rw[show (1:Int)+((r.h+1-1:Nat):Int)=((r.h+1:Nat):Int) by omega]at this
  exact this
 ·rw[jL (by omega),hstay i (by simp;omega),gst i hi hn]
theorem Zgt{lv m:Nat}{r:Ro}{vis:Int}{N:ZO}(h0:st.get lv ic=some (Qz ap r (.ref lv li ver 0 m) vis at_))(h1:st.get lv li=some (.arr 5 ver es))(hm:1<=m/\m<1000)(hl:es[m-1]?=some (CLv.av N l)):
 S Tb Ym [.ptr lv ic 0 0 0] st=some (.tup [.str (QP N l.o).text,.int .i64 l.f,.int .i64 l.t],st):=by
 refine QA Y (fun A hA=>?_)
 have g0:=fun L=>ZV hA (ro:=false) (L:=L) h0
 have g1:=fun L=>ZV hA (ro:=false) (L:=L) h1
 have hel:es[0+(((m:Nat):Int)-1).toNat]?=some (CLv.av N l):=by
  rw[show 0+(((m:Nat):Int)-1).toNat=m-1 by omega];exact hl
 have hwi:∀L,wIs 5 ver (St.get ⟨A,false,L⟩ lv li)=true:=fun L=>by rw[g1 L];simp[wIs]
 unfold Qz at g0;unfold CLv.av at hel
 repeat'(first|refine Zt Y (g0 _) Y Y ?_|refine Xy Y Y (by omega) (hwi _) ?_|refine Zt Y (g1 _) hel Y ?_|refine ZE ?_|refine ZD ?_|refine ZG Y ?_|refine ZI Y Y ?_|refine ZQ Y Y Y Y ?_|refine ZB Y ?_|refine ZC ?_|refine Ze Y Y ?_|refine JI Y ?_|(refine cm0 Y Y Y ?_ ?_<;>intro _<;>try omega)|refine ZF Y ?_|refine Qe Y Y (by omega) ?_|refine Zc Y Y Y ?_|refine Zy Y Y Y Y Y Y ?_|refine ZH ?_|refine ZP ?_|refine ZL ?_)
 all_goals try first|contradiction|omega
 refine ZX hA (by simp) Y Y Y Y ?_
 rfl
theorem Zr1{keep:List Nat}{is:List QAbs.PI}{d j w:Nat}{v v':AV}(hx:Zg e x=some v)(hw:v.wide=some w)(hv:YS v=some v')(h:Is O is keep k Q ((d,.ptr A.length 0 0 0 0)::e) ⟨A,false,[Blk.arr w 0 [v']]⟩):
 Is O (⟨some d,none,false,.w (.here j) (.box x)⟩::is) keep k Q e ⟨A,false,[Blk.hole j]⟩:=by
 rw[<- XA hv]at h;refine Z4 (v:=.ptr A.length 0 0 0 0) (st':=⟨A,false,[Blk.arr w 0 [v]]⟩) ?_ h;simp only[Zl,QF,newOf,ZJ hx,hw,oS,ZX1,ZjT,and_self,if_true,findH,ZX0];rfl
theorem Yq{lv b:Nat}{r:Ro}{vis:Int}{N:ZO}(hN:GoodN N)(h:Rt N r s)(h0:st.get lv ic=some (Qz (.ptr la (b+5) 0 0 0) r lev vis at_))(hR:Rd st la (b+5) N):
 S Tb QY [.ptr lv ic 0 0 0] st=some (.int .i64 0,st):=by
 refine QA Y (fun A hA=>?_)
 have g0:=fun L=>ZV hA (ro:=false) (L:=L) h0
 unfold Qz at g0
 by_cases hz:r.at_=0
 ·have hzi:((r.at_:Nat):Int)=0:=by omega
  repeat'(first|refine Zt Y (g0 _) Y Y ?_|refine ZE ?_|refine ZD ?_|refine ZG Y ?_|refine ZI Y Y ?_|refine ZB Y ?_|refine ZC ?_|refine Ze Y Y ?_|(refine cm0 Y Y Y ?_ ?_<;>intro _<;>try omega)|refine ZF Y ?_|refine JM Y Y Y Y ?_|refine ZH ?_|refine ZP ?_|refine ZL ?_)
  all_goals try contradiction
  all_goals refine ZX hA (by simp) Y Y Y Y ?_
  all_goals rfl
 ·have hzi:((r.at_:Nat):Int)≠0:=by omega
  obtain⟨x,x1,x2,x3,x4⟩:∃x,lk N r.at_=some x/\NdOk x/\x.h=r.h/\x.mea=r.m:=by
   rcases h.rt with rfl|w
   ·exact absurd Y hz
   ·exact w.2
  have hG:=ZL6 ((hR.push hA (ro:=false) (L:=[.hole 15])).push (st:=⟨A,false,[.hole 15]⟩) rfl (ro:=false) (L:=[])) x1 x2.len;have hcp:x.copy.av=.agg [.int .i64 x.h,.str x.text,.lit (x.ks.map Kid.av)]:=rfl;rw[hcp]at hG;have hI:JC (S Tb) .inner QH [.ptr la (b+5) 0 0 0,.int .u64 r.at_] ⟨A,false,[.hole 15]⟩=some (.tup [.agg [.int .i64 x.h,.str x.text,.lit (x.ks.map Kid.av)],.int .i64 0],⟨A,false,[.hole 15]⟩):=Zqv (st:=⟨A,false,[.hole 15]⟩) hG rfl
  repeat'(first|refine Zt Y (g0 _) Y Y ?_|refine ZE ?_|refine ZD ?_|refine ZG Y ?_|refine ZI Y Y ?_|refine ZB Y ?_|refine ZC ?_|refine Ze Y Y ?_|(refine cm0 Y Y Y ?_ ?_<;>intro _<;>try omega)|refine ZU Y ?_|refine ZF Y ?_|refine JM Y Y Y Y ?_|refine ZH ?_)
  all_goals try contradiction
  refine Znv ?_
  repeat'(first|refine Zt Y (g0 _) Y Y ?_|refine Zqu Y Y Y hI ?_|refine Zr1 Y Y Y ?_|refine ZE ?_|refine ZD ?_|refine ZG Y ?_|refine ZI Y Y ?_|refine Zp Y Y ?_|refine ZB Y ?_|refine ZC ?_|refine Ze Y Y ?_|(refine cm0 Y Y Y ?_ ?_<;>intro _<;>try omega)|refine ZF Y ?_|refine Zy Y Y Y Y Y Y ?_|refine ZH ?_|refine ZP ?_|refine ZL ?_)
  all_goals try contradiction
  all_goals refine ZX hA (by simp) Y Y Y Y ?_
  all_goals rfl
theorem ZQQ(l:B8)(c:UInt8):Za (l++[c])=Za l++[.int .u8 c.toNat]:=by simp[Za]
theorem Zvm{T:List Blk}{v:Nat}{l:B8}(hl:l.length<4000000000)(c:UInt8):
 S Tb QK [.int .u8 c.toNat,.ptr A.length 1 0 0 0] ⟨A,false,.arr 1 v (Za l)::.arr 1 0 [.ref A.length 0 v 0 l.length]::T⟩ =
  some (.tup [],⟨A,false,.arr 1 (v+1) (Za (l++[c]))::.arr 1 0 [.ref A.length 0 (v+1) 0 (l.length+1)]::T⟩):=by
 have H:Cl ⟨A,false,.arr 1 v (Za l)::.arr 1 0 [.ref A.length 0 v 0 l.length]::T⟩ [(A.length,0),(A.length,1)] [.arr 1 v (Za l),.arr 1 0 [.ref A.length 0 v 0 l.length]]:=by
  refine⟨by simp,rfl,fun k hk=>?_,fun j lv ix b q1 q2=>?_⟩
  ·simp only[List.mem_cons,List.not_mem_nil,or_false]at hk
   rcases hk with rfl|rfl<;>simp[St.wr]
  ·match j,q1,q2 with
   | 0,q1,q2=>obtain⟨rfl,rfl⟩:=Prod.mk.inj (Option.some.inj q1);obtain rfl:=Option.some.inj q2;rw[St.get_cur];rfl
   | 1,q1,q2=>obtain⟨rfl,rfl⟩:=Prod.mk.inj (Option.some.inj q1);obtain rfl:=Option.some.inj q2;rw[St.get_cur];rfl
   | n+2,q1,q2=>simp at q1
 have hlen:(Za l).length=l.length:=by simp[Za]
 have hfin:Zv ⟨A,false,.arr 1 v (Za l)::.arr 1 0 [.ref A.length 0 v 0 l.length]::T⟩ [(A.length,0),(A.length,1)] [.arr 1 (v+1) (Za (l++[c])),.arr 1 0 [.ref A.length 0 (v+1) 0 (l.length+1)]]=⟨A,false,.arr 1 (v+1) (Za (l++[c]))::.arr 1 0 [.ref A.length 0 (v+1) 0 (l.length+1)]::T⟩:=by
  simp[Zv,St.upd]
 rw[<- hfin];have h0:=H.get 1 _ _ _ rfl rfl;rw[ZQQ]
 generalize hst:(⟨A,false,.arr 1 v (Za l)::.arr 1 0 [.ref A.length 0 v 0 l.length]::T⟩:St)=st at *
 generalize hn:A.length=nA at *
 have hnA:st.A.length=nA:=by rw[<- hst];exact hn
 refine Jz Y (fun B hB=>?_)
 have g0:=fun L=>ZV hB (ro:=false) (L:=L) h0
 have hs0:B=(Zv st [(nA,0),(nA,1)] [.arr 1 v (Za l),.arr 1 0 [.ref nA 0 v 0 l.length]]).ps:=by rw[H.same];exact hB
 rw[<- hlen]at g0
 repeat'(first|refine Zt Y (g0 _) Y Y ?_|refine ZD ?_|refine ZG Y ?_|refine Q2 Y Y Y Y ?_)
 refine ZXo (j:=0) H hs0 Y Y Y Y Y Y Y Y Y (by rw[hlen];simp;omega) (by decide) (fun B1 hB1 e1=>?_)
 refine ZH5 (j:=1) H hB1 Y Y Y Y Y Y Y (Qu _ (Nat.lt_succ_self _)) Y (fun B2 hB2 e2=>?_)
 rw[hlen]at hB2
 repeat'(first|refine ZB Y ?_|refine ZL ?_)
 exact ZX hB2 (.inl Y) Y Y Y Y Y
theorem Zm2:∀h,1<=leastB h:=by
 intro h;unfold leastB
 have:∀n,1<=2 ^ n:=fun n=>Nat.one_le_two_pow
 first|exact Nat.le_trans (by decide) (Nat.mul_le_mul_left 8 (this h))|(split<;>first|omega|exact Nat.le_trans (by decide) (Nat.mul_le_mul_left 8 (this _)))
theorem CLvOk.kids{N:ZO}(hN:GoodN N)(h:CLvOk N s l)(hn:l.n=n+1):2<=(QP N l.o).ks.length/\(∀k∈(QP N l.o).ks,0<k.m.b)/\Qw Mea.b (QP N l.o).ks (QP N l.o).ks.length=l.t-l.f:=by
 obtain⟨⟨x,x1,x2,x3⟩,_⟩:=h
 have hm:x.mea=Z7 (x.ks.map Kid.m):=by unfold Nd.mea;rw[if_neg (by omega)]
 rw[Q5 x1];have hx:=(hN l.o x x1).1;refine⟨?_,?_,?_⟩
 ·rcases hx with q|⟨m,ks,q⟩
  ·have:=q.h;omega
  ·have e:=q.eq;subst e;exact q.lo
 ·rcases hx with q|⟨m,ks,q⟩
  ·have:=q.h;omega
  ·have e:=q.eq;subst e
   intro k hk;have h1:=(q.kid k hk).lo;have h2:=Zm2 m;omega
 ·unfold Qw
  rw[List.take_length,<- hm];exact x3
theorem CLvOk.at{N:ZO}(hN:GoodN N)(h:CLvOk N s l){k:Kid}(hk:(QP N l.o).ks[i]?=some k)(h0:l.f+Qw Mea.b (QP N l.o).ks i<=a)(h1:a<l.f+Qw Mea.b (QP N l.o).ks i+k.m.b):
 ZBC N l.o (a-l.f)=i/\l.down N a=⟨l.n-1,k.at_,l.f+Qw Mea.b (QP N l.o).ks i,l.f+Qw Mea.b (QP N l.o).ks i+k.m.b⟩:=by
 have e:ZBC N l.o (a-l.f)=i:=ZQN (h.fit hN) hk (by omega) (by omega)
 refine⟨e,?_⟩;unfold CLv.down X7 Zce ZKf;rw[e,hk];rfl
theorem ZjG{ks:List Kid}(h:∀k∈ks,0<k.m.b)(hi:i<=ks.length):0<=Qw Mea.b ks i/\Qw Mea.b ks i<=Qw Mea.b ks ks.length:=by
 have key:∀(l:List Kid),(∀k∈l,0<k.m.b)->0<=(Z7 (l.map Kid.m)).b:=by
  intro l
  induction l with
  | nil=>intro _;exact Int.le_of_eq comp_b.zero.symm
  | cons y m ih2 =>
   intro hq;rw[jC,Z7,comp_b.add]
   have:=ih2 (fun q hq2=>hq q (List.mem_cons_of_mem _ hq2))
   have:=hq y (by simp)
   omega
 refine⟨key _ (fun k hk=>h k (List.mem_of_mem_take hk)),?_⟩
 unfold Qw;rw[List.take_length]
 have e:=congrArg (fun l=>(Z7 (l.map Kid.m)).b) (List.take_append_drop i ks)
 simp only[List.map_append,ZAH,comp_b.add]at e
 have:=key _ (fun k hk=>h k (List.mem_of_mem_drop (i:=i) hk))
 omega
theorem Zr2{l:List Kid}(h:∀k∈l,0<k.m.b)(hl:0<l.length):0<(Z7 (l.map Kid.m)).b:=by
 match l,hl with
 | k::l,_ =>
  have h1:=ZjG (ks:=l) (fun z hz=>h z (List.mem_cons_of_mem _ hz)) (Nat.zero_le _)
  have h2:=h k (by simp)
  rw[jC,Z7,comp_b.add];unfold Qw at h1;rw[List.take_length]at h1
  have:(Z7 ((l.take 0).map Kid.m)).b=0:=comp_b.zero
  omega
theorem Zcm{N:ZO}(hN:GoodN N){s:B8}:∀(n:Nat) (l:CLv),l.n=n->CLvOk N s l->ZCg N l.f n l=n+1
 | 0,_,_,_=>rfl
 | n+1,l,hn,h=>by
  obtain⟨k1,k2,k3⟩:=h.kids hN hn
  obtain⟨k,hk⟩:∃k,(QP N l.o).ks[0]?=some k:=⟨_,jE (by omega)⟩
  have hkb:=k2 k (jM hk);have e0:Qw Mea.b (QP N l.o).ks 0=0:=comp_b.zero
  obtain⟨e1,e2⟩:=h.at hN hk (a:=l.f) (by omega) (by omega)
  have hp:=ZjG k2 (Nat.le_refl _)
  have hpos:0<l.t-l.f:=by
   rw[<- k3];unfold Qw;rw[List.take_length];exact Zr2 k2 (by omega)
  obtain⟨d1,_⟩:=h.down hN hn (a:=l.f) (by omega) (by omega)
  have ih:=Zcm hN n (l.down N l.f) (by show l.n-1=n;omega) d1
  have ef:(l.down N l.f).f=l.f:=by rw[e2,e0];simp
  rw[ZCg,e1];rw[ef]at ih;rw[ih]
  simp
  omega
theorem ZlO{N:ZO}{ks:List Kid}{k:Kid}(hk:ks[i]?=some k):((ks.take (i+1)).map fun k=>szN N n k.at_).sum=((ks.take i).map fun k=>szN N n k.at_).sum+szN N n k.at_:=by
 rw[Zs hk];simp
theorem Zgu{N:ZO}(hN:GoodN N){s:B8}:∀(n:Nat) (l:CLv),l.n=n->CLvOk N s l->ZCg N (l.t-1) n l=szN N n l.o
 | 0,_,_,_=>rfl
 | n+1,l,hn,h=>by
  obtain⟨k1,k2,k3⟩:=h.kids hN hn
  obtain⟨m,hm⟩:∃m,(QP N l.o).ks.length=m+1:=⟨_,(Nat.sub_add_cancel (by omega:1<=_)).symm⟩
  obtain⟨k,hk⟩:∃k,(QP N l.o).ks[m]?=some k:=⟨_,jE (by omega)⟩
  have hkb:=k2 k (jM hk);have hs:=ZK4 comp_b hk;rw[<- hm,k3]at hs
  have h0:=(ZjG k2 (i:=m) (by omega)).1
  obtain⟨e1,e2⟩:=h.at hN hk (a:=l.t-1) (by omega) (by omega)
  obtain⟨d1,_⟩:=h.down hN hn (a:=l.t-1) (by omega) (by omega)
  have ih:=Zgu hN n (l.down N (l.t-1)) (by show l.n-1=n;omega) d1
  have et:(l.down N (l.t-1)).t=l.t:=by rw[e2];show l.f+Qw Mea.b (QP N l.o).ks m+k.m.b=l.t;omega
  have eo:(l.down N (l.t-1)).o=k.at_:=by rw[e2]
  rw[et,eo]at ih;rw[ZCg,e1,ih,szN,Nat.add_assoc,<- ZlO hk,<- hm,List.take_length]
theorem Zgv{N:ZO}(hN:GoodN N){s:B8}:∀(n:Nat) (l:CLv),l.n=n->CLvOk N s l->∀p:Int,l.f<=p->p+1<l.t->ZCg N (p+1) n l+cmL N p (p+1) n l=ZCg N p n l+(n+1)
 | 0,_,_,_,_,_,_=>rfl
 | n+1,l,hn,h,p,p0,p1=>by
  obtain⟨k1,k2,k3⟩:=h.kids hN hn
  obtain⟨d1,d2,d3,d4,d5,k,hk,ko,kb⟩:=h.down hN hn (a:=p) p0 (by omega)
  have dn:(l.down N p).n=n:=by show l.n-1=n;omega
  rw[ZCg,ZCg,cmL]
  rcases Int.lt_or_le (p+1) (l.down N p).t with q|q
  ·have e:=h.same hN hn p0 (by omega) (a:=p+1) (by omega) q
   have ei:ZBC N l.o (p+1-l.f)=ZBC N l.o (p-l.f):=by
    refine ZQN (h.fit hN) hk (show X7 N l.o (p-l.f)<=_ from ?_) (show _<X7 N l.o (p-l.f)+_ from ?_)
    ·have:l.f+X7 N l.o (p-l.f)<=p:=d2;omega
    ·have:p+1<l.f+X7 N l.o (p-l.f)+ZKf N l.o (p-l.f):=q;omega
   rw[if_pos e,ei,<- e];have ih:=Zgv hN n (l.down N p) dn d1 p d2 q;omega
  ·have ht:(l.down N p).t=l.f+X7 N l.o (p-l.f)+ZKf N l.o (p-l.f):=rfl
   have hf:X7 N l.o (p-l.f)=Qw Mea.b (QP N l.o).ks (ZBC N l.o (p-l.f)):=rfl;have hs:=ZK4 comp_b hk
   generalize hI:ZBC N l.o (p-l.f)=I at *
   have hIl:=(List.getElem?_eq_some_iff.1 hk).1
   have hI2:I+1<(QP N l.o).ks.length:=by
    rcases Nat.lt_or_ge (I+1) (QP N l.o).ks.length with w|w
    ·exact w
    ·have e:I+1=(QP N l.o).ks.length:=by omega
     rw[e,k3]at hs;omega
   obtain⟨k',hk'⟩:∃k,(QP N l.o).ks[I+1]?=some k:=⟨_,jE hI2⟩;have hkb':=k2 k' (jM hk')
   have hp1:p+1=l.f+Qw Mea.b (QP N l.o).ks (I+1):=by omega
   obtain⟨e1,e2⟩:=h.at hN hk' (a:=p+1) (by omega) (by omega)
   obtain⟨c1,c2,c3,_⟩:=h.down hN hn (a:=p+1) (by omega) (by omega)
   have cf:(l.down N (p+1)).f=p+1:=by rw[e2];exact hp1.symm
   have v1:=Zcm hN n (l.down N (p+1)) (by show l.n-1=n;omega) c1
   rw[cf]at v1;have v2:=Zgu hN n (l.down N p) dn d1
   rw[show (l.down N p).t-1=p by omega]at v2
   have eo:(l.down N p).o=k.at_:=ko
   have hne:l.down N p≠l.down N (p+1):=fun e=>by
    have:=congrArg CLv.t e
    omega
   rw[if_neg hne,e1,v1,v2,eo,ZlO hk];omega
theorem CLvOk.sameI{N:ZO}(hN:GoodN N)(h:CLvOk N s l)(hn:l.n=n+1){p:Int}(h0:l.f<=p)(h1:p<l.t)(ha0:(l.down N p).f<=a)(ha1:a<(l.down N p).t):ZBC N l.o (a-l.f)=ZBC N l.o (p-l.f):=by
 obtain⟨_,_,_,_,_,k,k1,k2,k3⟩:=h.down hN hn h0 h1;have q0:l.f+X7 N l.o (p-l.f)<=a:=ha0;have q1:a<l.f+X7 N l.o (p-l.f)+ZKf N l.o (p-l.f):=ha1;rw[k3]at q1
 exact ZQN (h.fit hN) k1 (by show X7 N l.o (p-l.f)<=_;omega) (by show _<X7 N l.o (p-l.f)+_;omega)
theorem ZTe{N:ZO}(hN:GoodN N){s:B8}{p a:Int}:∀(n:Nat) (l lf:CLv),l.n=n->CLvOk N s l->l.f<=p->p<l.t->(QR N p n l)[n]?=some lf->lf.f<=a->a<lf.t->QR N a n l=QR N p n l/\ZCg N a n l=ZCg N p n l
 | 0,l,lf,_,_,_,_,_,_,_=>⟨rfl,rfl⟩
 | n+1,l,lf,hn,h,p0,p1,hf,a0,a1=>by
  obtain⟨d1,d2,d3,d4,d5,_⟩:=h.down hN hn p0 p1
  have dn:(l.down N p).n=n:=by show l.n-1=n;omega
  rw[QR,List.getElem?_cons_succ]at hf;obtain⟨_,_,_,_,e5,e6⟩:=ZAm hN n _ dn d1 d2 d3 n lf hf
  have e:=h.same hN hn p0 p1 (a:=a) (by omega) (by omega)
  have ei:=h.sameI hN hn p0 p1 (a:=a) (by omega) (by omega)
  obtain⟨i1,i2⟩:=ZTe hN n _ lf dn d1 d2 d3 hf a0 a1;rw[QR,QR,ZCg,ZCg,<- e,i1,i2,ei];exact⟨rfl,rfl⟩
theorem ZoI{N:ZO}(hN:GoodN N)(h:CLvOk N s l)(hn:l.n=0):((QP N l.o).text.length:Int)=l.t-l.f/\∀a:Int,l.f<=a->a<l.t->(QP N l.o).text[(a-l.f).toNat]?=s[a.toNat]?:=by
 have hl:=h.len hN;obtain⟨⟨x,x1,x2,x3⟩,pre,post,e,e2⟩:=h
 have ht:QT N l.n l.o=(QP N l.o).text:=by
  rw[hn,QT,x1,Q5 x1];simp
 rw[ht]at e hl
 refine⟨hl.1,fun a a0 a1=>?_⟩
 rw[e,List.append_assoc,List.getElem?_append_right (by omega),jL (by omega)]
 congr 1
 omega
def ZAK(P:Nat->UInt8->Bool):Nat->B8->Nat
 | _,[]=>0
 | n,b::l=>if P n b=true then 1+ZAK P (n+1) l else 0
theorem ZXv(P:Nat->UInt8->Bool):∀(l:B8) (n:Nat),ZAK P n l<=l.length
 | [],_=>Nat.le_refl _
 | b::l,n=>by
  rw[ZAK]
  have:=ZXv P l (n+1)
  split
  ·simp;omega
  ·simp
theorem ZlP{b:UInt8}(h:s[i]?=some b):s.drop i=b::s.drop (i+1):=by
 obtain⟨hi,rfl⟩:=List.getElem?_eq_some_iff.1 h;exact List.drop_eq_getElem_cons hi
structure More(st:St)(ks:List (Nat × Nat))(g:FuncId)(caps:LV)(P:Nat->UInt8->Bool):Prop where
 call:∀(bs:List Blk) (B:List (Bool × List Blk)) (L:List Blk) (i:Nat) (c:UInt8),B=(Zv st ks bs).ps->bs.length=ks.length->bs.all noH=true->i<=100000->S Tb g ([.int .i64 i,.int .u8 c.toNat]++caps) ⟨B,false,L⟩=some (.bool (P i c),⟨B,false,L⟩)
 wk:∀(i:Nat) (c:UInt8),ZZ (Zm ([]++[.int .i64 i,.int .u8 c.toNat]++caps))=some ([.int .i64 i,.int .u8 c.toNat]++caps)
structure FwS where
 i:Nat
 p:Int
 ver:Nat
 es:LV
 vis:Int
 B:List (Bool × List Blk)
 v:Nat
 T:List Blk
 xs:Env
structure FwI(st:St)(lv ic li la b:Nat)(r:Ro)(N:ZO)(s:B8)(n:Nat)(rt:CLv)(P:Nat->UInt8->Bool)(a0:Nat)(vis0:Int)(p0:Int)(q:FwS):Prop where
 hB:q.B=(Zv st [(lv,ic),(lv,li)] (Qx (.ptr la (b+5) 0 0 0) r lv li q.ver (n+1) q.es q.vis ((a0:Int)+q.i))).ps
 le:n+1<=q.es.length
 es:q.es.take (n+1)=(QR N q.p n rt).map (CLv.av N)
 ai:a0+q.i<=s.length
 p1:0<=q.p/\q.p<s.length
 pa:q.p=(a0:Int)+q.i\/(q.p+1=(a0:Int)+q.i/\∀lf,(QR N q.p n rt)[n]?=some lf->lf.t=(a0:Int)+q.i)
 fw:ZAK P 0 (s.drop a0)=q.i+ZAK P q.i (s.drop (a0+q.i))
 vs:q.vis+ZCg N p0 n rt=vis0+ZCg N q.p n rt
 v0:vis0<=q.vis/\q.vis<=vis0+20*q.i+20/\(q.p≠(a0:Int)+q.i->q.vis<=vis0+20*q.i)
theorem ZoJ{B:List (Bool × List Blk)}{v:Nat}{l:B8}{x:Blk}{T:List Blk}{m:Nat}(hm:m=l.length):b2sV ⟨B,false,.arr 1 v (Za l)::x::T⟩ (.ref B.length 0 v 0 m)=some (.str l):=by
 subst hm
 have:elems ⟨B,false,.arr 1 v (Za l)::x::T⟩ (.ref B.length 0 v 0 l.length)=some (Za l):=by
  simp only[elems,St.get_cur,List.getElem?_cons_zero,vis,ZBh,true_and,Nat.zero_add]
  rw[if_pos (by simp[Za]),List.drop_zero,List.take_of_length_le (by simp[Za])]
 simp only[b2sV,this,oS,ZDv]
theorem Zgw{lv b:Nat}{r:Ro}{vis0:Int}{N:ZO}{a0:Nat}(H:Cl st [(lv,ic),(lv,li)] (Qx (.ptr la (b+5) 0 0 0) r lv li ver (r.h+1) es vis0 a0))
 (hla:la<=lv) (hR:RdO st la (b+5) N [(lv,ic),(lv,li)]) (hN:GoodN N) (h:Rt N r s) (h0:r.at_≠0) (hs:s.length<=100000) (ha:a0<=s.length) (hv:0<=vis0/\vis0<700000000)
 (hke:r.h+1<=es.length) (hes:es.take (r.h+1)=(QR N (min (a0:Int) (s.length-1)) r.h (QM r)).map (CLv.av N)) {g:FuncId} {caps:LV} {P:Nat->UInt8->Bool} (hM:More st [(lv,ic),(lv,li)] g caps P) :
 ∃ver2 es2 vis2,S Tb Qb [.ptr lv ic 0 0 0,.func (.func g) [] caps] st=some (.tup [.str ((s.drop a0).take (ZAK P 0 (s.drop a0))),.int .i64 0],Zv st [(lv,ic),(lv,li)] (Qx (.ptr la (b+5) 0 0 0) r lv li ver2 (r.h+1) es2 vis2 ((a0+ZAK P 0 (s.drop a0):Nat):Int))) /\
  r.h+1<=es2.length/\es2.take (r.h+1)=(QR N (min ((a0+ZAK P 0 (s.drop a0):Nat):Int) (s.length-1)) r.h (QM r)).map (CLv.av N) /\
  vis2+ZCg N (min (a0:Int) (s.length-1)) r.h (QM r)=vis0+ZCg N (min ((a0+ZAK P 0 (s.drop a0):Nat):Int) (s.length-1)) r.h (QM r)/\vis0<=vis2/\vis2<=vis0+20*ZAK P 0 (s.drop a0)+20:=by
 obtain⟨hlv,ht,hpos⟩:=h.lv hN h0;have h13:=h.rt.h13 hN;have hmb:r.m.b=s.length:=(h.b hN).2;have hrf:(QM r).f=0:=rfl;have hrn:(QM r).n=r.h:=rfl;have hfl:=ZXv P (s.drop a0) 0;rw[List.length_drop]at hfl
 -- the leaf of the path
 have hleaf:∀p:Int,0<=p->p<s.length->∃lf,(QR N p r.h (QM r))[r.h]?=some lf/\CLvOk N s lf/\lf.n=0/\lf.f<=p/\p<lf.t/\lf.t<=s.length/\0<=lf.f:=by
  intro p p0 p1
  obtain⟨lf,hlf⟩:∃lf,(QR N p r.h (QM r))[r.h]?=some lf:=⟨_,jE (by rw[ZCr];omega)⟩
  obtain⟨e1,e2,e3,e4,e5,e6⟩:=ZAm hN r.h (QM r) rfl hlv (by omega) (by omega) r.h lf hlf
  exact⟨lf,hlf,e1,by omega,e3,e4,by omega,by omega⟩
 suffices hmain:Sp Tb Qb [.ptr lv ic 0 0 0,.func (.func g) [] caps] st (fun w st'=>∃q:FwS,q.i=ZAK P 0 (s.drop a0)/\q.p=min ((a0:Int)+q.i) (s.length-1)/\FwI st lv ic li la b r N s r.h (QM r) P a0 vis0 (min (a0:Int) (s.length-1)) q /\
  w=.tup [.str ((s.drop a0).take q.i),.int .i64 0]/\st'=Zv st [(lv,ic),(lv,li)] (Qx (.ptr la (b+5) 0 0 0) r lv li q.ver (r.h+1) q.es q.vis ((a0:Int)+q.i))) by
  obtain⟨w,st',hS,q,q1,q2,qI,rfl,rfl⟩:=hmain
  refine⟨q.ver,q.es,q.vis,?_,qI.le,?_,?_,qI.v0.1,by rw[<- q1];exact qI.v0.2.1⟩
  ·rw[hS,q1];simp
  ·rw[qI.es,q2,q1];simp
  ·rw[qI.vs,q2,q1];simp
 refine Zng (rfl:Tb Qb=some (.pf YZ)) ?_;obtain⟨B0,hB0⟩:∃B0,B0=st.ps:=⟨_,rfl⟩
 show Ru _ _ _ _ _ ⟨st.ps,false,[]⟩
 rw[<- hB0]
 repeat'(first|refine ZE ?_|refine ZD ?_|refine ZG Y ?_|refine ZB Y ?_|refine ZC ?_|refine YN Y Y ?_|refine ZCm Y ?_|refine ZS ?_)
 refine Z2 (α:=FwS) (fun q=>(0,.ptr lv ic 0 0 0)::(1,.func (.func g) [] caps)::(6,.ptr q.B.length 1 0 0 0)::(7,.func (.func QK) [] [.ptr q.B.length 1 0 0 0])::q.xs)
  (fun q=>⟨q.B,false,.arr 1 q.v (Za ((s.drop a0).take q.i))::.arr 1 0 [.ref q.B.length 0 q.v 0 q.i]::q.T⟩) (FwI st lv ic li la b r N s r.h (QM r) P a0 vis0 (min (a0:Int) (s.length-1)))
  (fun q=>2*(s.length-(a0+q.i))+(if q.p=(a0:Int)+q.i then 0 else 1)) ⟨0,min (a0:Int) (s.length-1),ver,es,vis0,B0,0,[],[]⟩ rfl rfl ?_ ?_
 ·refine⟨by simp only;rw[hB0];simp only[Int.add_zero,Int.natCast_zero];rw[H.same],hke,hes,by simp only;omega,by simp only;omega,?_,by simp,rfl,by simp only;omega⟩
  simp only
  rcases Nat.lt_or_ge a0 s.length with w|w
  ·left;omega
  ·right
   refine⟨by omega,fun lf hlf=>?_⟩
   obtain⟨lf',g1,g2,g3,g4,g5,g6,g7⟩:=hleaf (min (a0:Int) (s.length-1)) (by omega) (by omega)
   obtain rfl:lf'=lf:=Option.some.inj (g1.symm.trans hlf);omega
 rintro⟨i,p,ver,es,vis,B,v,T,xs⟩ hI
 obtain⟨hB,hle,hes,hai,⟨p0,p1⟩,pa,fw,vs,v0⟩:=id hI
 simp only at hB hle hes hai p0 p1 pa fw vs v0 ⊢
 obtain⟨lf,g1,g2,g3,g4,g5,g6,g7⟩:=hleaf p p0 p1;obtain⟨x1,x2⟩:=ZoI hN g2 g3
 have hc:=fun L=>Cl.old (L:=L) (ro:=false) H hB rfl rfl (j:=0) rfl rfl
 have hcl:=fun L=>Cl.old (L:=L) (ro:=false) H hB rfl rfl (j:=1) rfl rfl
 have htl:((s.drop a0).take i).length=i:=by rw[List.length_take,List.length_drop];omega
 have hb2:=fun T=>ZoJ (B:=B) (v:=v) (l:=(s.drop a0).take i) (x:=.arr 1 0 [.ref B.length 0 v 0 i]) (T:=T) htl.symm
 have hel:es[r.h+1-1]?=some (CLv.av N lf):=by
  have e1:(es.take (r.h+1))[r.h]?=es[r.h]?:=List.getElem?_take_of_lt (by omega)
  rw[Nat.add_sub_cancel,<- e1,hes,jG,g1];rfl
 have hLf:=fun L=>Zgt (hc L) (hcl L) (by omega) hel
 rcases Nat.eq_or_lt_of_le hai with hend|hlt
 ·-- the end of the text
  have hfin:∀(w:AV) (st':St),w=.tup [.str ((s.drop a0).take i),.int .i64 0]->st'=Zv st [(lv,ic),(lv,li)] (Qx (.ptr la (b+5) 0 0 0) r lv li ver (r.h+1) es vis ((a0:Int)+i))->∃q:FwS,q.i=ZAK P 0 (s.drop a0)/\q.p=min ((a0:Int)+q.i) (s.length-1)/\FwI st lv ic li la b r N s r.h (QM r) P a0 vis0 (min (a0:Int) (s.length-1)) q /\
   w=.tup [.str ((s.drop a0).take q.i),.int .i64 0]/\st'=Zv st [(lv,ic),(lv,li)] (Qx (.ptr la (b+5) 0 0 0) r lv li q.ver (r.h+1) q.es q.vis ((a0:Int)+q.i)):=by
   intro w st' e1 e2;refine⟨_,?_,?_,hI,e1,e2⟩
   ·show i=_
    rw[fw,List.drop_of_length_le (by omega)];rfl
   ·show p=min ((a0:Int)+i) (s.length-1);omega
  have hat:¬ ((a0:Int)+i)<r.m.b:=by omega
  unfold Qz at hc
  repeat'(first|refine Zt Y (hc _) Y Y ?_|refine ZYh Y (hb2 _) ?_|refine ZE ?_|refine ZD ?_|refine ZG Y ?_|refine ZI Y Y ?_|refine ZQ Y Y Y Y ?_|refine ZB Y ?_|refine ZC ?_|refine Ze Y Y ?_|(refine cm0 Y Y Y ?_ ?_<;>intro _<;>try omega)|refine ZF Y ?_|refine ZP ?_|refine Zz ?_|refine ZL ?_|refine Zk ?_|refine Zh Y ?_|refine Zx ?_)
  all_goals try first|contradiction|omega
  exact⟨_,_,ZX hB (.inr Y) Y Y Y Y Y,hfin _ _ Y Y⟩
 ·have hat:((a0:Int)+i)<r.m.b:=by omega
  rcases Int.lt_or_le ((a0:Int)+i) lf.t with hin|hout
  ·-- within the leaf
   have hpe:p=(a0:Int)+i:=by
    rcases pa with w|⟨_,w⟩
    ·exact w
    ·have:=w lf g1;omega
   obtain⟨c,hcb⟩:∃c,s[a0+i]?=some c:=⟨_,jE hlt⟩
   have hix:(QP N lf.o).text[((a0:Int)+i-lf.f).toNat]?=some c:=by
    rw[x2 _ (by omega) hin,show ((a0:Int)+i).toNat=a0+i by omega];exact hcb
   have hdrop:=ZlP hcb
   have hMo:=fun L=>hM.call _ B L i c hB rfl rfl (by omega)
   have hwk:=hM.wk i c
   have hnge:¬ ((QP N lf.o).text.length:Int)<=(a0:Int)+i-lf.f:=by omega
   cases hP:P i c with
   | false =>
    have hfin:∀(w:AV) (st':St),w=.tup [.str ((s.drop a0).take i),.int .i64 0]->st'=Zv st [(lv,ic),(lv,li)] (Qx (.ptr la (b+5) 0 0 0) r lv li ver (r.h+1) es vis ((a0:Int)+i))->∃q:FwS,q.i=ZAK P 0 (s.drop a0)/\q.p=min ((a0:Int)+q.i) (s.length-1)/\FwI st lv ic li la b r N s r.h (QM r) P a0 vis0 (min (a0:Int) (s.length-1)) q /\
     w=.tup [.str ((s.drop a0).take q.i),.int .i64 0]/\st'=Zv st [(lv,ic),(lv,li)] (Qx (.ptr la (b+5) 0 0 0) r lv li q.ver (r.h+1) q.es q.vis ((a0:Int)+q.i)):=by
     intro w st' e1 e2;refine⟨_,?_,?_,hI,e1,e2⟩
     ·show i=_
      rw[fw,hdrop,ZAK,hP];simp
     ·show p=min ((a0:Int)+i) (s.length-1);omega
    rw[hP]at hMo;unfold Qz at hc
    repeat'(first|refine Zt Y (hc _) Y Y ?_|refine ZYh Y (hb2 _) ?_|refine ZBT Y Y (by omega) hix ?_|refine ZA Y Y hwk (hMo _) ?_|refine ZE ?_|refine ZD ?_|refine ZG Y ?_|refine ZI Y Y ?_|refine ZQ Y Y Y Y ?_|refine Zp Y Y ?_|refine ZB Y ?_|refine ZC ?_|refine Ze Y Y ?_|refine Q4 Y ?_|refine JI Y ?_|(refine cm0 Y Y Y ?_ ?_<;>intro _<;>try omega)|refine ZU Y ?_|refine ZF Y ?_|refine YA Y Y ?_|refine Qe Y Y (by omega) ?_|refine ZA Y Y Y (hLf _) ?_|refine ZH ?_|refine ZP ?_|refine Zz ?_|refine ZS ?_|refine ZL ?_|refine Zk ?_|refine Zh Y ?_|refine ZQm Y ?_|refine Zx ?_)
    all_goals try first|contradiction|omega
    exact⟨_,_,ZX hB (.inr Y) Y Y Y Y Y,hfin _ _ Y Y⟩
   | true =>
    have hTk:=fun T=>Zvm (A:=B) (T:=T) (v:=v) (l:=(s.drop a0).take i) (by omega) c
    rw[htl]at hTk
    have htake:(s.drop a0).take i++[c]=(s.drop a0).take (i+1):=by
     rw[ZGF (k:=i) (x:=c)];rw[List.getElem?_drop];exact hcb
    rw[htake]at hTk;rw[hP]at hMo
    have hnext:∀B2 T2,B2=(Zv st [(lv,ic),(lv,li)] (Qx (.ptr la (b+5) 0 0 0) r lv li ver (r.h+1) es vis ((a0:Int)+i+1))).ps->B2.length=B.length->∃q:FwS,([(0,AV.ptr lv ic 0 0 0),(1,.func (.func g) [] caps),(6,.ptr B.length 1 0 0 0),(7,.func (.func QK) [] [.ptr B.length 1 0 0 0])]=(0,AV.ptr lv ic 0 0 0)::(1,.func (.func g) [] caps)::(6,.ptr q.B.length 1 0 0 0)::(7,.func (.func QK) [] [.ptr q.B.length 1 0 0 0])::q.xs /\
     (⟨B2,false,.arr 1 (v+1) (Za ((s.drop a0).take (i+1)))::.arr 1 0 [.ref B.length 0 (v+1) 0 (i+1)]::T2⟩:St)=⟨q.B,false,.arr 1 q.v (Za ((s.drop a0).take q.i))::.arr 1 0 [.ref q.B.length 0 q.v 0 q.i]::q.T⟩)/\FwI st lv ic li la b r N s r.h (QM r) P a0 vis0 (min (a0:Int) (s.length-1)) q /\
     2*(s.length-(a0+q.i))+(if q.p=(a0:Int)+q.i then 0 else 1)<2*(s.length-(a0+i))+(if p=(a0:Int)+i then 0 else 1):=by
     intro B2 T2 e1 e2
     obtain⟨p',hp',hps,hpv,hp0,hp1⟩:∃p':Int,(p'=(a0:Int)+(i+1:Nat)\/(p'+1=(a0:Int)+(i+1:Nat)/\∀lf,(QR N p' r.h (QM r))[r.h]?=some lf->lf.t=(a0:Int)+(i+1:Nat)))/\QR N p' r.h (QM r)=QR N p r.h (QM r)/\ZCg N p' r.h (QM r)=ZCg N p r.h (QM r)/\0<=p'/\p'<s.length:=by
      rcases Int.lt_or_le ((a0:Int)+i+1) lf.t with w|w
      ·obtain⟨y1,y2⟩:=ZTe hN r.h (QM r) lf rfl hlv (by omega) (by omega) g1 (a:=(a0:Int)+i+1) (by omega) w
       exact⟨_,.inl (by omega),y1,y2,by omega,by omega⟩
      ·refine⟨p,.inr ⟨by omega,fun lf' hlf'=>?_⟩,rfl,rfl,p0,p1⟩
       obtain rfl:lf=lf':=Option.some.inj (g1.symm.trans hlf');omega
     refine⟨⟨i+1,p',ver,es,vis,B2,v+1,T2,[]⟩,⟨by simp only;rw[e2],by simp only;rw[e2]⟩,⟨?_,hle,by simp only;rw[hps];exact hes,by simp only;omega,⟨hp0,hp1⟩,hp',?_,by simp only;rw[hpv];exact vs,by simp only;omega⟩,?_⟩
     ·simp only
      rw[e1,show (a0:Int)+i+1=(a0:Int)+(i+1:Nat) by omega]
     ·simp only
      rw[fw,hdrop,ZAK,hP,if_pos rfl,Nat.add_assoc i 1,Nat.add_assoc a0 i 1]
     ·simp only
      split<;>first|omega|(split<;>omega)
    unfold Qz at hc
    repeat'(first|refine Zt Y (hc _) Y Y ?_|refine ZBT Y Y (by omega) hix ?_|refine ZA Y Y hwk (hMo _) ?_|refine ZE ?_|refine ZD ?_|refine ZG Y ?_|refine ZI Y Y ?_|refine ZQ Y Y Y Y ?_|refine Zp Y Y ?_|refine ZB Y ?_|refine ZC ?_|refine Ze Y Y ?_|refine Q4 Y ?_|refine JI Y ?_|(refine cm0 Y Y Y ?_ ?_<;>intro _<;>try omega)|refine ZU Y ?_|refine ZF Y ?_|refine YA Y Y ?_|refine Zr Y Y (by omega) ?_|refine Qe Y Y (by omega) ?_|refine ZA Y Y Y (hLf _) ?_|refine ZA Y Y Y (hTk _) ?_|refine ZH ?_|refine ZS ?_)
    all_goals try first|contradiction|omega
    refine ZH5 (j:=0) H hB Y Y Y Y Y Y Y Y Y (fun B2 hB2 e2=>?_)
    have hn2:=fun T2=>hnext B2 T2 hB2 e2
    repeat'(first|exact hn2 _|refine ZB Y ?_|refine Z5 ?_|refine QJ ?_)
  ·-- behind the leaf
   have hpe:p+1=(a0:Int)+i/\lf.t=(a0:Int)+i:=by
    rcases pa with w|⟨w1,w⟩
    ·omega
    ·exact⟨w1,w lf g1⟩
   have Hc:∀L,Cl ⟨B,false,L⟩ [(lv,ic),(lv,li)] (Qx (.ptr la (b+5) 0 0 0) r lv li ver (r.h+1) es vis ((a0:Int)+i)):=fun L=>(H.put rfl rfl).push hB
   have hRc:∀L,RdO ⟨B,false,L⟩ la (b+5) N [(lv,ic),(lv,li)]:=fun L=>by
    obtain⟨a0',a1,im,a3,a4,a5,q1,q2,q3,q4⟩:=hR;exact⟨a0',a1,im,a3,a4,a5,ZV hB ((H.out Y Y q3).trans q1),ZV hB ((H.out Y Y q4).trans q2),q3,q4⟩
   obtain⟨w,st',hE,rfl,A2,L2,T2,ver2,es2,rfl,e2,f2,f3⟩:=ZjF (n:=r.h) (p:=p) (a:=(a0:Int)+i) (Hc (.arr 1 v (Za ((s.drop a0).take i))::.arr 1 0 [.ref B.length 0 v 0 i]::T)) hla (hRc _) hN hlv rfl (by omega) (by omega) (by omega) (by omega) (by omega) hs (by omega) hle hes
   have hlek:∀k∈[(lv,ic),(lv,li)],k.1<=(Zv st [(lv,ic),(lv,li)] (Qx (.ptr la (b+5) 0 0 0) r lv li ver (r.h+1) es vis ((a0:Int)+i))).A.length:=by rw[ZDn];exact H.le
   rw[J4 hB hlek,ZCn H.nd rfl rfl]at e2;simp only[St.mk.injEq,true_and]at e2;obtain⟨e2a,rfl⟩:=e2
   have hst:=Zgv hN r.h (QM r) rfl hlv p (by omega) (by omega)
   have hcm:=Zcg N p (p+1) r.h (QM r)
   have hBl:A2.length=B.length:=by rw[e2a,hB];simp[ZDn]
   rw[hpe.1]at hst hcm
   have hnext:∀x y:AV,∃q:FwS,([(0,AV.ptr lv ic 0 0 0),(1,.func (.func g) [] caps),(6,.ptr B.length 1 0 0 0),(7,.func (.func QK) [] [.ptr B.length 1 0 0 0]),(11,x),(49,y)]=(0,AV.ptr lv ic 0 0 0)::(1,.func (.func g) [] caps)::(6,.ptr q.B.length 1 0 0 0)::(7,.func (.func QK) [] [.ptr q.B.length 1 0 0 0])::q.xs /\
    (⟨A2,false,(.arr 1 v (Za ((s.drop a0).take i))::.arr 1 0 [.ref B.length 0 v 0 i]::T)++T2⟩:St)=⟨q.B,false,.arr 1 q.v (Za ((s.drop a0).take q.i))::.arr 1 0 [.ref q.B.length 0 q.v 0 q.i]::q.T⟩)/\FwI st lv ic li la b r N s r.h (QM r) P a0 vis0 (min (a0:Int) (s.length-1)) q /\
    2*(s.length-(a0+q.i))+(if q.p=(a0:Int)+q.i then 0 else 1)<2*(s.length-(a0+i))+(if p=(a0:Int)+i then 0 else 1):=by
    intro x y
    refine⟨⟨i,(a0:Int)+i,ver2,es2,_,A2,v,T++T2,[(11,x),(49,y)]⟩,⟨by simp only;rw[hBl],by simp only;rw[hBl];rfl⟩,⟨e2a,f2,f3,hai,by simp only;omega,.inl rfl,fw,by simp only;omega,by simp only;omega⟩,?_⟩
    simp only
    rw[if_pos trivial,if_neg (by omega)]
    omega
   unfold Qz at hc
   repeat'(first|exact hnext _ _|refine Zt Y (hc _) Y Y ?_|refine ZE ?_|refine ZD ?_|refine ZG Y ?_|refine ZI Y Y ?_|refine Zp Y Y ?_|refine ZB Y ?_|refine ZC ?_|refine Ze Y Y ?_|(refine cm0 Y Y Y ?_ ?_<;>intro _<;>try omega)|refine ZU Y ?_|refine ZF Y ?_|refine ZA Y Y Y (hLf _) ?_|refine ZA Y Y Y (hE) ?_|refine ZH ?_|refine Zz ?_|refine ZS ?_|refine Zk ?_|refine Zh Y ?_|refine QJ ?_)
   all_goals try first|contradiction|omega
theorem RdO.putS{ks:List (Nat × Nat)}{b0:List Blk}{N:ZO}(h:RdO st la ix N ks)(H:Cl st ks b0)(hl:bs.length=ks.length)(hn:bs.all noH=true):RdO (Zv st ks bs) la ix N ks:=by
 obtain⟨a0,a1,im,a3,a4,a5,h1,h2,h3,h4⟩:=h;exact⟨a0,a1,im,a3,a4,a5,(H.out hl hn h3).trans h1,(H.out hl hn h4).trans h2,h3,h4⟩
structure CurN(st:St)(lv ic li la b:Nat)(r:Ro)(N:ZO)(s:B8)(a:Nat)(vis:Int)(ver:Nat)(es:LV):Prop where
 cl:Cl st [(lv,ic),(lv,li)] (Qx (.ptr la (b+5) 0 0 0) r lv li ver (r.h+1) es vis a)
 le:r.h+1<=es.length
 es:es.take (r.h+1)=(QR N (min (a:Int) (s.length-1)) r.h (QM r)).map (CLv.av N)
def visA(N:ZO)(r:Ro)(s:B8)(a:Nat):Nat:=ZCg N (min (a:Int) (s.length-1)) r.h (QM r)
section
variable {st:St}{lv ic li ver la b:Nat}{r:Ro}{es:LV}{vis:Int}{N:ZO}{s:B8}{a:Nat}
theorem Zr3(H:CurN st lv ic li la b r N s a vis ver es)(hla:la<=lv)(hR:RdO st la (b+5) N [(lv,ic),(lv,li)])(hN:GoodN N)(h:Rt N r s)(h0:r.at_≠0)(hs:s.length<=100000)(ha:a<=s.length)(hv:0<=vis/\vis<700000000)(n:Int)(hn:0<=n):
 ∃ver2 es2 vis2 k,k=ZAK (fun i _=>decide ((i:Int)<n)) 0 (s.drop a)/\S Tb Qg [.ptr lv ic 0 0 0,.int .i64 n] st=some (.tup [.str ((s.drop a).take k),.int .i64 0],Zv st [(lv,ic),(lv,li)] (Qx (.ptr la (b+5) 0 0 0) r lv li ver2 (r.h+1) es2 vis2 ((a+k:Nat):Int))) /\
  CurN (Zv st [(lv,ic),(lv,li)] (Qx (.ptr la (b+5) 0 0 0) r lv li ver2 (r.h+1) es2 vis2 ((a+k:Nat):Int))) lv ic li la b r N s (a+k) vis2 ver2 es2/\vis2+visA N r s a=vis+visA N r s (a+k)/\vis<=vis2/\vis2<=vis+20*k+20:=by
 obtain⟨A,hA⟩:∃A,A=st.ps:=⟨_,rfl⟩;have H1:Cl ⟨A,false,[.arr 1 0 [.int .i64 n]]⟩ [(lv,ic),(lv,li)] _:=H.cl.push hA;have hR1:=hR.push (L:=[.arr 1 0 [.int .i64 n]]) hA;have hlt:∀k∈[(lv,ic),(lv,li)],k.1<=st.A.length:=H.cl.le
 have hAl:A.length=st.A.length+1:=by rw[hA];simp
 have hlv:lv<=st.A.length:=hlt (lv,ic) (by simp)
 have hM:More ⟨A,false,[.arr 1 0 [.int .i64 n]]⟩ [(lv,ic),(lv,li)] Yk [.ptr A.length 0 0 0 0] (fun i _=>decide ((i:Int)<n)):=by
  refine⟨fun bs B L i c hB hl hno hi=>?_,fun i c=>rfl⟩
  have hg:St.get ⟨B,false,L⟩ A.length 0=some (.arr 1 0 [.int .i64 n]):=ZV hB ((H1.out hl hno (by simp;omega)).trans (by rw[St.get_cur];rfl))
  refine QA Y (fun B1 hA=>?_)
  have g0:=fun L=>ZV hA (ro:=false) (L:=L) hg
  repeat'(first|refine Zt Y (g0 _) Y Y ?_|refine ZE ?_|refine ZD ?_|refine ZG Y ?_|refine ZB Y ?_|refine ZC ?_|(refine cm0 Y Y Y ?_ ?_<;>intro _<;>try omega)|refine ZP ?_|refine ZL ?_)
  all_goals refine ZX hA (by simp) Y Y Y Y ?_
  ·rw[decide_eq_true (by assumption)]
  ·rw[decide_eq_false (by omega)]
 obtain⟨ver2,es2,vis2,hF,f1,f2,f3,f4,f5⟩:=Zgw H1 hla hR1 hN h h0 hs ha hv H.le H.es hM;refine⟨ver2,es2,vis2,_,rfl,?_,⟨H.cl.put Y Y,f1,f2⟩,f3,f4,f5⟩
 generalize ZAK (fun i _=>decide ((i:Int)<n)) 0 (s.drop a)=k at *
 rw[J4 hA hlt]at hF;have hRe:=Yq hN h ((H.cl.push hA (ro:=false) (L:=[.arr 1 0 [.int .i64 n]])).get 0 lv ic _ rfl rfl) (hR.push hA (L:=[.arr 1 0 [.int .i64 n]])).rd
 refine Jz Y (fun A' hA'=>?_)
 obtain rfl:A'=A:=hA'.trans hA.symm
 have hBl:(Zv st [(lv,ic),(lv,li)] (Qx (.ptr la (b+5) 0 0 0) r lv li ver2 (r.h+1) es2 vis2 ((a+k:Nat):Int))).ps.length=A'.length:=by simp[ZDn,hA]
 obtain⟨B,hB⟩:∃B,B=(Zv st [(lv,ic),(lv,li)] (Qx (.ptr la (b+5) 0 0 0) r lv li ver2 (r.h+1) es2 vis2 ((a+k:Nat):Int))).ps:=⟨_,rfl⟩;rw[<- hB]at hF
 repeat'(first|refine ZE ?_|refine ZD ?_|refine ZG Y ?_|refine ZQ Y Y Y Y ?_|refine Zp Y Y ?_|refine ZB Y ?_|refine ZC ?_|(refine cm0 Y Y Y ?_ ?_<;>intro _<;>try omega)|refine ZF Y ?_|refine YN Y Y ?_|refine Zc Y Y Y ?_|refine ZA Y Y Y (hRe) ?_|refine ZA Y Y Y (hF) ?_|refine ZH ?_|refine ZP ?_|refine ZL ?_)
 all_goals try first|contradiction|omega
 exact ZX hB (.inr Y) Y Y Y Y Y
def Zgx(c:UInt8):Bool:=decide (128<=c.toNat/\c.toNat<192)
theorem Zr4(c:UInt8)(st:St):S Tb ZBH [.int .u8 c.toNat] st=some (.bool (Zgx c),st):=by
 refine QA Y (fun A hA=>?_)
 unfold Zgx
 repeat'(first|refine ZE ?_|refine ZD ?_|refine ZG Y ?_|refine Z9 Y ?_|refine Ji Y Y ?_|refine Zi Y Y Y Y ?_|refine ZB Y ?_|refine ZC ?_|(refine cm0 Y Y Y ?_ ?_<;>intro _<;>try omega)|refine ZP ?_|refine ZL ?_)
 all_goals refine ZX hA (by simp) Y Y Y Y ?_
 ·rw[decide_eq_true (by omega)]
 ·rw[decide_eq_false (by omega)]
 ·rw[decide_eq_false (by omega)]
def ZL8(i:Nat)(c:UInt8):Bool:=decide (i=0) || Zgx c
theorem Zr5(H:CurN st lv ic li la b r N s a vis ver es)(hla:la<=lv)(hR:RdO st la (b+5) N [(lv,ic),(lv,li)])(hN:GoodN N)(h:Rt N r s)(h0:r.at_≠0)(hs:s.length<=100000)(ha:a<s.length)(hv:0<=vis/\vis<700000000):
 ∃ver2 es2 vis2 k,k=ZAK ZL8 0 (s.drop a)/\S Tb Qh [.ptr lv ic 0 0 0] st=some (.tup [.str ((s.drop a).take k),.int .i64 0],Zv st [(lv,ic),(lv,li)] (Qx (.ptr la (b+5) 0 0 0) r lv li ver2 (r.h+1) es2 vis2 ((a+k:Nat):Int))) /\
  CurN (Zv st [(lv,ic),(lv,li)] (Qx (.ptr la (b+5) 0 0 0) r lv li ver2 (r.h+1) es2 vis2 ((a+k:Nat):Int))) lv ic li la b r N s (a+k) vis2 ver2 es2/\vis2+visA N r s a=vis+visA N r s (a+k)/\vis<=vis2/\vis2<=vis+20*k+20:=by
 obtain⟨A,hA⟩:∃A,A=st.ps:=⟨_,rfl⟩;have H1:Cl ⟨A,false,[]⟩ [(lv,ic),(lv,li)] _:=H.cl.push hA;have hR1:=hR.push (L:=[]) hA;have hlt:∀k∈[(lv,ic),(lv,li)],k.1<=st.A.length:=H.cl.le;have hmb:r.m.b=s.length:=(h.b hN).2
 have hM:More ⟨A,false,[]⟩ [(lv,ic),(lv,li)] Yl [] ZL8:=by
  refine⟨fun bs B L i c hB hl hno hi=>?_,fun i c=>rfl⟩
  refine QA Y (fun B1 hA=>?_)
  have hC:=fun st=>Zr4 c st
  unfold ZL8
  by_cases hi0:i=0
  ·subst hi0
   repeat'(first|refine ZE ?_|refine ZD ?_|refine ZG Y ?_|refine Ji Y Y ?_|refine Zi Y Y Y Y ?_|refine ZB Y ?_|refine ZC ?_|(refine cm0 Y Y Y ?_ ?_<;>intro _<;>try omega)|refine ZP ?_|refine ZL ?_)
   all_goals try first|contradiction|omega
   all_goals refine ZX hA (by simp) Y Y Y Y ?_
   all_goals rfl
  ·have:((i:Nat):Int)≠0:=by omega
   repeat'(first|refine ZE ?_|refine ZD ?_|refine ZG Y ?_|refine Z9 Y ?_|refine Zi Y Y Y Y ?_|refine ZB Y ?_|refine ZC ?_|(refine cm0 Y Y Y ?_ ?_<;>intro _<;>try omega)|refine ZA Y Y Y (hC _) ?_|refine ZP ?_|refine ZL ?_)
   all_goals try first|contradiction|omega
   all_goals refine ZX hA (by simp) Y Y Y Y ?_
   all_goals simp[hi0]
 obtain⟨ver2,es2,vis2,hF,f1,f2,f3,f4,f5⟩:=Zgw H1 hla hR1 hN h h0 hs (Nat.le_of_lt ha) hv H.le H.es hM;refine⟨ver2,es2,vis2,_,rfl,?_,⟨H.cl.put Y Y,f1,f2⟩,f3,f4,f5⟩
 generalize ZAK ZL8 0 (s.drop a)=k at *
 rw[J4 hA hlt]at hF;have hRe:=Yq hN h ((H.cl.push hA (ro:=false) (L:=[])).get 0 lv ic _ rfl rfl) (hR.push hA (L:=[])).rd;have hg:=(H.cl.push hA (ro:=false) (L:=[])).get 0 lv ic _ rfl rfl
 refine Jz Y (fun A' hA'=>?_)
 obtain rfl:A'=A:=hA'.trans hA.symm;obtain⟨B,hB⟩:∃B,B=(Zv st [(lv,ic),(lv,li)] (Qx (.ptr la (b+5) 0 0 0) r lv li ver2 (r.h+1) es2 vis2 ((a+k:Nat):Int))).ps:=⟨_,rfl⟩;rw[<- hB]at hF;unfold Qz at hg
 have hne:((a:Nat):Int)≠r.m.b:=by omega
 repeat'(first|refine Zt Y hg Y Y ?_|refine ZE ?_|refine ZD ?_|refine ZG Y ?_|refine ZI Y Y ?_|refine Zp Y Y ?_|refine ZB Y ?_|refine ZC ?_|refine Ze Y Y ?_|(refine cm0 Y Y Y ?_ ?_<;>intro _<;>try omega)|refine ZF Y ?_|refine ZA Y Y Y (hRe) ?_|refine ZA Y Y Y (hF) ?_|refine ZH ?_|refine ZP ?_|refine ZL ?_)
 all_goals try first|contradiction|omega
 exact ZX hB (.inr Y) Y Y Y Y Y
theorem Zr6(h0:st.get lv ic=some (Qz (.ptr la (b+5) 0 0 0) r lev vis at_))(hb:0<=r.m.b/\r.m.b<=100000)(x:Int):S Tb XD [.ptr lv ic 0 0 0,.int .i64 x] st=some (.int .i64 (min x (r.m.b-1)),st):=by
 refine QA Y (fun A hA=>?_)
 have g0:=fun L=>ZV hA (ro:=false) (L:=L) h0
 unfold Qz at g0
 repeat'(first|refine Zt Y (g0 _) Y Y ?_|refine ZQp Y Y ?_|refine ZE ?_|refine ZD ?_|refine ZG Y ?_|refine ZI Y Y ?_|refine ZB Y ?_|refine ZC ?_|refine Ze Y Y ?_|refine Qe Y Y (by omega) ?_|refine ZP ?_|refine ZL ?_)
 refine ZX hA (by simp) Y Y Y Y ?_
 rfl
theorem ZjH(H:CurN st lv ic li la b r N s a vis ver es)(hla:la<=lv)(hR:RdO st la (b+5) N [(lv,ic),(lv,li)])(hN:GoodN N)(h:Rt N r s)(h0:r.at_≠0)(hs:s.length<=100000)(ha:a<=s.length)(hv:0<=vis/\vis<700000000)(x:Nat)(hx:x<=s.length):
 ∃ver2 es2 vis2,S Tb QV [.ptr lv ic 0 0 0,.int .i64 x] st=some (.int .i64 0,Zv st [(lv,ic),(lv,li)] (Qx (.ptr la (b+5) 0 0 0) r lv li ver2 (r.h+1) es2 vis2 x)) /\
  CurN (Zv st [(lv,ic),(lv,li)] (Qx (.ptr la (b+5) 0 0 0) r lv li ver2 (r.h+1) es2 vis2 x)) lv ic li la b r N s x vis2 ver2 es2/\vis2=vis+((r.h+1-cmL N (min (a:Int) (s.length-1)) (min (x:Int) (s.length-1)) r.h (QM r):Nat):Int):=by
 obtain⟨hlv,ht,hpos⟩:=h.lv hN h0;have h13:=h.rt.h13 hN;have hmb:r.m.b=s.length:=(h.b hN).2;have hrf:(QM r).f=0:=rfl;have hlt:∀k∈[(lv,ic),(lv,li)],k.1<=st.A.length:=H.cl.le
 suffices hm:Sp Tb QV [.ptr lv ic 0 0 0,.int .i64 x] st (fun v st'=>v=.int .i64 0/\∃ver2 es2,st'=Zv st [(lv,ic),(lv,li)] (Qx (.ptr la (b+5) 0 0 0) r lv li ver2 (r.h+1) es2 (vis+((r.h+1-cmL N (min (a:Int) (s.length-1)) (min (x:Int) (s.length-1)) r.h (QM r):Nat):Int)) x)/\r.h+1<=es2.length/\es2.take (r.h+1)=(QR N (min (x:Int) (s.length-1)) r.h (QM r)).map (CLv.av N)) by
  obtain⟨v,st',hS,rfl,ver2,es2,rfl,f1,f2⟩:=hm;exact⟨ver2,es2,_,hS,⟨H.cl.put Y Y,f1,f2⟩,rfl⟩
 refine Zng (rfl:Tb QV=some (.pf XG)) ?_;obtain⟨A,hA⟩:∃A,A=st.ps:=⟨_,rfl⟩
 show Ru _ _ _ _ _ ⟨st.ps,false,[]⟩
 rw[<- hA]
 have hA0:A=(Zv st [(lv,ic),(lv,li)] (Qx (.ptr la (b+5) 0 0 0) r lv li ver (r.h+1) es vis a)).ps:=by rw[H.cl.same];exact hA
 repeat'(first|refine ZE ?_|refine ZD ?_|refine ZG Y ?_|refine ZI Y Y ?_|refine ZB Y ?_|refine ZC ?_|refine Ze Y Y ?_)
 refine ZH5 (j:=0) H.cl hA0 Y Y Y Y Y Y Y Y Y (fun B hB e1=>?_)
 have hB':B=(Zv st [(lv,ic),(lv,li)] (Qx (.ptr la (b+5) 0 0 0) r lv li ver (r.h+1) es vis x)).ps:=hB;have Hc:=(H.cl.put (bs':=Qx (.ptr la (b+5) 0 0 0) r lv li ver (r.h+1) es vis x) rfl rfl).push hB' (ro:=false) (L:=[]);have hg:=Hc.get 0 lv ic _ rfl rfl
 have hSt:=Zr6 hg (by omega) (x:Int)
 rw[hmb]at hSt
 obtain⟨v,st',hE,rfl,A2,L2,T2,ver2,es2,rfl,e2,f2,f3⟩:=ZjF (n:=r.h) (p:=min (a:Int) (s.length-1)) (a:=min (x:Int) (s.length-1)) Hc hla ((hR.putS H.cl rfl rfl).push hB') hN hlv rfl (by omega) (by omega) (by omega) (by omega) (by omega) hs (by omega) H.le H.es
 have hlek:∀k∈[(lv,ic),(lv,li)],k.1<=(Zv st [(lv,ic),(lv,li)] (Qx (.ptr la (b+5) 0 0 0) r lv li ver (r.h+1) es vis x)).A.length:=by rw[ZDn];exact hlt
 rw[J4 hB' hlek,ZCn H.cl.nd rfl rfl]at e2;simp only[St.mk.injEq,true_and]at e2;obtain⟨e2a,rfl⟩:=e2
 have hzi:((r.at_:Nat):Int)≠0:=by omega
 unfold Qz at hg
 repeat'(first|refine Zt Y hg Y Y ?_|refine ZE ?_|refine ZD ?_|refine ZG Y ?_|refine ZI Y Y ?_|refine ZB Y ?_|refine ZC ?_|refine Ze Y Y ?_|(refine cm0 Y Y Y ?_ ?_<;>intro _<;>try omega)|refine ZF Y ?_|refine ZA Y Y Y (hSt) ?_|refine ZA Y Y Y (hE) ?_|refine ZH ?_|refine ZP ?_|refine ZL ?_)
 all_goals try first|contradiction|omega
 exact⟨_,_,ZX e2a (.inr Y) Y Y Y Y Y,rfl,ver2,es2,rfl,f2,f3⟩
theorem Zr7(H:CurN st lv ic li la b r N s a vis ver es)(hla:la<=lv)(hR:RdO st la (b+5) N [(lv,ic),(lv,li)])(hN:GoodN N)(h:Rt N r s)(h0:r.at_≠0)(hs:s.length<=100000)(ha:a<=s.length)(hv:0<=vis/\vis<700000000)(x:Nat)(hx:x<=s.length):
 ∃ver2 es2 vis2,S Tb QE [.ptr lv ic 0 0 0,.int .i64 x] st=some (.int .i64 0,Zv st [(lv,ic),(lv,li)] (Qx (.ptr la (b+5) 0 0 0) r lv li ver2 (r.h+1) es2 vis2 x)) /\
  CurN (Zv st [(lv,ic),(lv,li)] (Qx (.ptr la (b+5) 0 0 0) r lv li ver2 (r.h+1) es2 vis2 x)) lv ic li la b r N s x vis2 ver2 es2/\vis2=vis+((r.h+1-cmL N (min (a:Int) (s.length-1)) (min (x:Int) (s.length-1)) r.h (QM r):Nat):Int):=by
 obtain⟨A,hA⟩:∃A,A=st.ps:=⟨_,rfl⟩;have hlt:∀k∈[(lv,ic),(lv,li)],k.1<=st.A.length:=H.cl.le;have hmb:r.m.b=s.length:=(h.b hN).2;have H1:CurN ⟨A,false,[]⟩ lv ic li la b r N s a vis ver es:=⟨H.cl.push hA,H.le,H.es⟩;obtain⟨ver2,es2,vis2,hJ,hC,hvis⟩:=ZjH H1 hla (hR.push hA) hN h h0 hs ha hv x hx;refine⟨ver2,es2,vis2,?_,⟨H.cl.put Y Y,hC.le,hC.es⟩,hvis⟩;rw[J4 hA hlt]at hJ;have hg:=H1.cl.get 0 lv ic _ rfl rfl;have hRe:=Yq hN h hg (hR.push hA (L:=[])).rd
 refine Jz Y (fun A' hA'=>?_)
 obtain rfl:A'=A:=hA'.trans hA.symm;obtain⟨B,hB⟩:∃B,B=(Zv st [(lv,ic),(lv,li)] (Qx (.ptr la (b+5) 0 0 0) r lv li ver2 (r.h+1) es2 vis2 x)).ps:=⟨_,rfl⟩;rw[<- hB]at hJ;unfold Qz at hg
 repeat'(first|refine Zt Y hg Y Y ?_|refine ZE ?_|refine ZD ?_|refine ZG Y ?_|refine ZI Y Y ?_|refine Z9 Y ?_|refine Zi Y Y Y Y ?_|refine ZB Y ?_|refine ZC ?_|refine Ze Y Y ?_|(refine cm0 Y Y Y ?_ ?_<;>intro _<;>try omega)|refine ZF Y ?_|refine ZA Y Y Y (hRe) ?_|refine ZA Y Y Y (hJ) ?_|refine ZH ?_|refine ZP ?_|refine ZL ?_)
 all_goals try first|contradiction|omega
 exact ZX hB (.inr Y) Y Y Y Y Y
theorem at_c(h0:st.get lv ic=some (Qz ap r lev vis at_)):S Tb Qm [.ptr lv ic 0 0 0] st=some (.int .i64 at_,st):=by
 refine QA Y (fun A hA=>?_)
 have g0:=fun L=>ZV hA (ro:=false) (L:=L) h0
 unfold Qz at g0
 repeat'(first|refine Zt Y (g0 _) Y Y ?_|refine ZE ?_|refine ZD ?_|refine ZG Y ?_|refine ZI Y Y ?_|refine ZB Y ?_|refine ZC ?_|refine Ze Y Y ?_|refine ZF Y ?_|refine JM Y Y Y Y ?_|refine ZH ?_|refine ZP ?_|refine ZL ?_)
 all_goals refine ZX hA (by simp) Y Y Y Y ?_
 all_goals rfl
theorem visited_c(h0:st.get lv ic=some (Qz ap r lev vis at_)):S Tb QG [.ptr lv ic 0 0 0] st=some (.int .i64 vis,st):=by
 refine QA Y (fun A hA=>?_)
 have g0:=fun L=>ZV hA (ro:=false) (L:=L) h0
 unfold Qz at g0
 repeat'(first|refine Zt Y (g0 _) Y Y ?_|refine ZE ?_|refine ZD ?_|refine ZG Y ?_|refine ZI Y Y ?_|refine ZB Y ?_|refine ZC ?_|refine Ze Y Y ?_|refine ZF Y ?_|refine JM Y Y Y Y ?_|refine ZH ?_|refine ZP ?_|refine ZL ?_)
 all_goals refine ZX hA (by simp) Y Y Y Y ?_
 all_goals rfl
end
def RdM(st:St)(la ix im:Nat)(N:ZO):Prop:=∃a0 a1 a3 a4 a5,st.get la ix=some (.arr 6 0 [.agg [a0,a1,.map la im,a3,a4,a5]])/\st.get la im=some (.map (N.map nodeAV))
theorem RdM.rd{im:Nat}{N:ZO}(h:RdM st la ix im N):Rd st la ix N:=by
 obtain⟨a0,a1,a3,a4,a5,h1,h2⟩:=h;exact⟨a0,a1,im,a3,a4,a5,h1,h2⟩
theorem RdM.app{L:List Blk}{im:Nat}{N:ZO}(h:RdM ⟨A,false,L⟩ la ix im N)(T:List Blk):RdM ⟨A,false,L++T⟩ la ix im N:=by
 obtain⟨a0,a1,a3,a4,a5,h1,h2⟩:=h;exact⟨a0,a1,a3,a4,a5,XI h1,XI h2⟩
structure Stay(X X':List Blk)(ic li:Nat):Prop where
 len:X'.length=X.length
 get:∀i,i≠ic->i≠li->X'[i]?=X[i]?
structure CurL(A:List (Bool × List Blk))(X:List Blk)(ic li la b im:Nat)(r:Ro)(N:ZO)(s:B8)(a:Nat)(vis:Int):Prop where
 ex:∃ver es,CurN ⟨A,false,X⟩ A.length ic li la b r N s a vis ver es
 rd:RdM ⟨A,false,X⟩ la (b+5) im N
 n5:¬ (la=A.length/\(b+5=ic\/b+5=li))
 nm:¬ (la=A.length/\(im=ic\/im=li))
 la:la<=A.length
section
variable {A:List (Bool × List Blk)}{X:List Blk}{ic li la b im:Nat}{r:Ro}{N:ZO}{s:B8}{a:Nat}{vis:Int}
theorem CurL.rdo(h:CurL A X ic li la b im r N s a vis):RdO ⟨A,false,X⟩ la (b+5) N [(A.length,ic),(A.length,li)]:=by
 obtain⟨a0,a1,a3,a4,a5,h1,h2⟩:=h.rd;have n5:=h.n5;have nm:=h.nm
 refine⟨a0,a1,im,a3,a4,a5,h1,h2,?_,?_⟩<;>simp only[List.mem_cons,jP,List.not_mem_nil,or_false]<;>omega
theorem Zr9(X:List Blk)(b0 b1:Blk):Zv ⟨A,false,X⟩ [(A.length,ic),(A.length,li)] [b0,b1]=⟨A,false,(X.set ic b0).set li b1⟩:=by
 simp[Zv,St.upd]
theorem ZwN(X:List Blk)(b0 b1:Blk):Stay X ((X.set ic b0).set li b1) ic li :=
 ⟨by simp,fun i h1 h2=>by rw[jS (fun q=>h2 q.symm),jS (fun q=>h1 q.symm)]⟩
theorem CurL.to(h:CurL A X ic li la b im r N s a vis){a2:Nat}{vis2:Int}{ver2:Nat}{es2:LV}(q:CurN (Zv ⟨A,false,X⟩ [(A.length,ic),(A.length,li)] (Qx (.ptr la (b+5) 0 0 0) r A.length li ver2 (r.h+1) es2 vis2 a2)) A.length ic li la b r N s a2 vis2 ver2 es2):
 ∃X',Zv ⟨A,false,X⟩ [(A.length,ic),(A.length,li)] (Qx (.ptr la (b+5) 0 0 0) r A.length li ver2 (r.h+1) es2 vis2 a2)=⟨A,false,X'⟩/\CurL A X' ic li la b im r N s a2 vis2/\Stay X X' ic li:=by
 obtain⟨ver,es,w⟩:=h.ex
 refine⟨_,Zr9 X _ _,⟨⟨ver2,es2,by rw[<- Zr9];exact q⟩,?_,h.n5,h.nm,h.la⟩,ZwN X _ _⟩
 obtain⟨a0,a1,im',a3,a4,a5,h1,h2,h3,h4⟩:=h.rdo;obtain⟨c0,c1,c3,c4,c5,g1,g2⟩:=h.rd;rw[<- Zr9];have n5:=h.n5;have nm:=h.nm
 refine⟨c0,c1,c3,c4,c5,(w.cl.out Y Y ?_).trans g1,(w.cl.out Y Y ?_).trans g2⟩<;>simp only[List.mem_cons,jP,List.not_mem_nil,or_false]<;>omega
theorem CurL.at_c(h:CurL A X ic li la b im r N s a vis):S Tb Qm [.ptr A.length ic 0 0 0] ⟨A,false,X⟩=some (.int .i64 a,⟨A,false,X⟩):=by
 obtain⟨ver,es,w⟩:=h.ex;exact Go.Q15.at_c (w.cl.get 0 _ _ _ Y Y)
theorem CurL.visited_c(h:CurL A X ic li la b im r N s a vis):S Tb QG [.ptr A.length ic 0 0 0] ⟨A,false,X⟩=some (.int .i64 vis,⟨A,false,X⟩):=by
 obtain⟨ver,es,w⟩:=h.ex;exact Go.Q15.visited_c (w.cl.get 0 _ _ _ Y Y)
section
variable (hN:GoodN N)(h:Rt N r s)(h0:r.at_≠0)(hs:s.length<=100000)
include hN h h0 hs
theorem CurL.next(hc:CurL A X ic li la b im r N s a vis)(ha:a<s.length)(hv:0<=vis/\vis<700000000):
 ∃X' vis2 k,k=ZAK ZL8 0 (s.drop a)/\S Tb Qh [.ptr A.length ic 0 0 0] ⟨A,false,X⟩=some (.tup [.str ((s.drop a).take k),.int .i64 0],⟨A,false,X'⟩)/\CurL A X' ic li la b im r N s (a+k) vis2/\Stay X X' ic li/\vis2+visA N r s a=vis+visA N r s (a+k)/\vis<=vis2/\vis2<=vis+20*k+20:=by
 obtain⟨ver,es,w⟩:=hc.ex;obtain⟨ver2,es2,vis2,k,hk,f1,f2,f3,f4,f5⟩:=Zr5 w hc.la hc.rdo hN h h0 hs ha hv;obtain⟨X',e1,e2,e3⟩:=hc.to f2;rw[e1]at f1;exact⟨X',vis2,k,hk,f1,e2,e3,f3,f4,f5⟩
end
theorem ZlQ(hN:GoodN N)(h:Rt N r s)(hs:s.length<=100000)(hR:RdM ⟨A,false,X⟩ la (b+5) im N)(hla:la<=A.length):
 ∃X' ic,S Tb Yj [.ptr la (b+5) 0 0 0,r.av] ⟨A,false,X⟩=some (.tup [.ptr A.length ic 0 0 0,.int .i64 0],⟨A,false,X'⟩)/\X.length<=ic/\X.length<=X'.length/\(∀i,i<X.length->X'[i]?=X[i]?) /\
  ((r.at_=0/\X'[ic]?=some (Qz (.ptr la (b+5) 0 0 0) r .nils 0 0))\/(r.at_≠0/\∃li,X.length<=li/\CurL A X' ic li la b im r N s 0 ((r.h+1:Nat):Int))):=by
 have hCk:=fun T=>Zr0 hN (hR.app T).rd h hs
 have hroot:∀c:Blk,(X++[Blk.arr 5 0 [r.av]]++[c])[X.length]?=some (.arr 5 0 [r.av]):=fun c=>by rw[List.append_assoc,List.getElem?_append_right (Nat.le_refl _),Nat.sub_self];rfl
 by_cases h0:r.at_=0
 ·have hz:((r.at_:Nat):Int)=0:=by omega
  refine⟨X++[.arr 5 0 [r.av]]++[Qz (.ptr la (b+5) 0 0 0) r .nils 0 0],(X++[Blk.arr 5 0 [r.av]]).length,XW Y ?_,by simp only[lL,List.length_singleton];omega,by simp only[lL,List.length_singleton];omega,fun i hi=>by rw[List.append_assoc,jL hi],.inl ⟨h0,by rw[List.getElem?_append_right (Nat.le_refl _),Nat.sub_self];rfl⟩⟩
  unfold Ro.av Qz at *
  repeat'(first|refine ZQ Y (hroot _) Y Y ?_|refine ZE ?_|refine ZD ?_|refine ZG Y ?_|refine ZI Y Y ?_|refine ZB Y ?_|refine ZC ?_|refine Ql Y Y Y ?_|(refine cm0 Y Y Y ?_ ?_<;>intro _<;>try omega)|refine ZF Y ?_|refine Zn Y Y Y ?_|refine Zw Y Y Y ?_|refine ZA Y Y Y (hCk _) ?_|refine ZH ?_|refine ZP ?_|refine ZL ?_)
  all_goals try contradiction
  all_goals exact Jo (.inr Y) Y Y Y Y
 ·have hz:((r.at_:Nat):Int)≠0:=by omega
  have hci:(X++[Blk.arr 5 0 [r.av]]++[Qz (.ptr la (b+5) 0 0 0) r .nils 0 0])[(X++[Blk.arr 5 0 [r.av]]).length]?=some (Qz (.ptr la (b+5) 0 0 0) r .nils 0 0):=by rw[List.getElem?_append_right (Nat.le_refl _),Nat.sub_self];rfl
  obtain⟨a0,a1,a3,a4,a5,g1,g2⟩:=(hR.app [Blk.arr 5 0 [r.av]]).app [Qz (.ptr la (b+5) 0 0 0) r .nils 0 0];obtain⟨v,st',hE,rfl,X',ver,es,rfl,f1,f2,f3,f4,f5⟩:=ZpZ hN h h0 hs hci hla ⟨a0,a1,im,a3,a4,a5,g1,g2⟩
  have hst:∀i,i<X.length->X'[i]?=X[i]?:=fun i hi=>by
   rw[f5 i (by simp;omega) (by simp;omega),List.append_assoc,jL hi]
  have hin:∀lv ix c,St.get ⟨A,false,X⟩ lv ix=some c->St.get ⟨A,false,X'⟩ lv ix=some c/\¬ (lv=A.length/\X.length<=ix):=by
   intro lv ix c q;rw[St.get]at q ⊢
   simp only at q ⊢
   by_cases w:lv=A.length
   ·rw[if_pos w]at q ⊢
    have hlt:=ZC3 q;rw[hst ix hlt]
    exact⟨q,fun e=>by omega⟩
   ·rw[if_neg w]at q ⊢
    exact⟨q,fun e=>w e.1⟩
  obtain⟨b0,b1,b3,b4,b5,k1,k2⟩:=hR;obtain⟨k1',k1n⟩:=hin _ _ _ k1;obtain⟨k2',k2n⟩:=hin _ _ _ k2
  refine⟨X',(X++[Blk.arr 5 0 [r.av]]).length,XW Y ?_,by simp,by simp at f4;omega,hst,.inr ⟨h0,(X++[Blk.arr 5 0 [r.av]]++[Qz (.ptr la (b+5) 0 0 0) r .nils 0 0]).length+1,by simp;omega,⟨ver,es,⟨f1,f2,by
   rw[f3];obtain⟨_,_,hp⟩:=h.lv hN h0
   rw[show min ((0:Nat):Int) (s.length-1)=0 by omega]⟩⟩,⟨b0,b1,b3,b4,b5,k1',k2'⟩,?_,?_,hla⟩⟩
  ·unfold Ro.av Qz at *
   repeat'(first|refine ZQ Y (hroot _) Y Y ?_|refine ZE ?_|refine ZD ?_|refine ZG Y ?_|refine ZI Y Y ?_|refine ZB Y ?_|refine ZC ?_|refine Ze Y Y ?_|refine Ql Y Y Y ?_|(refine cm0 Y Y Y ?_ ?_<;>intro _<;>try omega)|refine ZU Y ?_|refine ZF Y ?_|refine Zn Y Y Y ?_|refine Zw Y Y Y ?_|refine ZA Y Y Y (hCk _) ?_|refine ZA Y Y Y (hE) ?_|refine ZH ?_|refine ZP ?_|refine ZL ?_)
   all_goals try contradiction
   all_goals exact Jo (.inr Y) Y Y Y Y
  ·simp only[lL,List.length_singleton]
   omega
  ·simp only[lL,List.length_singleton]
   omega
end
theorem Zpa(A:List (Bool × List Blk)):S Tb XZ [] ⟨A,false,[]⟩=some (.tup [.ptr A.length 6 0 0 0,exRo.av,.bool true],⟨A,false,[.arr 5 0 [exRo.av]]++(arB A.length 1 exR++[.arr 5 0 [exRo.av]])⟩):=by
 have hN:=Znx 8 4 (by omega) (by omega) A [.arr 5 0 [Ro.zero.av]]
 have h1:=ZoD (ZXu A [.arr 5 0 [Ro.zero.av]] [] (JT 8 4)) (ZcZ 8 4 (by omega) (by omega)) ZDt exS (by decide) (by rw[Zu1];decide)
 rw[Zrm,Zu0]at h1
 change S Tb ZC4 [.ptr A.length 6 0 0 0,.str exS] ⟨A,false,_⟩=some (_,⟨A,false,[.arr 5 0 [Ro.zero.av]]++(arB A.length 1 exR++[])⟩) at h1
 refine XW Y ?_
 repeat'(first|refine ZE ?_|refine ZD ?_|refine ZG Y ?_|refine Z9 Y ?_|refine Zi Y Y Y Y ?_|refine Zp Y Y ?_|refine ZB Y ?_|refine ZC ?_|(refine cm0 Y Y Y ?_ ?_<;>intro _<;>try omega)|refine ZF Y ?_|refine JM Y Y Y Y ?_|refine Zc Y Y Y ?_|refine ZA Y Y Y (hN) ?_|refine ZH ?_)
 all_goals try first|contradiction|omega
 unfold exS at h1;refine ZA Y Y Y h1 ?_
 change Is _ _ _ _ _ _ ⟨A,false,[.arr 5 0 [Ro.zero.av],exR.b0,exR.b1,exR.b2,exR.b3 A.length 1,exR.b4,exR.b5 A.length 1]⟩
 generalize hb0:exR.b0=b0 at *
 generalize hb1:exR.b1=b1 at *
 generalize hb2:exR.b2=b2 at *
 generalize hb3:exR.b3 A.length 1=b3 at *
 generalize hb4:exR.b4=b4 at *
 generalize hb5:exR.b5 A.length 1=b5 at *
 repeat'(first|refine ZF8 Y Y Y Y Y Y ?_|refine ZIB Y Y Y Y Y Y Y ?_|refine ZE ?_|refine ZD ?_|refine ZG Y ?_|refine ZI Y Y ?_|refine ZQ Y Y Y Y ?_|refine Z9 Y ?_|refine Zi Y Y Y Y ?_|refine Zp Y Y ?_|refine ZB Y ?_|refine ZC ?_|(refine cm0 Y Y Y ?_ ?_<;>intro _<;>try omega)|refine Zc Y Y Y ?_|refine Zy Y Y Y Y Y Y ?_|refine ZP ?_|refine ZL ?_)
 all_goals first|exact absurd Y ‹_›|(refine (ZvH (.inr Y) Y Y Y Y Y).trans ?_;subst hb0 hb1 hb2 hb3 hb4 hb5;rfl)
theorem Zvn:visA exR.nodes exRo exS 0=visA exR.nodes exRo exS 1:=by decide +kernel
theorem Zpb(st:St):S Tb YP [] st=some (.bool true,st):=by
 refine QA Y (fun A hA=>?_)
 obtain⟨o1,o2,o3⟩:=ZwL;have hS:=Zpa A;generalize hX0:[Blk.arr 5 0 [exRo.av]]++(arB A.length 1 exR++[.arr 5 0 [exRo.av]])=X0 at hS
 have hHas:Has ⟨A,false,X0++[.arr 5 0 [exRo.av]]⟩ A.length 1 exR:=by
  rw[<- hX0]
  have:=ZXu A [.arr 5 0 [exRo.av]] ([.arr 5 0 [exRo.av]]++[.arr 5 0 [exRo.av]]) exR
  simpa [List.append_assoc] using this
 have hRM:RdM ⟨A,false,X0++[.arr 5 0 [exRo.av]]⟩ A.length (1+5) (1+4) exR.nodes:=⟨_,_,_,_,_,hHas.h5,hHas.h4⟩
 obtain⟨X1,ic,hNew,c1,c2,c3,c4⟩:=ZlQ (r:=exRo) o2 o3 (by decide) hRM (Nat.le_refl _)
 rcases c4 with⟨z,_⟩|⟨z,li,c5,hc⟩
 ·exact absurd z (by decide)
 obtain⟨X2,vis2,k,hk,hNx,hc2,_,hv2,_,_⟩:=hc.next o2 o3 z (by decide) (by decide) (by decide)
 have hk1:k=1:=by rw[hk];decide
 subst hk1
 have hvv:vis2=2:=by
  rw[Nat.zero_add,Zvn]at hv2
  have:exRo.h=1:=rfl
  rw[this]at hv2;omega
 subst hvv;have hAt:=hc2.at_c;have hVi:=hc2.visited_c;have hstr:(exS.drop 0).take 1=[97]:=rfl;rw[hstr]at hNx
 repeat'(first|refine ZE ?_|refine ZD ?_|refine ZG Y ?_|refine Z9 Y ?_|refine Zi Y Y Y Y ?_|refine Zp Y Y ?_|refine ZB Y ?_|refine ZC ?_|refine Ql Y Y Y ?_|(refine cm0 Y Y Y ?_ ?_<;>intro _<;>try omega)|(refine Y2 Y Y (fun _=>?_) (fun _=>?_)<;>try contradiction)|refine ZF Y ?_|refine YA Y Y ?_|refine JM Y Y Y Y ?_|refine Zw Y Y Y ?_|refine Q1 Y Y Y Y Y Y ?_|refine ZA Y Y Y (hS) ?_|refine ZA Y Y Y (hNew) ?_|refine ZA Y Y Y (hNx) ?_|refine ZA Y Y Y (hAt) ?_|refine ZA Y Y Y (hVi) ?_|refine ZH ?_|refine ZP ?_|refine ZL ?_)
 all_goals try first|contradiction|omega
 refine ZX hA (by simp) Y Y Y Y ?_
 rfl
theorem ZlR:∀(n:Nat) (l:List Nat),l.Nodup->(∀x∈l,x<n)->l.length<=n:=by
 intro n
 induction n with
 | zero=>intro l _ h;cases l with
  | nil=>exact Nat.le_refl _
  | cons a l=>have:=h a (by simp);omega
 | succ n ih =>
  intro l hd h
  by_cases hm:n∈l
  ·have := ih (l.erase n) (hd.erase n) (fun x hx => by
    have h1:=h x (List.mem_of_mem_erase hx)
    have h2:x≠n:=fun e=>by subst e;exact hd.not_mem_erase hx
    omega)
   rw[List.length_erase_of_mem hm]at this;omega
  ·have := ih l hd (fun x hx => by
    have h1:=h x hx
    have h2:x≠n:=fun e=>hm (e▸hx)
    omega)
   omega
theorem AROk.few{r:AR}(h:AROk r){l:List Nat}(hd:l.Nodup)(hl:∀o∈l,∃x,lk r.nodes o=some x):l.length<=16384:=by
 have h16:=h.n16
 have key:∀o∈l,ZlE r o:=fun o ho=>by obtain⟨x,hx⟩:=hl o ho;exact (h.live hx).1
 have h1:(l.map (· % 65536)).Nodup:=by
  unfold List.Nodup at hd ⊢;rw[List.pairwise_map]
  refine hd.imp_of_mem (fun {p o} hp ho hne e=>hne ?_)
  have a:=(key p hp).2.2;have c:=(key o ho).2.2;rw[e,c]at a
  have:=Option.some.inj a
  omega
 have:=ZlR r.states.length _ h1 (fun x hx=>by
  obtain⟨o,ho,rfl⟩:=List.mem_map.1 hx
  exact (List.getElem?_eq_some_iff.1 (key o ho).2.1).1)
 rw[List.length_map]at this;omega
def Zuf(texts:List B8)(ys:List Ed):Prop:=ZlH texts\/ZoE ys\/12<ys.length
noncomputable instance (texts:List B8) (ys:List Ed):Decidable (Zuf texts ys):=Classical.propDecidable _
theorem Zvo(x n:Int)(h0:0<=n)(h1:n<4611686018427387904)(st:St):S Tb Xz [.int .i64 x,.int .i64 n] st=some (.int .i64 (Zca x n),st):=by
 refine QA Y (fun A hA=>?_)
 have hP:=fun st=>Zvb x n h0 h1 st
 repeat'(first|refine ZE ?_|refine ZD ?_|refine ZG Y ?_|refine ZB Y ?_|refine ZC ?_|refine ZA Y Y Y (hP _) ?_|refine ZP ?_|refine ZL ?_)
 refine ZX hA (by simp) Y Y Y Y ?_
 rfl
def bel(N:ZO):Nat->Nat->List Nat->List Nat
 | 0,h,s=>if h∈s then s else s++[h]
 | n+1,h,s=>if h∈s then s else (QP N h).ks.foldl (fun s k=>bel N n k.at_ s) (s++[h])
structure Visit(τ:List Nat->List Nat->St)(lm mx:Nat)(g:FuncId)(caps:LV):Prop where
 len:∀u w u' w',(τ u w).ps.length=(τ u' w').ps.length
 wr:∀u w,(τ u w).wr lm
 get:∀u w,(τ u w).get lm mx=some (.map (Yc u))
 upd:∀u w v,(τ u w).upd lm mx (.map (Yc v))=τ v w
 call:∀u w h more L,w.length<1000000000->∃v,S Tb g ([.int .u64 (h:Nat)]++caps) ⟨(τ u w).ps++more,false,L⟩=some (v,⟨(τ u (w++[h])).ps++more,false,L⟩)
 wk:∀h:Nat,ZZ (Zm ([]++[.int .u64 (h:Nat)]++caps))=some ([.int .u64 (h:Nat)]++caps)
 wk2:∀la b h:Nat,ZZ (Zm ([]++[.ptr la b 0 0 0,.int .u64 (h:Nat),.map lm mx,.func (.func g) [] caps]++[]))=some [.ptr la b 0 0 0,.int .u64 (h:Nat),.map lm mx,.func (.func g) [] caps]
theorem ZsA{L:List Blk}{keep:List Nat}{is:List QAbs.PI}{s0:St}{more:List (Bool × List Blk)}{i v:Opd}{lv h:Nat}{es es':List (AV × AV)}(hx:Zg e x=some (.map lv ix))(hi:Zg e i=some (.int .u64 h))(hv:Zg e v=some w)(hw:s0.wr lv)(hg:s0.get lv ix=some (.map es))
 (hs:ZY QO (lv+1) ⟨s0.ps++more,false,L⟩ w=some (w,⟨s0.ps++more,false,L⟩)) (hp:ZIb (.int .u64 h) w es=some es')
 (hh:Is O is keep k Q e ⟨(s0.upd lv ix (.map es')).ps++more,false,L⟩):Is O (⟨none,none,false,.mupd 0 x i v⟩::is) keep k Q e ⟨s0.ps++more,false,L⟩:=by
 have hl:=St.get_le hg;have g':=ZCq hg more false L;have w':=ZoB hl hw more false L;refine Z4 (od:=none) (v:=.undef) (st':=St.upd ⟨s0.ps++more,false,L⟩ lv ix (.map es')) ?_ ?_
 ·simp only[Zl,evalPO,ZJ hx,ZJ hi,ZJ hv,ZNZ,Y0,if_true,hs,oS,ZTh,g',ZQT,hp,St.put_upd w' g',ZCG]
 ·rw[ZlD hl];exact hh
theorem ZlS{N:ZO}{P:Nat}(ih:∀(h:Nat) (s:List Nat) (x:Nd),lk N h=some x->x.h=n->3*(bel N n h s).length+1<=3*s.length+P):∀(ks:List Kid) (s:List Nat),(∀k∈ks,∃y,lk N k.at_=some y/\y.h=n)->3*(ks.foldl (fun s k=>bel N n k.at_ s) s).length+ks.length<=3*s.length+ks.length*P:=by
 intro ks
 induction ks with
 | nil=>intro s _;simp
 | cons k l ihl =>
  intro s hk;rw[List.foldl_cons]
  obtain⟨y,y1,y2⟩:=hk k (by simp)
  have a1:=ih k.at_ s y y1 y2
  have a2:=ihl (bel N n k.at_ s) (fun z hz=>hk z (List.mem_cons_of_mem _ hz))
  rw[List.length_cons,Nat.add_mul];omega
theorem Zug{N:ZO}(hN:GoodN N):∀(n h:Nat) (s:List Nat) (x:Nd),lk N h=some x->x.h=n->3*(bel N n h s).length+1<=3*s.length+4 ^ (n+1):=by
 intro n
 induction n with
 | zero =>
  intro h s x hx hh;rw[bel]
  split
  ·omega
  ·rw[lL];simp;omega
 | succ n ih =>
  intro h s x hx hh;rw[bel,Q5 hx]
  have hp:4 ^ (n+1+1)=4*4 ^ (n+1):=by rw[Nat.pow_succ];omega
  have h1:0<4 ^ (n+1):=Nat.pow_pos (by decide)
  split
  ·omega
  ·have hk4:=(hN h x hx).1.len
   have hkids:=(hN h x hx).2
   have:=ZlS ih x.ks (s++[h]) (fun k hk=>by obtain⟨_,y,y1,y2,_⟩:=hkids k hk;exact⟨y,y1,by omega⟩)
   rw[lL,List.length_singleton]at this
   have h3:(4-x.ks.length)*4 ^ (n+1)+x.ks.length*4 ^ (n+1)=4*4 ^ (n+1):=by rw[<- Nat.add_mul];congr 1;omega
   have h4:(4-x.ks.length)*1<=(4-x.ks.length)*4 ^ (n+1):=Nat.mul_le_mul_left _ h1
   generalize 4 ^ (n+1)=P at *
   generalize (4-x.ks.length)*P=P1 at *
   generalize x.ks.length*P=P2 at *
   omega
theorem Zcn{τ:List Nat->List Nat->St}(hV:Visit τ lm mx g caps){N:ZO}{b:Nat}(hR:∀u w,Rd (τ u w) la (b+5) N){h:Nat}{x:Nd}(hx:lk N h=some x)(hk4:x.ks.length<=4)(s:List Nat)(hs:h∉s)(f:Kid->List Nat->List Nat){B:Nat}(hB:B<=900000000)
 (hlen:∀i,((x.ks.take i).foldl (fun s k=>f k s) (s++[h])).length<=B)
 (hf:∀k∈x.ks,∀(s:List Nat) (more:List (Bool × List Blk)) (L:List Blk),s.length<=B->S Tb Je [.ptr la (b+5) 0 0 0,.int .u64 k.at_,.map lm mx,.func (.func g) [] caps] ⟨(τ s s).ps++more,false,L⟩=some (.int .i64 0,⟨(τ (f k s) (f k s)).ps++more,false,L⟩))
 {more:List (Bool × List Blk)} {st st':St} (hst:st.ps=(τ s s).ps++more) (hst':st'.ps=(τ (x.ks.foldl (fun s k=>f k s) (s++[h])) (x.ks.foldl (fun s k=>f k s) (s++[h]))).ps++more) :
 S Tb Je [.ptr la (b+5) 0 0 0,.int .u64 h,.map lm mx,.func (.func g) [] caps] st=some (.int .i64 0,st'):=by
 refine Jz Y (fun A hA=>?_)
 have hA2:A=(τ s s).ps++more:=hA.trans hst;clear hA;subst hA2
 have hlk:=fun L=>ZK3 (ZCq (hV.get s s) more false L) h
 simp only[decide_eq_false hs]at hlk;have hl0:=hlen 0;simp only[List.take_zero,List.foldl_nil,lL,List.length_singleton]at hl0
 repeat'(first|refine ZE ?_|refine ZD ?_|refine ZG Y ?_|refine ZB Y ?_|refine ZC ?_|refine ZF Y ?_|refine ZAN Y Y (hlk _) ?_|refine ZH ?_)
 all_goals try contradiction
 refine ZsA Y Y Y (hV.wr s s) (hV.get s s) Y (ZXt h s hs) ?_;rw[hV.upd]
 have hG:=fun L=>ZL6 ((hR (s++[h]) s).more more false L) hx hk4
 have hcp:x.copy.av=.agg [.int .i64 x.h,.str x.text,.lit (x.ks.map Kid.av)]:=rfl;rw[hcp]at hG
 obtain⟨v,hc⟩:=hV.call (s++[h]) s h more [.arr 3 0 [.agg [.int .i64 x.h,.str x.text,.lit (x.ks.map Kid.av)]]] (by omega)
 generalize hA1:(τ (s++[h]) s).ps++more=A1 at *
 repeat'(first|refine ZA Y Y (hV.wk h) hc ?_|refine ZE ?_|refine ZD ?_|refine ZG Y ?_|refine ZI Y Y ?_|refine Zp Y Y ?_|refine ZB Y ?_|refine ZC ?_|(refine cm0 Y Y Y ?_ ?_<;>intro _<;>try omega)|refine ZF Y ?_|refine Zc Y Y Y ?_|refine Zy Y Y Y Y Y Y ?_|refine ZA Y Y Y (hG _) ?_|refine ZH ?_)
 all_goals try contradiction
 obtain⟨A2,hA2⟩:∃A2,A2=(τ (s++[h]) (s++[h])).ps++more:=⟨_,rfl⟩
 have e12:A1.length=A2.length:=by
  have:=hV.len (s++[h]) s (s++[h]) (s++[h])
  rw[<- hA1,hA2];simp only[lL]at this ⊢;omega
 rw[<- hA2,e12]
 repeat'(first|refine ZEd Y ?_|refine ZG Y ?_|refine ZQ Y Y Y Y ?_|refine ZB Y ?_|refine ZC ?_|refine ZS ?_)
 refine Z2 (α:=Nat × List Blk) (fun p=>[(0,.ptr la (b+5) 0 0 0),(2,.map lm mx),(3,.func (.func g) [] caps),(32,.lit (x.ks.map Kid.av)),(33,.int .i64 x.ks.length),(34,.int .i64 p.1)])
  (fun p=>⟨(τ ((x.ks.take p.1).foldl (fun s k=>f k s) (s++[h])) ((x.ks.take p.1).foldl (fun s k=>f k s) (s++[h]))).ps++more,false,.arr 3 0 [.agg [.int .i64 x.h,.str x.text,.lit (x.ks.map Kid.av)]]::p.2⟩) (fun p=>p.1<=x.ks.length) (fun p=>x.ks.length-p.1) (0,[]) rfl (by rw[hA2];rfl) (Nat.zero_le _) ?_
 rintro⟨i,G⟩ hi
 simp only at hi ⊢
 rcases Nat.lt_or_ge i x.ks.length with hlt|hge
 ·obtain⟨kd,hk⟩:∃k,x.ks[i]?=some k:=⟨x.ks[i]'hlt,jE _⟩
  have qk:0<=((i:Nat):Int)/\x.ks[((i:Nat):Int).toNat]?=some kd:=⟨by omega,by rw[show ((i:Nat):Int).toNat=i by omega];exact hk⟩
  have hcl:=fun L=>hf kd (jM hk) _ more L (hlen i)
  have hnx:(x.ks.take (i+1)).foldl (fun s k=>f k s) (s++[h])=f kd ((x.ks.take i).foldl (fun s k=>f k s) (s++[h])):=by
   rw[Zs hk,List.foldl_append];rfl
  rw[<- hnx]at hcl
  generalize hP:(τ ((x.ks.take (i+1)).foldl (fun s k=>f k s) (s++[h])) ((x.ks.take (i+1)).foldl (fun s k=>f k s) (s++[h]))).ps++more=P at *
  generalize (τ ((x.ks.take i).foldl (fun s k=>f k s) (s++[h])) ((x.ks.take i).foldl (fun s k=>f k s) (s++[h]))).ps++more=A3 at *
  repeat'(first|refine Jw (f:=Kid.av) Y Y qk (fun _=>rfl) ?_|refine ZA Y Y (hV.wk2 _ _ _) (hcl _) ?_|refine ZE ?_|refine ZD ?_|refine ZG Y ?_|refine ZI Y Y ?_|refine ZB Y ?_|refine ZC ?_|refine Ql Y Y Y ?_|refine Qt Y Y ?_|(refine cm0 Y Y Y ?_ ?_<;>intro _<;>try omega)|refine ZU Y ?_|refine ZF Y ?_|refine Zr Y Y (by omega) ?_|refine Zw Y Y Y ?_|refine Q1 Y Y Y Y Y Y ?_|refine ZH ?_|refine ZS ?_|refine Z5 ?_|refine QJ ?_)
  all_goals try first|contradiction|omega
  refine⟨(i+1,G++[.arr 4 0 [kd.av]]),⟨rfl,?_⟩,by simp only;omega,by simp only;omega⟩
  simp only
  rw[hP];rfl
 ·obtain rfl:i=x.ks.length:=by omega
  rw[List.take_length]
  repeat'(first|refine ZE ?_|refine ZD ?_|refine ZG Y ?_|refine ZB Y ?_|refine ZC ?_|(refine cm0 Y Y Y ?_ ?_<;>intro _<;>try omega)|refine ZF Y ?_|refine ZP ?_|refine Zz ?_|refine ZL ?_|refine Zk ?_|refine Zh Y ?_|refine Zx ?_)
  all_goals try omega
  refine ZX (st:=st') hst'.symm (.inr Y) Y Y Y Y ?_;rfl
theorem Zco{τ:List Nat->List Nat->St}(hV:Visit τ lm mx g caps){b:Nat}{h:Nat}(s:List Nat)(hs:h∈s){more:List (Bool × List Blk)}(hst:st.ps=(τ s s).ps++more):
 S Tb Je [.ptr la (b+5) 0 0 0,.int .u64 h,.map lm mx,.func (.func g) [] caps] st=some (.int .i64 0,st):=by
 refine Jz Y (fun A hA=>?_)
 have hA2:A=(τ s s).ps++more:=hA.trans hst;have hA0:=hA;clear hA;subst hA2
 have hlk:=fun L=>ZK3 (ZCq (hV.get s s) more false L) h
 simp only[decide_eq_true hs]at hlk
 repeat'(first|refine ZE ?_|refine ZD ?_|refine ZG Y ?_|refine ZB Y ?_|refine ZC ?_|refine ZU Y ?_|refine ZAN Y Y (hlk _) ?_|refine ZP ?_|refine ZL ?_|refine ZW ?_)
 all_goals try contradiction
 refine ZX (st:=st) hA0 (.inr Y) Y Y Y Y ?_;rfl
theorem ZsB{s t:St}(h:s.ps=t.ps):s=t:=by
 obtain⟨A,r,L⟩:=s;obtain⟨A',r',L'⟩:=t
 have:=List.append_inj' h rfl
 obtain⟨rfl,h2⟩:=this;simp only[List.cons.injEq,jP,and_true]at h2;obtain⟨rfl,rfl⟩:=h2;rfl
theorem ZoK{τ:List Nat->List Nat->St}(hV:Visit τ lm mx g caps){N:ZO}(hN:GoodN N){b:Nat}(hR:∀u w,Rd (τ u w) la (b+5) N):∀(n h:Nat) (x:Nd) (s:List Nat),lk N h=some x->x.h=n->s.length+4 ^ (n+1)<=900000000->∀ {more:List (Bool × List Blk)} {st st':St},st.ps=(τ s s).ps++more->st'.ps=(τ (bel N n h s) (bel N n h s)).ps++more ->
 S Tb Je [.ptr la (b+5) 0 0 0,.int .u64 h,.map lm mx,.func (.func g) [] caps] st=some (.int .i64 0,st'):=by
 intro n
 induction n with
 | zero =>
  intro h x s hx hh hb more st st' hst hst'
  by_cases hm:h∈s
  ·rw[bel,if_pos hm,<- hst]at hst'
   rw[ZsB hst'];exact Zco hV s hm hst
  ·rw[bel,if_neg hm]at hst'
   have hks:x.ks=[]:=by
    rcases (hN h x hx).1 with q|⟨m,ks,q⟩
    ·exact q.ks
    ·have e:=q.eq;subst e;simp at hh
   refine Zcn hV hR hx (by rw[hks];decide) s hm (fun _ s=>s) (Nat.le_refl _) (fun i=>?_) (fun k hk=>by rw[hks]at hk;simp at hk) hst (by rw[hks];exact hst')
   rw[hks,List.take_nil,List.foldl_nil,lL,List.length_singleton]
   simp at hb;omega
 | succ n ih =>
  intro h x s hx hh hb more st st' hst hst'
  by_cases hm:h∈s
  ·rw[bel,if_pos hm,<- hst]at hst'
   rw[ZsB hst'];exact Zco hV s hm hst
  ·rw[bel,if_neg hm,Q5 hx]at hst'
   have hk4:=(hN h x hx).1.len;have hkids:=(hN h x hx).2
   have hp:4 ^ (n+1+1)=4*4 ^ (n+1):=by rw[Nat.pow_succ];omega
   have h1:4<=4 ^ (n+1):=by rw[Nat.pow_succ];have:0<4 ^ n:=Nat.pow_pos (by decide);omega
   refine Zcn hV hR hx hk4 s hm (fun k s=>bel N n k.at_ s) (B:=900000000-4 ^ (n+1)) (by omega) (fun i=>?_) (fun k hk s' more' L hl=>?_) hst hst'
   ·have:=ZlS (Zug hN n) (x.ks.take i) (s++[h]) (fun k hk=>by obtain⟨_,y,y1,y2,_⟩:=hkids k (List.mem_of_mem_take hk);exact⟨y,y1,by omega⟩)
    rw[lL,List.length_singleton]at this
    have hti:(x.ks.take i).length<=4:=by rw[List.length_take];omega
    have h4:(x.ks.take i).length*4 ^ (n+1)<=4*4 ^ (n+1):=Nat.mul_le_mul_right _ hti
    generalize (x.ks.take i).length*4 ^ (n+1)=P2 at *
    generalize 4 ^ (n+1)=P at *
    omega
   ·obtain⟨_,y,y1,y2,_⟩:=hkids k hk
    exact ih k.at_ y s' y1 (by omega) (by omega) (more:=more'++[(false,L)]) (List.append_assoc ..) (List.append_assoc ..)
theorem ZlT:∀l:List Tr,(∀t∈l,4*(t.siz:Int)+4<=t.bytes)->4*(Tr.sizL l:Int)+4*l.length<=Tr.bytesL l
 | [],_=>by simp[Tr.sizL,Tr.bytesL]
 | t::l,h=>by
  have h1:=h t (by simp)
  have h2:=ZlT l fun u hu=>h u (by simp[hu])
  simp only[Tr.sizL,Tr.bytesL,List.length_cons];omega
theorem ZsC{N:ZO}(hN:GoodN N)(hv:Val N t):(t.siz:Int)<=t.bytes+1/\(Big t->4*(t.siz:Int)+4<=t.bytes):=by
 have hsz:=hv.size hN;have hps:=hv.pos.2
 induction hv with
 | @kept o h m k x h0 hx hok hh hm hk =>
  have ec:(Tr.mk o h m [] k).siz=1:=by rw[Tr.siz,Tr.sizO_getD,hk];rfl
  have hl:h<=16:=by
   rcases hok with q|⟨n,ks,q⟩
   ·rw[<- hh,q.h];omega
   ·have:=q.n15;have e:=q.eq;subst e;simp only at hh;omega
  rw[ec]
  refine⟨by omega,fun q=>?_⟩
  have h1:=hsz q;have h2:=(ZF5 hl).1;simp only[Tr.h]at h1;omega
 | @leaf s k h1 h2 hk =>
  have ec:(Tr.mk 0 0 .zero s k).siz=1:=by rw[Tr.siz,Tr.sizO_getD,hk];rfl
  rw[ec]
  refine⟨by omega,fun q=>?_⟩
  have:=q rfl
  omega
 | @inner h l hh h2 h4 hl hb hv ih =>
  have ec:(Tr.mk 0 (h+1) .zero [] (some l)).siz=Tr.sizL l+1:=by rw[Tr.siz,Tr.sizO];omega
  have eb:(Tr.mk 0 (h+1) .zero [] (some l)).bytes=Tr.bytesL l:=by rw[Tr.bytes,Tr.bytesO];simp[Mea.zero]
  have:=ZlT l fun u hu=>(ih u hu ((hv u hu).size hN) (hv u hu).pos.2).2 (fun q=>hb u hu (by rw[<- hl u hu];exact q))
  rw[ec,eb]
  exact⟨by omega,fun _=>by omega⟩
theorem ZsD{N:ZO}(hv:Val N t):∀out:List Nat,(∀h∈out,∃x,lk N h=some x)->∀h∈t.kwT out,∃x,lk N h=some x:=by
 induction hv with
 | @kept o h m k x h0 hx hok hh hm hk =>
  intro out ho a ha;rw[Tr.kwT,Tr.kwO_getD,hk,Tr.kwL]at ha
  split at ha
  ·rcases List.mem_append.1 ha with q|q
   ·exact ho a q
   ·rw[List.mem_singleton.1 q];exact⟨x,hx⟩
  ·exact ho a ha
 | @leaf s k h1 h2 hk =>
  intro out ho a ha
  rw[Tr.kwT,Tr.kwO_getD,hk,Tr.kwL,if_neg (by simp)]at ha
  exact ho a ha
 | @inner h l hh h2 h4 hl hb hv ih =>
  intro out ho a ha
  rw[Tr.kwT,Tr.kwO,if_neg (by simp)]at ha
  have key:∀(l:List Tr) (out:List Nat),(∀t∈l,∀out:List Nat,(∀h∈out,∃x,lk N h=some x)->∀h∈t.kwT out,∃x,lk N h=some x)->(∀h∈out,∃x,lk N h=some x)->∀a∈Tr.kwL l out,∃x,lk N a=some x:=by
   intro l
   induction l with
   | nil=>intro out _ ho a ha;exact ho a ha
   | cons t l ihl =>
    intro out hi ho a ha;rw[Tr.kwL]at ha
    exact ihl (t.kwT out) (fun u hu=>hi u (List.mem_cons_of_mem _ hu)) (hi t (by simp) out ho) a ha
  exact key l out ih ho a ha
theorem ZwO(h:Nat)(st:St):S Tb YV [.int .u64 h] st=some (.tup [],st):=by
 refine QA Y (fun A hA=>?_)
 repeat'(first|refine ZH ?_|refine ZL ?_)
 refine ZX hA (by simp) Y Y Y Y ?_
 rfl
def dr1(A:List (Bool × List Blk))(b4 b5 b8:Blk)(u:List Nat):St:=⟨A,false,[b4,b5,b8,.map (Yc u),.arr 1 0 [.map A.length 3]]⟩
def dr2(A:List (Bool × List Blk))(b4 b5 b8:Blk)(has u o:List Nat):St:=⟨A,false,[b4,b5,b8,.map (Yc has),.arr 1 0 [.map A.length 3],.arr 1 o.length (o.map Qj),.arr 1 0 [.ref A.length 5 o.length 0 o.length],.map (Yc u)]⟩
theorem Zvp(A:List (Bool × List Blk))(b4 b5 b8:Blk):Visit (fun u _=>dr1 A b4 b5 b8 u) A.length 3 YV [] where
 len _ _ _ _:=by simp[dr1]
 wr _ _:=by simp[St.wr,dr1]
 get _ _:=St.get_cur ..
 upd _ _ _:=by simp[St.upd,dr1]
 call u w h more L _:=⟨_,ZwO h _⟩
 wk _:=rfl
 wk2 _ _ _:=rfl
theorem Zvq(A:List (Bool × List Blk))(b4 b5 b8:Blk)(has u o:List Nat):Cl (dr2 A b4 b5 b8 has u o) [(A.length,5),(A.length,6)] [.arr 1 o.length (o.map Qj),.arr 1 0 [.ref A.length 5 o.length 0 o.length]]:=by
 refine⟨by simp,rfl,fun k hk=>?_,fun j lv ix b h1 h2=>?_⟩
 ·simp only[List.mem_cons,List.not_mem_nil,or_false]at hk
  rcases hk with rfl|rfl<;>simp[St.wr,dr2]
 ·match j,h1,h2 with
  | 0,h1,h2=>obtain⟨rfl,rfl⟩:=Prod.mk.inj (Option.some.inj h1);obtain rfl:=Option.some.inj h2;exact St.get_cur ..
  | 1,h1,h2=>obtain⟨rfl,rfl⟩:=Prod.mk.inj (Option.some.inj h1);obtain rfl:=Option.some.inj h2;exact St.get_cur ..
  | n+2,h1,h2=>simp at h1
theorem Zuh(A:List (Bool × List Blk))(b4 b5 b8:Blk)(has u o o':List Nat):Zv (dr2 A b4 b5 b8 has u o) [(A.length,5),(A.length,6)] [.arr 1 o'.length (o'.map Qj),.arr 1 0 [.ref A.length 5 o'.length 0 o'.length]]=dr2 A b4 b5 b8 has u o':=by
 simp[Zv,St.upd,dr2]
theorem ZwP(A:List (Bool × List Blk))(b4 b5 b8:Blk)(has u o:List Nat)(h:Nat)(more:List (Bool × List Blk))(L:List Blk)(hl:o.length<1000000000):
 S Tb YW [.int .u64 h,.ptr A.length 4 0 0 0,.ptr A.length 6 0 0 0] ⟨(dr2 A b4 b5 b8 has u o).ps++more,false,L⟩=some (.tup [],⟨(dr2 A b4 b5 b8 has u (if h∈has then o else o++[h])).ps++more,false,L⟩):=by
 have H:=(Zvq A b4 b5 b8 has u o).more more false L;have hm4:St.get ⟨(dr2 A b4 b5 b8 has u o).ps++more,false,L⟩ A.length 4=some (.arr 1 0 [.map A.length 3]):=ZCq (s:=dr2 A b4 b5 b8 has u o) (St.get_cur ..) more false L;have hm3:St.get ⟨(dr2 A b4 b5 b8 has u o).ps++more,false,L⟩ A.length 3=some (.map (Yc has)):=ZCq (s:=dr2 A b4 b5 b8 has u o) (St.get_cur ..) more false L
 by_cases hm:h∈has
 ·rw[if_pos hm]
  refine QA Y (fun A1 hA=>?_)
  have g4:=fun L'=>ZV hA (ro:=false) (L:=L') hm4
  have hlk:=fun L'=>ZK3 (ZV hA (ro:=false) (L:=L') hm3) h
  simp only[decide_eq_true hm]at hlk
  repeat'(first|refine ZE ?_|refine ZD ?_|refine ZG Y ?_|refine ZB Y ?_|refine ZC ?_|refine ZF Y ?_|refine YA Y Y ?_|refine Zt Y (g4 _) Y Y ?_|refine ZAN Y Y (hlk _) ?_|refine ZH ?_|refine ZL ?_)
  all_goals try contradiction
  refine ZX hA (by simp) Y Y Y Y ?_
  rfl
 ·rw[if_neg hm]
  have e:Zv ⟨(dr2 A b4 b5 b8 has u o).ps++more,false,L⟩ [(A.length,5),(A.length,6)] [.arr 1 (o++[h]).length ((o++[h]).map Qj),.arr 1 0 [.ref A.length 5 (o++[h]).length 0 (o++[h]).length]]=⟨(dr2 A b4 b5 b8 has u (o++[h])).ps++more,false,L⟩:=by
   rw[ZTb (fun k hk=>by simp only[List.mem_cons,List.not_mem_nil,or_false]at hk;rcases hk with rfl|rfl<;>exact Nat.le_refl _),Zuh]
  rw[<- e]
  refine Jz Y (fun A1 hA=>?_)
  have hA':A1=(Zv ⟨(dr2 A b4 b5 b8 has u o).ps++more,false,L⟩ [(A.length,5),(A.length,6)] [.arr 1 o.length (o.map Qj),.arr 1 0 [.ref A.length 5 o.length 0 o.length]]).ps:=by rw[H.same];exact hA
  have g4:=fun L'=>ZV hA (ro:=false) (L:=L') hm4
  have hlk:=fun L'=>ZK3 (ZV hA (ro:=false) (L:=L') hm3) h
  simp only[decide_eq_false hm]at hlk
  have g6:=fun L'=>H.old hA' rfl rfl (ro:=false) (L:=L') (j:=1) rfl rfl
  repeat'(first|refine ZE ?_|refine ZD ?_|refine ZG Y ?_|refine ZB Y ?_|refine ZC ?_|refine ZU Y ?_|refine YA Y Y ?_|refine Q2 Y Y Y Y ?_|refine Zt Y (g4 _) Y Y ?_|refine ZAN Y Y (hlk _) ?_|refine Zt Y (g6 _) Y Y ?_)
  all_goals try contradiction
  refine ZXo (es:=o.map Qj) (ys:=[.int .u64 h]) H hA' Y Y (j:=0) Y Y (by rw[List.length_map];rfl) rfl rfl rfl rfl (by rw[List.length_map,List.length_singleton];omega) (by decide) (fun A2 hA2 _=>?_)
  skip
  refine ZH5 H hA2 Y Y (j:=1) Y Y Y Y Y (Qu _ (Nat.lt_succ_self _)) Y (fun A3 hA3 _=>?_)
  repeat'(first|refine ZB Y ?_|refine ZL ?_)
  have e3:((([Blk.arr 1 o.length (o.map Qj),Blk.arr 1 0 [.ref A.length 5 o.length 0 o.length]].set 0 (.arr 1 (o.length+1) (o.map Qj++[.int .u64 h]))).set 1 (.arr 1 0 ([AV.ref A.length 5 o.length 0 o.length].set 0 (.ref A.length 5 (o.length+1) 0 ((o.map Qj).length+[AV.int .u64 (h:Int)].length))))))=[.arr 1 (o++[h]).length ((o++[h]).map Qj),.arr 1 0 [.ref A.length 5 (o++[h]).length 0 (o++[h]).length]]:=by
   simp[Qj]
  replace hA3:A3=(Zv ⟨(dr2 A b4 b5 b8 has u o).ps++more,false,L⟩ [(A.length,5),(A.length,6)] [.arr 1 (o++[h]).length ((o++[h]).map Qj),.arr 1 0 [.ref A.length 5 (o++[h]).length 0 (o++[h]).length]]).ps:=by rw[<- e3];exact hA3
  refine ZX hA3 (.inl Y) Y Y Y Y ?_;rfl
theorem Zvr(A:List (Bool × List Blk))(b4 b5 b8:Blk)(has:List Nat):Visit (fun u w=>dr2 A b4 b5 b8 has u (w.filter fun h=>decide (h∉has))) A.length 7 YW [.ptr A.length 4 0 0 0,.ptr A.length 6 0 0 0] where
 len _ _ _ _:=by simp[dr2]
 wr _ _:=by simp[St.wr,dr2]
 get _ _:=St.get_cur ..
 upd _ _ _:=by simp[St.upd,dr2]
 call u w h more L hl:=by
  refine⟨.tup [],(ZwP A b4 b5 b8 has u (w.filter fun h=>decide (h∉has)) h more L (Nat.lt_of_le_of_lt (List.length_filter_le ..) hl)).trans ?_⟩
  rw[List.filter_append]
  by_cases hm:h∈has
  ·rw[if_pos hm,show ([h].filter fun h=>decide (h∉has))=[] by simp[hm],lN]
  ·rw[if_neg hm,show ([h].filter fun h=>decide (h∉has))=[h] by simp[hm]]
 wk _:=rfl
 wk2 _ _ _:=rfl
def ZTf(N:ZO)(l:List Nat):List Nat:=l.foldl (fun s h=>bel N (QP N h).h h s) []
def ZL9(N:ZO)(r:Ro)(t:Tr):List Nat:=if r.at_=0 then [] else (bel N r.h r.at_ []).filter fun h=>decide (h∉ZTf N (t.kwT []))
theorem Zvs{N:ZO}(hN:GoodN N){h:Nat}{x:Nd}(h0:h≠0)(hx:lk N h=some x):x.h<=13 :=
 RtOk.h13 hN (r:=⟨h,x.h,x.mea⟩) (.inr ⟨h0,x,hx,(hN h x hx).1,rfl,rfl⟩)
def Lv(N:ZO)(l:List Nat):Prop:=l.Nodup/\∀o∈l,∃x,lk N o=some x
theorem Lv.snoc{N:ZO}{l:List Nat}(h:Lv N l){o:Nat}(ho:∃x,lk N o=some x)(hn:o∉l):Lv N (l++[o]):=by
 refine⟨?_,fun a ha=>?_⟩
 ·rw[List.nodup_append]
  refine⟨h.1,by simp,fun x hx y hy=>?_⟩
  rw[List.mem_singleton]at hy;intro e;rw[e,hy]at hx;exact hn hx
 ·rcases List.mem_append.1 ha with q|q
  ·exact h.2 a q
  ·rw[List.mem_singleton.1 q];exact ho
theorem ZsE{N:ZO}(hN:GoodN N):∀(n h:Nat) (s:List Nat) (x:Nd),lk N h=some x->x.h=n->Lv N s->Lv N (bel N n h s):=by
 intro n
 induction n with
 | zero =>
  intro h s x hx hh hs;rw[bel]
  split
  ·exact hs
  ·rename_i q;exact hs.snoc ⟨x,hx⟩ q
 | succ n ih =>
  intro h s x hx hh hs;rw[bel,Q5 hx]
  split
  ·exact hs
  ·rename_i q
   have key:∀(ks:List Kid) (s:List Nat),(∀k∈ks,∃y,lk N k.at_=some y/\y.h=n)->Lv N s->Lv N (ks.foldl (fun s k=>bel N n k.at_ s) s):=by
    intro ks
    induction ks with
    | nil=>intro s _ h;exact h
    | cons k l ihl =>
     intro s hk h
     obtain⟨y,y1,y2⟩:=hk k (by simp)
     exact ihl _ (fun z hz=>hk z (List.mem_cons_of_mem _ hz)) (ih k.at_ s y y1 y2 h)
   exact key x.ks _ (fun k hk=>by obtain⟨_,y,y1,y2,_⟩:=(hN h x hx).2 k hk;exact⟨y,y1,by omega⟩) (hs.snoc ⟨x,hx⟩ q)
theorem Zui{N:ZO}(hN:GoodN N){l:List Nat}(hl:∀h∈l,∃x,lk N h=some x):Lv N (ZTf N l):=by
 have key:∀(l s:List Nat),(∀h∈l,∃x,lk N h=some x)->Lv N s->Lv N (l.foldl (fun s h=>bel N (QP N h).h h s) s):=by
  intro l
  induction l with
  | nil=>intro s _ h;exact h
  | cons a l ih =>
   intro s hl h
   obtain⟨x,hx⟩:=hl a (by simp)
   refine ih _ (fun z hz=>hl z (List.mem_cons_of_mem _ hz)) ?_
   show Lv N (bel N (QP N a).h a s)
   rw[Q5 hx];exact ZsE hN _ a s x hx Y h
 exact key l [] hl ⟨by simp,by simp⟩
theorem Zvt{N:ZO}(hN:∀o x,lk N o=some x->o≠0)(hv:VE N t):∀h∈t.kwT [],h≠0/\∃x,lk N h=some x:=by
 intro h hh
 rcases hv with q|q
 ·obtain⟨o,th,m,s,k⟩:=t
  have e1:=q.old;have e2:=q.ks;simp only[Tr.old,Tr.ks]at e1 e2;rw[Tr.kwT,Tr.kwO_getD,e2,Tr.kwL,e1]at hh
  simp at hh
 ·obtain⟨x,hx⟩:=ZsD q [] (by simp) h hh
  exact⟨hN h x hx,x,hx⟩
theorem ZsF{N:ZO}(hN:GoodN N)(hv:VE N t)(hb:t.bytes<=65536):t.siz<4294967296:=by
 rcases hv with q|q
 ·obtain⟨o,th,m,s,k⟩:=t
  have e2:=q.ks;simp only[Tr.ks]at e2;rw[Tr.siz,Tr.sizO_getD,e2,Tr.sizL];omega
 ·have:=(ZsC hN q).1;omega
theorem Zpc{b:Nat}{N:ZO}(hN:GoodN N)(hK:∀l,Lv N l->l.length<=16384)(hz:∀o x,lk N o=some x->o≠0)(hR:Rd st la (b+5) N){r:Ro}(hr:RtOk N r)(hv:VE N t)(hb:t.bytes<=65536):
 S Tb ZC5 [.ptr la (b+5) 0 0 0,r.av,t.av] st=some (.tup [.lit ((ZL9 N r t).map Qj),.int .i64 0],st):=by
 refine QA Y (fun A hA=>?_)
 have hRA:=fun L=>hR.push hA (ro:=false) (L:=L)
 have hKp:=fun L=>ZjA (hRA L) hr
 have hCk:=fun L=>Zkt (hRA L) hv hb
 have hKt:=fun st=>ZvW hv.pos.1 (ZsF hN hv hb) st
 have hkw:=Zvt hz hv;have hkl:=Tr.kwT_len t [];have hsz:=ZsF hN hv hb;unfold ZL9
 generalize t.kwT []=kl at *
 simp only[List.length_nil]at hkl
 have hP13:∀n,n<=13->4 ^ (n+1)<=268435456:=fun n hn=>by
  have:4 ^ (n+1)<=4 ^ 14:=Nat.pow_le_pow_right (by decide) (by omega)
  exact this
 have hB1:∀(i h:Nat),kl[i]?=some h->S Tb Je [.ptr la (b+5) 0 0 0,.int .u64 h,.map A.length 3,.func (.func YV) [] []] (dr1 A (.arr 5 0 [r.av]) (.arr 7 0 [t.av]) (.arr 7 0 [(ZAJ r).av]) (ZTf N (kl.take i)))=some (.int .i64 0,dr1 A (.arr 5 0 [r.av]) (.arr 7 0 [t.av]) (.arr 7 0 [(ZAJ r).av]) (ZTf N (kl.take (i+1)))):=by
  intro i h hi;obtain⟨h0,x,hx⟩:=hkw h (jM hi)
  have hlv:=Zui hN (l:=kl.take i) (fun z hz=>(hkw z (List.mem_of_mem_take hz)).2)
  have:=hK _ hlv
  have:=hP13 _ (Zvs hN h0 hx)
  have e:ZTf N (kl.take (i+1))=bel N x.h h (ZTf N (kl.take i)):=by
   rw[Zs hi];unfold ZTf;rw[List.foldl_append,List.foldl_cons,List.foldl_nil,Q5 hx]
  rw[e]
  exact ZoK (Zvp A _ _ _) hN (fun _ _=>hRA _) x.h h x _ hx Y (by omega) (more:=[]) (lN _).symm (lN _).symm
 have hB2:r.at_≠0->S Tb Je [.ptr la (b+5) 0 0 0,.int .u64 r.at_,.map A.length 7,.func (.func YW) [] [.ptr A.length 4 0 0 0,.ptr A.length 6 0 0 0]] (dr2 A (.arr 5 0 [r.av]) (.arr 7 0 [t.av]) (.arr 7 0 [(ZAJ r).av]) (ZTf N kl) [] [])=some (.int .i64 0,dr2 A (.arr 5 0 [r.av]) (.arr 7 0 [t.av]) (.arr 7 0 [(ZAJ r).av]) (ZTf N kl) (bel N r.h r.at_ []) ((bel N r.h r.at_ []).filter fun h=>decide (h∉ZTf N kl))):=by
  intro h0
  obtain⟨x,x1,x2,x3,x4⟩:∃x,lk N r.at_=some x/\NdOk x/\x.h=r.h/\x.mea=r.m:=by
   rcases hr with rfl|w
   ·exact absurd Y h0
   ·exact w.2
  have:=hP13 _ (hr.h13 hN)
  exact ZoK (Zvr A (.arr 5 0 [r.av]) (.arr 7 0 [t.av]) (.arr 7 0 [(ZAJ r).av]) (ZTf N kl)) hN (fun _ _=>hRA _) r.h r.at_ x [] x1 x3 (by simp only[List.length_nil];omega) (more:=[]) (lN _).symm (lN _).symm
 have hkll:kl.length<1000000000:=by
  have:kl.length<=t.siz:=by omega
  have h2:(t.siz:Int)<=65537:=by
   rcases hv with q|q
   ·obtain⟨o,th,m,s,k⟩:=t
    have e2:=q.ks;simp only[Tr.ks]at e2;rw[Tr.siz,Tr.sizO_getD,e2,Tr.sizL];decide
   ·have:=(ZsC hN q).1;omega
  omega
 unfold dr1 at hB1;unfold dr2 at hB2;obtain⟨ra,rh,rm⟩:=r
 unfold Ro.av at *
 generalize ZAJ ⟨ra,rh,rm⟩=kt at *
 repeat'(first|refine ZE ?_|refine ZD ?_|refine ZG Y ?_|refine ZQ Y Y Y Y ?_|refine Zp Y Y ?_|refine ZB Y ?_|refine ZC ?_|(refine cm0 Y Y Y ?_ ?_<;>intro _<;>try omega)|refine ZF Y ?_|refine Zc Y Y Y ?_|refine ZFE Y ?_|refine ZA Y Y (by first|rfl|(simp only[lE,lN,lC,Zm,Zb,ZZ];first|done|rfl)) (hKp _) ?_|refine ZA Y Y (by first|rfl|(simp only[lE,lN,lC,Zm,Zb,ZZ];first|done|rfl)) (hCk _) ?_|refine ZQ Y Y Y (Z0 _) ?_|refine Zy Y Y Y (Qn _ _ _) (JR _ _) Y ?_|refine Zw Y (QI _) (Qc _) ?_|refine ZH ?_)
 all_goals try contradiction
 refine Zy Y Y Y (by simp only[ZY,QO,if_pos (Nat.lt_succ_self _)]) Y Y ?_
 repeat'(first|refine ZQ Y Y Y (Z0 _) ?_|refine ZEd Y ?_|refine ZE ?_|refine ZD ?_|refine ZG Y ?_|refine ZB Y ?_|refine ZC ?_|refine ZA Y Y (by first|rfl|(simp only[lE,lN,lC,Zm,Zb,ZZ];first|done|rfl)) (hKt _) ?_|refine ZS ?_)
 refine Z2 (α:=Nat) (fun i=>[(0,.ptr la (b+5) 0 0 0),(4,.ptr A.length 0 0 0 0),(11,.ptr A.length 4 0 0 0),(34,.lit (kl.map Qj)),(35,.int .i64 kl.length),(36,.int .i64 i)])
  (fun i=>⟨A,false,[.arr 5 0 [Ro.av ⟨ra,rh,rm⟩],.arr 7 0 [t.av],.arr 7 0 [kt.av],.map (Yc (ZTf N (kl.take i))),.arr 1 0 [.map A.length 3]]⟩) (fun i=>i<=kl.length) (fun i=>kl.length-i) 0 rfl rfl (Nat.zero_le _) ?_
 intro i hi;replace hi:i<=kl.length:=hi;unfold Ro.av
 rcases Nat.lt_or_ge i kl.length with hlt|hge
 ·obtain⟨h,hh⟩:∃x,kl[i]?=some x:=⟨kl[i]'hlt,jE _⟩
  have q:0<=((i:Nat):Int)/\kl[((i:Nat):Int).toNat]?=some h:=⟨by omega,by rw[show ((i:Nat):Int).toNat=i by omega];exact hh⟩
  have hB:=hB1 i h hh
  repeat'(first|refine Jw (f:=Qj) Y Y q (fun _=>rfl) ?_|refine ZA Y Y Y hB ?_|refine ZE ?_|refine ZD ?_|refine ZG Y ?_|refine ZQ Y Y Y Y ?_|refine ZB Y ?_|refine ZC ?_|refine Qt Y Y ?_|(refine cm0 Y Y Y ?_ ?_<;>intro _<;>try omega)|refine ZU Y ?_|refine ZF Y ?_|refine Zr Y Y (by omega) ?_|refine ZH ?_|refine ZS ?_|refine Z5 ?_|refine QJ ?_)
  all_goals try first|contradiction|omega
  exact⟨i+1,⟨rfl,rfl⟩,by omega,by omega⟩
 ·obtain rfl:i=kl.length:=by omega
  rw[List.take_length]
  by_cases h0:ra=0
  ·subst h0
   repeat'(first|refine ZNP ?_|refine ZE ?_|refine ZD ?_|refine ZG Y ?_|refine ZI Y Y ?_|refine ZQ Y Y Y Y ?_|refine ZB Y ?_|refine ZC ?_|(refine cm0 Y Y Y ?_ ?_<;>intro _<;>try omega)|refine ZU Y ?_|refine ZF Y ?_|refine YN Y Y ?_|refine ZFE Y ?_|refine ZH ?_|refine ZP ?_|refine Zz ?_|refine ZL ?_|refine ZW ?_|refine Zk ?_|refine Zh Y ?_|refine Zx ?_)
   all_goals try first|contradiction|omega
   refine ZX hA (by simp) Y Y Y Y ?_
   rfl
  ·have hB:=hB2 h0
   have h0i:((ra:Nat):Int)≠0:=by omega
   simp only[if_neg h0]
   generalize (bel N rh ra []).filter (fun h=>decide (h∉ZTf N kl))=out at *
   repeat'(first|refine ZNP ?_|refine ZA Y Y Y hB ?_|refine ZE ?_|refine ZD ?_|refine ZG Y ?_|refine ZI Y Y ?_|refine ZQ Y Y Y Y ?_|refine ZB Y ?_|refine ZC ?_|(refine cm0 Y Y Y ?_ ?_<;>intro _<;>try omega)|refine ZF Y ?_|refine YN Y Y ?_|refine ZFE Y ?_|refine ZH ?_|refine ZP ?_|refine Zz ?_|refine ZL ?_|refine Zk ?_|refine Zh Y ?_|refine Zx ?_)
   all_goals try first|contradiction|omega
   exact ZNx hA (.inr Y) Y Y (by simp) (fun v hv=>by obtain⟨x,_,rfl⟩:=List.mem_map.1 hv;rfl) rfl rfl
def DrOk(M:Nat)(G:List Blk)(dv:AV)(w:List Nat):Prop:=(w=[]/\dv=.nils)\/∃j ver,dv=.ref M (j+4) ver 0 w.length/\w≠[]/\G[j]?=some (.arr 1 ver (w.map Qj))
def chL(b6:Blk)(t:Tr)(dv:AV)(w:List Nat)(G:List Blk):List Blk :=
 b6::.arr 7 0 [t.av]::.arr 7 0 [.agg [.int .u64 0,.int .i64 0,.int .i64 0,.int .i64 0,.int .i64 0,.nils,dv]]::.map (Yc w)::G
theorem ZlU{L:List Blk}{keep:List Nat}{is:List QAbs.PI}{i v:Opd}{h:Nat}{es es':List (AV × AV)}(hx:Zg e x=some (.map A.length ix))(hi:Zg e i=some (.int .u64 h))(hv:Zg e v=some w)(hg:L[ix]?=some (.map es))
 (hs:ZY QO (A.length+1) ⟨A,false,L⟩ w=some (w,⟨A,false,L⟩)) (hp:ZIb (.int .u64 h) w es=some es')
 (hh:Is O is keep k Q e ⟨A,false,L.set ix (.map es')⟩):Is O (⟨none,none,false,.mupd 0 x i v⟩::is) keep k Q e ⟨A,false,L⟩:=by
 have hlt:=(List.getElem?_eq_some_iff.1 hg).1;refine Z4 (od:=none) (v:=.undef) (st':=⟨A,false,L.set ix (.map es')⟩) ?_ hh;simp only[Zl,evalPO,ZJ hx,ZJ hi,ZJ hv,ZNZ,Y0,if_true,hs,oS,ZTh,St.get_cur,hg,vis,ZQT,hp,St.put,if_false,jB,if_pos hlt,ZCG]
theorem Zgy:∀(l w:List Nat),(l.foldl ZAv w).length<=w.length+l.length:=by
 intro l
 induction l with
 | nil=>intro w;simp
 | cons a l ih =>
  intro w;rw[List.foldl_cons]
  have h1:(ZAv w a).length<=w.length+1:=by unfold ZAv;split<;>simp
  have h2:=ih (ZAv w a);rw[List.length_cons];omega
theorem ZsG{b6:Blk}{dv:AV}{w dl:List Nat}{G:List Blk}(h0:DrOk A.length G dv w)(hl:w.length+dl.length<100000000){v0 v29 v30 v31:AV}
 (hQ:∀G' dv',DrOk A.length G' dv' (dl.foldl ZAv w)->Rk (S Tb) k Q .norm [(0,v0),(6,.ptr A.length 0 0 0 0),(8,.ptr A.length 1 0 0 0),(10,.ptr A.length 2 0 0 0),(11,.map A.length 3),(29,v29),(30,v30),(31,v31),(46,.lit (dl.map Qj)),(47,.int .i64 dl.length),(48,.int .i64 dl.length),(49,.bool false)] ⟨A,false,chL b6 t dv' (dl.foldl ZAv w) G'⟩) :
 Ru (S Tb) p_edit_change_19.loop (.blk 2::k) Q [(0,v0),(6,.ptr A.length 0 0 0 0),(8,.ptr A.length 1 0 0 0),(10,.ptr A.length 2 0 0 0),(11,.map A.length 3),(29,v29),(30,v30),(31,v31),(46,.lit (dl.map Qj)),(47,.int .i64 dl.length),(48,.int .i64 0)] ⟨A,false,chL b6 t dv w G⟩:=by
 refine Z2 (α:=Nat × AV × List Blk) (fun p=>[(0,v0),(6,.ptr A.length 0 0 0 0),(8,.ptr A.length 1 0 0 0),(10,.ptr A.length 2 0 0 0),(11,.map A.length 3),(29,v29),(30,v30),(31,v31),(46,.lit (dl.map Qj)),(47,.int .i64 dl.length),(48,.int .i64 p.1)])
  (fun p=>⟨A,false,chL b6 t p.2.1 ((dl.take p.1).foldl ZAv w) p.2.2⟩) (fun p=>p.1<=dl.length/\DrOk A.length p.2.2 p.2.1 ((dl.take p.1).foldl ZAv w)) (fun p=>dl.length-p.1) (0,dv,G) rfl rfl ⟨Nat.zero_le _,h0⟩ ?_
 rintro⟨i,dv1,G1⟩ ⟨hi,hD⟩
 simp only at hi hD ⊢
 have hwl:=Zgy (dl.take i) w;rw[List.length_take,Nat.min_eq_left hi]at hwl
 rcases Nat.lt_or_ge i dl.length with hlt|hge
 ·obtain⟨h,hh⟩:∃x,dl[i]?=some x:=⟨dl[i]'hlt,jE _⟩
  have q:0<=((i:Nat):Int)/\dl[((i:Nat):Int).toNat]?=some h:=⟨by omega,by rw[show ((i:Nat):Int).toNat=i by omega];exact hh⟩
  have hnx:(dl.take (i+1)).foldl ZAv w=ZAv ((dl.take i).foldl ZAv w) h:=by rw[Zs hh,List.foldl_append];rfl
  generalize (dl.take i).foldl ZAv w=W at *
  have hlk:=ZK3 (st:=⟨A,false,chL b6 t dv1 W G1⟩) (lv:=A.length) (mx:=3) (St.get_cur ..) h
  by_cases hm:h∈W
  ·simp only[decide_eq_true hm]at hlk
   rw[show ZAv W h=W by unfold ZAv;rw[if_pos hm]]at hnx
   unfold chL at *
   repeat'(first|refine Jw (f:=Qj) Y Y q (fun _=>rfl) ?_|refine ZE ?_|refine ZD ?_|refine ZG Y ?_|refine ZB Y ?_|refine ZC ?_|refine Qt Y Y ?_|(refine cm0 Y Y Y ?_ ?_<;>intro _<;>try omega)|refine ZU Y ?_|refine ZF Y ?_|refine YA Y Y ?_|refine Zr Y Y (by omega) ?_|refine ZAN Y Y hlk ?_|refine ZH ?_|refine ZS ?_|refine Z5 ?_|refine QJ ?_)
   all_goals try first|contradiction|omega
   exact⟨(i+1,dv1,G1),⟨rfl,by simp only[hnx]⟩,⟨by simp only;omega,by simp only[hnx];exact hD⟩,by simp only;omega⟩
  ·simp only[decide_eq_false hm]at hlk
   rw[show ZAv W h=W++[h] by unfold ZAv;rw[if_neg hm]]at hnx
   have hpe:=ZXt h W hm
   rcases hD with⟨rfl,rfl⟩|⟨j,ver,rfl,hW,hg⟩
   ·unfold chL at *
    repeat'(first|refine Jw (f:=Qj) Y Y q (fun _=>rfl) ?_|refine ZE ?_|refine ZD ?_|refine ZG Y ?_|refine ZB Y ?_|refine ZC ?_|refine Qt Y Y ?_|(refine cm0 Y Y Y ?_ ?_<;>intro _<;>try omega)|refine ZU Y ?_|refine YA Y Y ?_|refine ZAN Y Y hlk ?_|refine ZH ?_|refine ZS ?_)
    all_goals try first|contradiction|omega
    refine ZlU Y Y Y Y Y hpe ?_
    repeat'(first|refine ZD ?_|refine ZG Y ?_|refine ZI Y Y ?_|refine ZQ Y Y Y Y ?_|refine ZB Y ?_|refine ZC ?_|refine Q2 Y Y Y Y ?_)
    refine ZDu (vx:=.lit [.int .u64 h]) (ys:=[.int .u64 h]) (bytes:=8) Y Y Y (by simp) (by decide) Y ?_
    repeat'(first|refine ZD ?_|refine ZG Y ?_|refine ZI Y Y ?_|refine ZB Y ?_|refine ZC ?_|refine Zr Y Y (by omega) ?_|refine Qs Y Y Y Y (Qu _ (Nat.lt_succ_self _)) Y ?_|refine Z5 ?_|refine QJ ?_)
    refine⟨(i+1,.ref A.length (G1.length+4) 0 0 1,G1++[.arr 1 0 [.int .u64 h]]),⟨rfl,?_⟩,⟨by simp only;omega,?_⟩,by simp only;omega⟩
    ·simp only[hnx];rfl
    ·simp only[hnx]
     exact .inr ⟨G1.length,0,rfl,by simp,List.getElem?_concat_length ..⟩
   ·have hj:=(List.getElem?_eq_some_iff.1 hg).1
    have hg2:∀b0 b1 b2 b3:Blk,(b0::b1::b2::b3::G1)[j+4]?=some (.arr 1 ver (W.map Qj)):=fun _ _ _ _=>hg
    unfold chL at *
    repeat'(first|refine Jw (f:=Qj) Y Y q (fun _=>rfl) ?_|refine ZE ?_|refine ZD ?_|refine ZG Y ?_|refine ZB Y ?_|refine ZC ?_|refine Qt Y Y ?_|(refine cm0 Y Y Y ?_ ?_<;>intro _<;>try omega)|refine ZU Y ?_|refine YA Y Y ?_|refine ZAN Y Y hlk ?_|refine ZH ?_|refine ZS ?_)
    all_goals try first|contradiction|omega
    refine ZlU Y Y Y Y Y hpe ?_
    repeat'(first|refine ZD ?_|refine ZG Y ?_|refine ZI Y Y ?_|refine ZQ Y Y Y Y ?_|refine ZB Y ?_|refine ZC ?_|refine Q2 Y Y Y Y ?_)
    refine ZQD (es:=W.map Qj) (ys:=[.int .u64 h]) Y Y (hg2 _ _ _ _) (by rw[List.length_map]) rfl rfl (by simp;omega) (by decide) ?_
    repeat'(first|refine ZD ?_|refine ZG Y ?_|refine ZI Y Y ?_|refine ZB Y ?_|refine ZC ?_|refine Zr Y Y (by omega) ?_|refine Qs Y Y Y Y (Qu _ (Nat.lt_succ_self _)) Y ?_|refine Z5 ?_|refine QJ ?_)
    refine⟨(i+1,.ref A.length (j+4) (ver+1) 0 (W.length+1),G1.set j (.arr 1 (ver+1) (W.map Qj++[.int .u64 h]))),⟨rfl,?_⟩,⟨by simp only;omega,?_⟩,by simp only;omega⟩
    ·simp only[hnx];rfl
    ·simp only[hnx]
     refine .inr ⟨j,ver+1,by simp,by simp,?_⟩
     rw[List.getElem?_set_self hj,List.map_append];rfl
 ·obtain rfl:i=dl.length:=by omega
  rw[List.take_length]at hD ⊢
  repeat'(first|refine ZE ?_|refine ZD ?_|refine ZB Y ?_|refine ZC ?_|(refine cm0 Y Y Y ?_ ?_<;>intro _<;>try omega)|refine ZF Y ?_|refine Zz ?_|refine Zk ?_|refine Zh Y ?_|refine Zx ?_)
  all_goals try omega
  exact hQ G1 dv1 hD
def slH(l:List Nat):AV:=if l=[] then .nils else .lit (l.map Qj)
def ZLf(ro:Ro)(fresh:List Nat)(d:AV):AV:=.agg [.int .u64 ro.at_,.int .i64 ro.h,.int .i64 ro.m.b,.int .i64 ro.m.r,.int .i64 ro.m.l,.lit (fresh.map Qj),d]
def chZ:AV:=.agg [.int .u64 0,.int .i64 0,.int .i64 0,.int .i64 0,.int .i64 0,.nils,.nils]
theorem ZsH{b lv q:Nat}{fr:List Nat}(st:St)(hl:lv<b):ZY QO b st (ZLf ro fr (.ref lv ix ver q n))=some (ZLf ro fr (.ref lv ix ver q n),st):=by
 show (mapSt (keepN (ZY 5 b)) _ _).bind ZE1=_
 simp only[mapSt,keepN,Y5,jB,if_false,ZY,oS,if_pos hl,Yd,ZE1];rfl
theorem ZsI{L:List Blk}{fr d:List Nat}{z:Int}(hg:L[ix]?=some (.arr 1 ver (d.map Qj)))(hn:n=d.length):
 ZY QO A.length ⟨A,false,L⟩ (.tup [ZLf ro fr (.ref A.length ix ver 0 n),.int .i64 z])=some (.tup [ZLf ro fr (.lit (d.map Qj)),.int .i64 z],⟨A,false,L.set ix .dead⟩):=by
 subst hn
 have h1:=ZFF (n:=3) (A:=A) (s:=0) (m:=d.length) hg (by simp) (es':=d.map Qj) (by
  rw[List.drop_zero,List.take_of_length_le (by simp)]
  exact ZK1 (k:=.u64) (fun n:Nat=>(n:Int)) 2 0 _ d)
 show (mapSt (ZY 5 A.length) _ _).bind Zcy=_
 have h2:ZY 5 A.length ⟨A,false,L⟩ (ZLf ro fr (.ref A.length ix ver 0 d.length))=some (ZLf ro fr (.lit (d.map Qj)),⟨A,false,L.set ix .dead⟩):=by
  show (mapSt (keepN (ZY 4 A.length)) _ _).bind ZE1=_
  simp only[mapSt,keepN,Y5,jB,if_false,oS];simp only[ZY,oS]at h1 ⊢;simp only[h1,oS,Yd,ZE1];rfl
 simp only[mapSt,h2,oS];rfl
theorem ZNS{L L':List Blk}{x:Ex}{c4 c5 j4 w4 v4:Nat}{v:AV}{cs:LV}{z:Int}(hA:A=st.A++[(st.ro,st.L)])(hx:x=.norm\/x=.ret)(h4:Jx e c4=some (.ptr A.length j4 v4 0 0))(hg4:L[j4]?=some (.arr w4 v4 [v]))(hv:v=.agg cs)(hc:cs.length=7)(h5:Jx e c5=some (.int .i64 z))
 (hs:ZY QO A.length ⟨A,false,L⟩ (.tup [v,.int .i64 z])=some (.tup [w,.int .i64 z],⟨A,false,L'⟩)):Jm false [.c c4 true 7,.s c5] (x,e,⟨A,false,L⟩)=some (.tup [w,.int .i64 z],st):=by
 refine ZC2 (v:=.tup [v,.int .i64 z]) hA hx ?_ hs Y
 have h1:ZAo ⟨A,false,L⟩ e (.c c4 true 7)=some v:=by
  subst hv;simp only[ZAo,QQ h4,loadP,St.get_cur,hg4,vis,ZE4,if_true,List.getElem?_cons_zero,oS,Jk,AV.cells,List.drop_zero]
  rw[List.take_of_length_le (by omega)]
  simp[hc]
  rfl
 simp only[Qk,ZDz,h1,oS];simp only[ZAo,QQ h5,oS,Option.map_some,ZE5]
def ZDy(N:ZO)(rs:List Ro)(t:Tr):List Nat:=(rs.flatMap fun r=>ZL9 N r t).foldl ZAv []
theorem AROk.lv{r:AR}(h:AROk r):∀l,Lv r.nodes l->l.length<=16384:=fun l hl=>h.few hl.1 hl.2
theorem AROk.nz{r:AR}(h:AROk r):∀o x,lk r.nodes o=some x->o≠0:=fun o x hx=>(h.hnd hx).2
theorem Zgz{N:ZO}(hN:GoodN N)(hK:∀l,Lv N l->l.length<=16384){r:Ro}(hr:RtOk N r)(t:Tr):(ZL9 N r t).length<=16384:=by
 unfold ZL9
 split
 ·simp
 ·rename_i h0
  obtain⟨x,x1,x2,x3,x4⟩:∃x,lk N r.at_=some x/\NdOk x/\x.h=r.h/\x.mea=r.m:=by
   rcases hr with rfl|w
   ·exact absurd Y h0
   ·exact w.2
  have:=hK _ (ZsE hN r.h r.at_ [] x x1 x3 ⟨by simp,by simp⟩)
  exact Nat.le_trans (List.length_filter_le ..) this
theorem ZsJ{N:ZO}(hN:GoodN N)(hK:∀l,Lv N l->l.length<=16384)(t:Tr):∀ {rs:List Ro},(∀r∈rs,RtOk N r)->(rs.flatMap fun r=>ZL9 N r t).length<=rs.length*16384:=by
 intro rs
 induction rs with
 | nil=>intro _;simp
 | cons r l ih =>
  intro h
  have h1:=Zgz hN hK (h r (by simp)) t
  have h2:=ih (fun z hz=>h z (List.mem_cons_of_mem _ hz))
  rw[List.flatMap_cons,lL,List.length_cons];omega
theorem DrOk.app{M:Nat}{G:List Blk}{dv:AV}{w:List Nat}(h:DrOk M G dv w)(T:List Blk):DrOk M (G++T) dv w:=by
 rcases h with h|⟨j,ver,h1,h2,h3⟩
 ·exact .inl h
 ·exact .inr ⟨j,ver,h1,h2,by rw[jL (List.getElem?_eq_some_iff.1 h3).1];exact h3⟩
theorem ZUE{N:ZO}(hN:GoodN N)(hK:∀l,Lv N l->l.length<=16384)(hz:∀o x,lk N o=some x->o≠0){b:Nat}(hR:∀L,Rd ⟨A,false,L⟩ la (b+5) N){rs:List Ro}(hrs:∀r∈rs,RtOk N r)(hl:rs.length<=3)(hv:VE N t)(hb:t.bytes<=65536){b6:Blk}
 (hQ:∀G dv,DrOk A.length G dv (ZDy N rs t)->Rk (S Tb) k Q .norm [(0,.ptr la (b+5) 0 0 0),(6,.ptr A.length 0 0 0 0),(8,.ptr A.length 1 0 0 0),(10,.ptr A.length 2 0 0 0),(11,.map A.length 3),(29,.lit (rs.map Ro.av)),(30,.int .i64 rs.length),(31,.int .i64 rs.length),(32,.bool false)] ⟨A,false,chL b6 t dv (ZDy N rs t) G⟩) :
 Ru (S Tb) p_edit_change_21.loop (.blk 0::k) Q [(0,.ptr la (b+5) 0 0 0),(6,.ptr A.length 0 0 0 0),(8,.ptr A.length 1 0 0 0),(10,.ptr A.length 2 0 0 0),(11,.map A.length 3),(29,.lit (rs.map Ro.av)),(30,.int .i64 rs.length),(31,.int .i64 0)] ⟨A,false,chL b6 t .nils [] []⟩:=by
 refine Z2 (α:=Nat × AV × List Blk) (fun p=>[(0,.ptr la (b+5) 0 0 0),(6,.ptr A.length 0 0 0 0),(8,.ptr A.length 1 0 0 0),(10,.ptr A.length 2 0 0 0),(11,.map A.length 3),(29,.lit (rs.map Ro.av)),(30,.int .i64 rs.length),(31,.int .i64 p.1)])
  (fun p=>⟨A,false,chL b6 t p.2.1 (ZDy N (rs.take p.1) t) p.2.2⟩) (fun p=>p.1<=rs.length/\DrOk A.length p.2.2 p.2.1 (ZDy N (rs.take p.1) t)) (fun p=>rs.length-p.1) (0,.nils,[]) rfl rfl ⟨Nat.zero_le _,.inl ⟨rfl,rfl⟩⟩ ?_
 rintro⟨i,dv,G⟩ ⟨hi,hD⟩
 simp only at hi hD ⊢
 rcases Nat.lt_or_ge i rs.length with hlt|hge
 ·obtain⟨ro,hro⟩:∃x,rs[i]?=some x:=⟨rs[i]'hlt,jE _⟩
  have q:0<=((i:Nat):Int)/\rs[((i:Nat):Int).toNat]?=some ro:=⟨by omega,by rw[show ((i:Nat):Int).toNat=i by omega];exact hro⟩
  have hrt:=hrs ro (jM hro)
  have hDp:=fun L=>Zpc hN hK hz (hR L) hrt hv hb
  have hdl:=Zgz hN hK hrt t
  have hfl:=ZsJ hN hK t (rs:=rs.take i) (fun z hz=>hrs z (List.mem_of_mem_take hz))
  rw[List.length_take,Nat.min_eq_left hi]at hfl
  have hwl:=Zgy ((rs.take i).flatMap fun r=>ZL9 N r t) []
  change (ZDy N (rs.take i) t).length<=_ at hwl
  simp only[List.length_nil]at hwl
  have hnx:ZDy N (rs.take (i+1)) t=(ZL9 N ro t).foldl ZAv (ZDy N (rs.take i) t):=by
   unfold ZDy;rw[Zs hro,List.flatMap_append,List.foldl_append];simp
  have hin:=fun k Q hQ=>ZsG (A:=A) (b6:=b6) (t:=t) (dl:=ZL9 N ro t) (hD.app [.arr 5 0 [ro.av]]) (by omega) (v0:=.ptr la (b+5) 0 0 0) (v29:=.lit (rs.map Ro.av)) (v30:=.int .i64 rs.length) (v31:=.int .i64 i) (k:=k) (Q:=Q) hQ
  rw[<- hnx]at hin
  generalize ZL9 N ro t=dl at *
  generalize ZDy N (rs.take i) t=W at *
  have f13:∀b0 b1 b2 b3:Blk,(b0::b1::b2::b3::G++[Blk.arr 5 0 [ro.av]])[(b0::b1::b2::b3::G).length]?=some (.arr 5 0 [ro.av]):=fun _ _ _ _=>List.getElem?_concat_length ..
  obtain⟨ra,rh,rm⟩:=ro
  unfold chL Ro.av at *
  repeat'(first|refine hin _ _ (fun G' dv' hD'=>?_)|refine Jw (f:=Ro.av) Y Y q (fun _=>rfl) ?_|refine ZEd Y ?_|refine ZE ?_|refine ZD ?_|refine ZG Y ?_|refine Zp Y Y ?_|refine ZB Y ?_|refine ZC ?_|refine Ql Y Y Y ?_|refine Qt Y Y ?_|(refine cm0 Y Y Y ?_ ?_<;>intro _<;>try omega)|(refine cm0 Y Y Y ?_ ?_<;>intro _<;>try omega)|refine ZU Y ?_|refine ZF Y ?_|refine Zr Y Y (by omega) ?_|refine Zw Y Y Y ?_|refine Q1 Y Y Y Y Y Y ?_|refine ZA Y Y (by first|rfl|(simp only[lE,lN,lC,Zm,Zb,ZZ];first|done|rfl)) (hDp _) ?_|refine ZQ Y Y Y (Z0 _) ?_|refine ZH ?_|refine ZS ?_|refine Z5 ?_|refine QJ ?_)
  all_goals try first|contradiction|omega
  exact⟨(i+1,dv',G'),⟨rfl,rfl⟩,⟨by simp only;omega,hD'⟩,by simp only;omega⟩
 ·obtain rfl:i=rs.length:=by omega
  rw[List.take_length]at hD ⊢
  repeat'(first|refine ZE ?_|refine ZD ?_|refine ZB Y ?_|refine ZC ?_|(refine cm0 Y Y Y ?_ ?_<;>intro _<;>try omega)|refine ZF Y ?_|refine Zz ?_|refine Zk ?_|refine Zh Y ?_|refine Zx ?_)
  all_goals try omega
  exact hQ G dv hD
theorem ZlV{b:Nat}{r:AR}(hA:Has st la b r)(ho:AROk r)(hg:GoodN r.nodes){rs:List Ro}(hrs:∀r'∈rs,RtOk r.nodes r')(hl:rs.length<=3)(hv:VE r.nodes t)(hb:t.bytes<=65536){mk:FuncId}
 (hmk:∀A L,A=st.ps->S Tb mk caps ⟨A,false,L⟩=some (.tup [t.av,.int .i64 0],⟨A,false,L⟩)) (hwk:ZZ (Zm ([]++[]++caps))=some caps) (hn:r.n<nw t) :
 S Tb ZBG [.ptr la (b+5) 0 0 0,.func (.func mk) [] caps,.lit (rs.map Ro.av)] st=some (.tup [chZ,.int .i64 6],st):=by
 refine QA Y (fun A hA'=>?_)
 have hM:=fun L=>hmk A L hA'
 have hlp:=fun k Q hQ=>ZUE (A:=A) hg ho.lv ho.nz (fun L=>(hA.r.push hA' (ro:=false) (L:=L)).rd) hrs hl hv hb (b6:=.arr 7 0 [chZ]) (k:=k) (Q:=Q) hQ
 have hWr:=fun L=>Zms (hA.push hA' (ro:=false) (L:=L)) ho hg hv hb hn
 unfold chL at hlp
 unfold chZ at *
 repeat'(first|refine ZA Y Y hwk (hM _) ?_|refine hlp _ _ (fun G dv hD=>?_)|refine ZEd Y ?_|refine ZE ?_|refine ZD ?_|refine ZG Y ?_|refine Zp Y Y ?_|refine ZB Y ?_|refine ZC ?_|(refine cm0 Y Y Y ?_ ?_<;>intro _<;>try omega)|refine ZF Y ?_|refine Zn Y Y Y ?_|refine Zc Y Y Y ?_|refine Zy Y Y Y Y Y Y ?_|refine ZFE Y ?_|refine ZQ Y Y Y (Z0 _) ?_|refine Zy Y Y Y (Qn _ _ _) (JR _ _) Y ?_|refine ZH ?_|refine ZS ?_)
 all_goals try contradiction
 rcases hD with⟨_,rfl⟩|⟨j,ver,rfl,_,_⟩
 ·repeat'(first|refine ZE ?_|refine ZD ?_|refine ZG Y ?_|refine ZI Y Y ?_|refine Zp Y Y ?_|refine ZB Y ?_|refine ZC ?_|(refine cm0 Y Y Y ?_ ?_<;>intro _<;>try omega)|refine ZU Y ?_|refine Zn Y Y Y ?_|refine Qs Y Y Y Y Y Y ?_|refine ZA Y Y (by first|rfl|(simp only[lE,lN,lC,Zm,Zb,ZZ];first|done|rfl)) (hWr _) ?_|refine ZP ?_|refine ZL ?_|refine ZW ?_)
  all_goals try contradiction
  exact ZNS hA' (.inr Y) Y Y Y Y Y Y
 ·repeat'(first|refine ZE ?_|refine ZD ?_|refine ZG Y ?_|refine ZI Y Y ?_|refine Zp Y Y ?_|refine ZB Y ?_|refine ZC ?_|(refine cm0 Y Y Y ?_ ?_<;>intro _<;>try omega)|refine ZU Y ?_|refine Zn Y Y Y ?_|refine Qs Y Y Y Y Y Y ?_|refine ZA Y Y (by first|rfl|(simp only[lE,lN,lC,Zm,Zb,ZZ];first|done|rfl)) (hWr _) ?_|refine ZP ?_|refine ZL ?_|refine ZW ?_)
  all_goals try contradiction
  exact ZNS hA' (.inr Y) Y Y Y Y Y Y
theorem ZsK{b:Nat}{r:AR}(hA:Has st la b r)(ho:AROk r)(hg:GoodN r.nodes){rs:List Ro}(hrs:∀r'∈rs,RtOk r.nodes r')(hl:rs.length<=3)(hv:VE r.nodes t)(hb:t.bytes<=65536){mk:FuncId}
 (hmk:∀A L,A=st.ps->S Tb mk caps ⟨A,false,L⟩=some (.tup [t.av,.int .i64 0],⟨A,false,L⟩)) (hwk:ZZ (Zm ([]++[]++caps))=some caps) (hn:nw t<=r.n) :
 S Tb ZBG [.ptr la (b+5) 0 0 0,.func (.func mk) [] caps,.lit (rs.map Ro.av)] st=some (.tup [ZLf (wrV t r).2.1 (wrV t r).2.2 (slH (ZDy r.nodes rs t)),.int .i64 0],Qy st la b (wrV t r).1):=by
 refine Jz Y (fun A hA'=>?_)
 have hM:=fun L=>hmk A L hA'
 have hlp:=fun k Q hQ=>ZUE (A:=A) hg ho.lv ho.nz (fun L=>(hA.r.push hA' (ro:=false) (L:=L)).rd) hrs hl hv hb (b6:=.arr 7 0 [chZ]) (k:=k) (Q:=Q) hQ
 have hle:=hA.le
 have hWr:=fun L=>Zn6 (hA.push hA' (ro:=false) (L:=L)) ho hg hv hb hn
 simp only[ZCp hA' hle]at hWr
 have hAl:A.length=((Qy st la b (wrV t r).1).ps).length:=by rw[hA'];simp[ZKb]
 generalize (wrV t r).2.1=ro at *
 generalize (wrV t r).2.2=fr at *
 obtain⟨A2,hA2⟩:∃A2,A2=(Qy st la b (wrV t r).1).ps:=⟨_,rfl⟩;rw[<- hA2]at hWr hAl;unfold chL at hlp
 unfold chZ at *
 repeat'(first|refine ZA Y Y hwk (hM _) ?_|refine hlp _ _ (fun G dv hD=>?_)|refine ZEd Y ?_|refine ZE ?_|refine ZD ?_|refine ZG Y ?_|refine Zp Y Y ?_|refine ZB Y ?_|refine ZC ?_|(refine cm0 Y Y Y ?_ ?_<;>intro _<;>try omega)|refine ZF Y ?_|refine Zn Y Y Y ?_|refine Zc Y Y Y ?_|refine Zy Y Y Y Y Y Y ?_|refine ZFE Y ?_|refine ZQ Y Y Y (Z0 _) ?_|refine Zy Y Y Y (Qn _ _ _) (JR _ _) Y ?_|refine ZH ?_|refine ZS ?_)
 all_goals try contradiction
 obtain⟨ra,rh,rm⟩:=ro;unfold Ro.av at hWr
 rcases hD with⟨e,rfl⟩|⟨j,ver,rfl,hne,hgd⟩
 ·rw[e]
  repeat'(first|refine ZG Y ?_|refine ZI Y Y ?_|refine Zp Y Y ?_|refine ZA Y Y (by first|rfl|(simp only[lE,lN,lC,Zm,Zb,ZZ];first|done|rfl)) (hWr _) ?_)
  rw[hAl]
  repeat'(first|refine ZE ?_|refine ZD ?_|refine ZG Y ?_|refine ZI Y Y ?_|refine ZQ Y Y Y Y ?_|refine ZB Y ?_|refine ZC ?_|(refine cm0 Y Y Y ?_ ?_<;>intro _<;>try omega)|refine ZF Y ?_|refine Qs Y Y Y Y Y Y ?_|refine ZH ?_|refine ZP ?_|refine ZL ?_)
  all_goals try contradiction
  exact ZNS (w:=ZLf ⟨ra,rh,rm⟩ fr .nils) hA2 (.inr Y) Y Y Y Y Y Y
 ·have hg3:∀b0 b1 b2 b3:Blk,(b0::b1::b2::b3::G)[j+4]?=some (.arr 1 ver ((ZDy r.nodes rs t).map Qj)):=fun _ _ _ _=>hgd
  unfold slH;rw[if_neg hne]
  generalize ZDy r.nodes rs t=dd at *
  repeat'(first|refine ZG Y ?_|refine ZI Y Y ?_|refine Zp Y Y ?_|refine ZA Y Y (by first|rfl|(simp only[lE,lN,lC,Zm,Zb,ZZ];first|done|rfl)) (hWr _) ?_)
  rw[hAl]
  repeat'(first|refine Qs Y Y Y Y (ZsH (ro:=⟨ra,rh,rm⟩) (fr:=fr) _ (Nat.lt_succ_self _)) Y ?_|refine ZE ?_|refine ZD ?_|refine ZG Y ?_|refine ZI Y Y ?_|refine ZQ Y Y Y Y ?_|refine ZB Y ?_|refine ZC ?_|(refine cm0 Y Y Y ?_ ?_<;>intro _<;>try omega)|refine ZF Y ?_|refine Qs Y Y Y Y Y Y ?_|refine ZH ?_|refine ZP ?_|refine ZL ?_)
  all_goals try contradiction
  exact ZNS (v:=ZLf ⟨ra,rh,rm⟩ fr (.ref A2.length (j+4) ver 0 dd.length)) (w:=ZLf ⟨ra,rh,rm⟩ fr (.lit (dd.map Qj))) hA2 (.inr Y) Y Y Y Y Y (ZsI (hg3 _ _ _ _) Y)
noncomputable def edV(N:ZO)(ro:Ro)(a n:Int)(s:B8):Tr:=(ZQB N (ZAJ ro) a n s).own
structure EdOk(N:ZO)(ro:Ro)(s0:B8)(a n:Int)(s:B8):Prop where
 rt:Rt N ro s0
 a0:0<=a
 n0:0<=n
 le:a+n<=s0.length
 b1:s0.length<=60000
 b2:s.length<=2000
theorem EdOk.ok{N:ZO}(hN:GoodN N){n:Int}(h:EdOk N ro s0 a n s):
 VE N (edV N ro a n s)/\(edV N ro a n s).bytes=s0.length-n+s.length/\(edV N ro a n s).txt N=s0.take a.toNat++s++s0.drop (a+n).toNat:=by
 obtain⟨hk,htx⟩:=h.rt.keep;have hb:=(h.rt.b hN).1;have h1:=h.a0;have h2:=h.n0;have h3:=h.le;have h4:=h.b1;have h5:=h.b2
 have:=Zk0 hN (s:=s) hk h1 h2 (by omega) (by omega) (by omega)
 refine⟨Zva this.ve,?_,?_⟩
 ·show (Tr.own _).bytes=_;rw[Zgq,this.bytes,hb]
 ·show (Tr.own _).txt N=_;rw[ZuP,this.txt,htx]
theorem ZsL{b:Nat}{N:ZO}(hN:GoodN N)(hR:Rd st la (b+5) N){n:Int}(h:EdOk N ro s0 a n s):
 S Tb ZJd [.ptr la (b+5) 0 0 0,ro.av,.int .i64 a,.int .i64 n,.str s] st=some (.tup [(edV N ro a n s).av,.int .i64 0],st):=by
 refine QA Y (fun A hA=>?_)
 have hRA:=fun L=>hR.push hA (ro:=false) (L:=L)
 have hKp:=fun L=>ZjA (hRA L) h.rt.rt
 obtain⟨hk,htx⟩:=h.rt.keep;have hb:=(h.rt.b hN).1;have h1:=h.a0;have h2:=h.n0;have h3:=h.le;have h4:=h.b1;have h5:=h.b2
 have hRp:=fun L=>ZpB hN (hRA L) hk (a:=a) (n:=n) (s:=s) h1 h2 (by omega) (by omega) (by omega)
 unfold edV
 generalize (ZQB N (ZAJ ro) a n s).own=t at *
 generalize ZAJ ro=kt at *
 obtain⟨ra,rh,rm⟩:=ro
 unfold Ro.av at *
 repeat'(first|refine ZA Y Y ZuR (hRp _) ?_|refine ZE ?_|refine ZD ?_|refine ZG Y ?_|refine ZQ Y Y Y Y ?_|refine Zp Y Y ?_|refine ZB Y ?_|refine ZC ?_|(refine cm0 Y Y Y ?_ ?_<;>intro _<;>try omega)|refine ZF Y ?_|refine Zc Y Y Y ?_|refine ZA Y Y (by first|rfl|(simp only[lE,lN,lC,Zm,Zb,ZZ];first|done|rfl)) (hKp _) ?_|refine ZQ Y Y Y (Z0 _) ?_|refine Zy Y Y Y (Qn _ _ _) (JR _ _) Y ?_|refine ZH ?_|refine ZP ?_|refine ZL ?_)
 all_goals try first|contradiction|omega
 exact ZEc hA (.inr Y) Y Y Y Y
theorem ZlW{b lv:Nat}{N:ZO}(hN:GoodN N)(hR:Rd st la (b+5) N){n:Int}(h:EdOk N ro s0 a n s)
 (g0:st.get lv 0=some (.arr 1 0 [.ptr la (b+5) 0 0 0])) (g1:st.get lv 1=some (.arr 5 0 [ro.av])) (g2:st.get lv 2=some (.arr 1 0 [.int .i64 a])) (g3:st.get lv 3=some (.arr 1 0 [.int .i64 n])) (g4:st.get lv 4=some (.arr 1 0 [.str s])) :
 S Tb YT [.ptr lv 0 0 0 0,.ptr lv 1 0 0 0,.ptr lv 2 0 0 0,.ptr lv 3 0 0 0,.ptr lv 4 0 0 0] st=some (.tup [(edV N ro a n s).av,.int .i64 0],st):=by
 refine QA Y (fun A hA=>?_)
 have hPl:=fun L=>ZsL hN (hR.push hA (ro:=false) (L:=L)) h
 have k0:=fun L=>ZV hA (ro:=false) (L:=L) g0
 have k1:=fun L=>ZV hA (ro:=false) (L:=L) g1
 have k2:=fun L=>ZV hA (ro:=false) (L:=L) g2
 have k3:=fun L=>ZV hA (ro:=false) (L:=L) g3
 have k4:=fun L=>ZV hA (ro:=false) (L:=L) g4
 generalize edV N ro a n s=t at *
 repeat'(first|refine Zt Y (k0 _) Y Y ?_|refine Zt Y (k1 _) Y (ZIF _) ?_|refine Zt Y (k2 _) Y Y ?_|refine Zt Y (k3 _) Y Y ?_|refine Zt Y (k4 _) Y Y ?_|refine ZE ?_|refine ZD ?_|refine ZG Y ?_|refine Zp Y Y ?_|refine ZB Y ?_|refine ZC ?_|refine Zc Y Y Y ?_|refine ZA Y Y (by first|rfl|(simp only[lE,lN,lC,Zm,Zb,ZZ];first|done|rfl)) (hPl _) ?_|refine Zy Y Y Y (Qn _ _ _) (JR _ _) Y ?_|refine ZP ?_|refine ZL ?_)
 all_goals try contradiction
 exact ZEc hA (.inr Y) Y Y Y Y
theorem Zm3{b:Nat}{r:AR}(hA:Has st la b r)(ho:AROk r)(hg:GoodN r.nodes){n:Int}(h:EdOk r.nodes ro s0 a n s)(hn:nw (edV r.nodes ro a n s)<=r.n):
 S Tb ZAO [.ptr la (b+5) 0 0 0,ro.av,.int .i64 a,.int .i64 n,.str s] st=some (.tup [ZLf (wrV (edV r.nodes ro a n s) r).2.1 (wrV (edV r.nodes ro a n s) r).2.2 (slH (ZDy r.nodes [ro] (edV r.nodes ro a n s))),.int .i64 0],Qy st la b (wrV (edV r.nodes ro a n s) r).1):=by
 refine Jz Y (fun A hA'=>?_)
 have hle:=hA.le;obtain⟨hv,hvb,_⟩:=h.ok hg;have h1:=h.n0;have h4:=h.b1;have h5:=h.b2
 have hCh:=ZsK (st:=⟨A,false,[.arr 1 0 [.ptr la (b+5) 0 0 0],.arr 5 0 [ro.av],.arr 1 0 [.int .i64 a],.arr 1 0 [.int .i64 n],.arr 1 0 [.str s],.arr 7 0 [chZ]]⟩) (hA.push hA') ho hg (rs:=[ro]) (fun z hz=>by rw[List.mem_singleton]at hz;rw[hz];exact h.rt.rt) (by simp) hv (by omega) (mk:=YT) (caps:=[.ptr A.length 0 0 0 0,.ptr A.length 1 0 0 0,.ptr A.length 2 0 0 0,.ptr A.length 3 0 0 0,.ptr A.length 4 0 0 0])
  (fun A2 L h2=>ZlW hg ((hA.push hA').r.rd.push h2) h (ZV h2 (St.get_cur ..)) (ZV h2 (St.get_cur ..)) (ZV h2 (St.get_cur ..)) (ZV h2 (St.get_cur ..)) (ZV h2 (St.get_cur ..))) rfl hn
 rw[ZCp hA' hle]at hCh
 have hAl:A.length=((Qy st la b (wrV (edV r.nodes ro a n s) r).1).ps).length:=by rw[hA'];simp[ZKb]
 generalize (wrV (edV r.nodes ro a n s) r).2.1=r2 at *
 generalize (wrV (edV r.nodes ro a n s) r).2.2=fr at *
 generalize ZDy r.nodes [ro] (edV r.nodes ro a n s)=dd at *
 obtain⟨A2,hA2⟩:∃A2,A2=(Qy st la b (wrV (edV r.nodes ro a n s) r).1).ps:=⟨_,rfl⟩;rw[<- hA2]at hCh hAl;simp only[jC,List.map_nil]at hCh;obtain⟨x1,x2,x3⟩:=r2;unfold chZ at hCh;unfold Ro.av at hCh ⊢
 by_cases hd:dd=[]
 ·subst hd
  rw[show slH []=.nils from rfl]at hCh ⊢
  unfold ZLf at hCh
  repeat'(first|refine ZE ?_|refine ZD ?_|refine ZG Y ?_|refine ZQ Y Y Y Y ?_|refine Zp Y Y ?_|refine ZB Y ?_|refine ZC ?_|refine YN Y Y ?_|refine Zc Y Y Y ?_|refine Q2 Y Y Y Y ?_|refine ZA Y Y Y (hCh) ?_)
  rw[hAl]
  repeat'(first|refine ZG Y ?_|refine ZB Y ?_|refine ZC ?_|refine Zy Y Y Y Y Y Y ?_|refine ZP ?_|refine ZL ?_)
  all_goals try contradiction
  exact ZNS (w:=ZLf ⟨x1,x2,x3⟩ fr .nils) hA2 (.inr Y) Y Y Y Y Y Y
 ·rw[show slH dd=.lit (dd.map Qj) from if_neg hd]at hCh ⊢
  unfold ZLf at hCh
  repeat'(first|refine ZE ?_|refine ZD ?_|refine ZG Y ?_|refine ZQ Y Y Y Y ?_|refine Zp Y Y ?_|refine ZB Y ?_|refine ZC ?_|refine YN Y Y ?_|refine Zc Y Y Y ?_|refine Q2 Y Y Y Y ?_|refine ZA Y Y Y (hCh) ?_)
  rw[hAl]
  repeat'(first|refine ZG Y ?_|refine ZB Y ?_|refine ZC ?_|refine Zy Y Y Y Y Y Y ?_|refine ZP ?_|refine ZL ?_)
  all_goals try contradiction
  exact ZNS (w:=ZLf ⟨x1,x2,x3⟩ fr (.lit (dd.map Qj))) hA2 (.inr Y) Y Y Y Y Y Y
theorem Zf4{b:Nat}{r:AR}(hA:Has st la b r)(ho:AROk r)(hg:GoodN r.nodes){n:Int}(h:EdOk r.nodes ro s0 a n s)(hn:r.n<nw (edV r.nodes ro a n s)):
 S Tb ZAO [.ptr la (b+5) 0 0 0,ro.av,.int .i64 a,.int .i64 n,.str s] st=some (.tup [chZ,.int .i64 6],st):=by
 refine QA Y (fun A hA'=>?_)
 have hle:=hA.le;obtain⟨hv,hvb,_⟩:=h.ok hg;have h1:=h.n0;have h4:=h.b1;have h5:=h.b2
 have hCh:=ZlV (st:=⟨A,false,[.arr 1 0 [.ptr la (b+5) 0 0 0],.arr 5 0 [ro.av],.arr 1 0 [.int .i64 a],.arr 1 0 [.int .i64 n],.arr 1 0 [.str s],.arr 7 0 [chZ]]⟩) (hA.push hA') ho hg (rs:=[ro]) (fun z hz=>by rw[List.mem_singleton]at hz;rw[hz];exact h.rt.rt) (by simp) hv (by omega) (mk:=YT) (caps:=[.ptr A.length 0 0 0 0,.ptr A.length 1 0 0 0,.ptr A.length 2 0 0 0,.ptr A.length 3 0 0 0,.ptr A.length 4 0 0 0])
  (fun A2 L h2=>ZlW hg ((hA.push hA').r.rd.push h2) h (ZV h2 (St.get_cur ..)) (ZV h2 (St.get_cur ..)) (ZV h2 (St.get_cur ..)) (ZV h2 (St.get_cur ..)) (ZV h2 (St.get_cur ..))) rfl hn
 simp only[jC,List.map_nil]at hCh;unfold chZ at hCh ⊢;unfold Ro.av at hCh ⊢
 repeat'(first|refine ZE ?_|refine ZD ?_|refine ZG Y ?_|refine ZQ Y Y Y Y ?_|refine Zp Y Y ?_|refine ZB Y ?_|refine ZC ?_|refine YN Y Y ?_|refine Zc Y Y Y ?_|refine Zy Y Y Y Y Y Y ?_|refine Q2 Y Y Y Y ?_|refine ZA Y Y Y (hCh) ?_|refine ZP ?_|refine ZL ?_)
 all_goals try contradiction
 exact ZNS (w:=chZ) hA' (.inr Y) Y Y Y Y Y Y
structure Op where
 at_:Int
 num:Int
 text:B8
def ZwQ(l:List Op):Prop:=∃s∈l,300<s.text.length
noncomputable instance (l:List Op):Decidable (ZwQ l):=Classical.propDecidable _
section
variable {A:List (Bool × List Blk)}{X:List Blk}{ic li la b im:Nat}{r:Ro}{N:ZO}{s:B8}{a:Nat}{vis:Int}
end
end Go.Q15
