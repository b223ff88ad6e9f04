/- A part of the proof: CUg, CUh, CUb, CUi, CUj, CUk, CUl, SQe, SB, RZ, SD, SE, SF, SG, SI, SJ, SK, SL, SN, SQf, SQg, SSa, SSb, SSc, SSd, SSe, SSf, SSg, SSh, SSi, SSj, SSk, SSl, SQh, SSm, SSn, CUm, CUn, FY, SHJ, TZa, FYi, TZv. No condition. -/
import Derived.SliceStrings
import Derived.Deep.Slices
import Derived.Carry
import Derived.Shelf.Strings.OnBuilder
import Derived.Test.YtleajkoecgbnlaaGreatProg
import Derived.ChangeSlices
import Derived.Test.YtleajkoecgbnlaaGreatCvT8
set_option linter.unusedVariables false
set_option linter.unusedSimpArgs false
namespace Go.Q15
open Go Go.QAbs
set_option maxRecDepth 100000
set_option maxHeartbeats 8000000
theorem ZlS {st:St} {la b:Nat} {N:ZL} (hN:GoodN N) (hR:Rd st la (b+5) N) {r:Ro} {s:List UInt8} (h:Rt N r s) (hs:s.length<=100000):S Tb ZCE [.ptr la (b+5) 0 0 0,r.av] st=some (.int .i64 0,st):=by
 refine QF rfl (fun A hA=>?_)
 obtain ⟨t,hB⟩:∃ t,∀ L,S Tb YS [.ptr la (b+5) 0 0 0,r.av,.int .i64 0] ⟨A,false,L⟩=some (.tup [.bool t,.int .i64 0],⟨A,false,L⟩):=by
  match s,h with
  | [],h=>exact ⟨true,fun L=>ZdV hN (hR.push hA) h (by simp)⟩
  | c::s,h=>exact ⟨_,fun L=>Zgo hN (hR.push hA) h (i:=0) (c:=c) rfl hs⟩
 unfold Ro.av at *
 repeat' (first|refine ZE ?_|refine ZD ?_|refine ZG rfl ?_|refine ZU rfl rfl rfl rfl ?_|refine Zv rfl rfl ?_|refine ZB rfl ?_|refine ZC ?_|refine Zn rfl rfl rfl ?_|refine ZA rfl rfl rfl (hB _) ?_|refine ZP ?_|refine ZO ?_)
 all_goals refine Za hA (by first|exact .inl rfl|exact .inr rfl) rfl rfl rfl rfl ?_
 all_goals rfl
def Qg (r:Ro):CLv:=⟨r.h,r.at_,0,r.m.b⟩
theorem Rt.lv {N:ZL} (hN:GoodN N) {r:Ro} {s:List UInt8} (h:Rt N r s) (h0:r.at_≠0):CLvOk N s (Qg r)/\(Qg r).t=s.length/\0<s.length:=by
 obtain ⟨hb1,hb2⟩:=h.b hN
 rcases h.rt with e|⟨_,x,x1,x2,x3,x4⟩
 ·rw [e] at h0;exact absurd rfl h0
 refine ⟨⟨⟨x,x1,x3,by rw [x4];show _=r.m.b-0;omega⟩,[],[],?_,rfl⟩,hb2,?_⟩
 ·have:=h.tx
  unfold ZON at this;rw [if_neg h0] at this
  simp [Qg,this]
 ·have hp : 0 < x.mea.b := by
   rcases x2 with q|⟨n,ks,q⟩
   ·unfold Nd.mea;rw [if_pos q.h];have:=q.lo;show 0<((x.text.length:Nat):Int);omega
   ·have e:=q.eq;subst e
    unfold Nd.mea
    rw [if_neg (by simp)]
    have h1:∀ k∈ks,0<k.m.b:=fun k hk=>by
     have:=(q.kid k hk).lo
     have h2:1<=leastB n:=by unfold leastB;exact Nat.le_trans (by decide) (Nat.mul_le_mul_left 8 Nat.one_le_two_pow)
     omega
    have key:∀ (l:List Kid),(∀ k∈l,0<k.m.b)->0<=(Z6 (l.map Kid.m)).b:=by
     intro l
     induction l with
     | nil=>intro _;exact Int.le_of_eq comp_b.zero.symm
     | cons y m ih2 =>
      intro hq;rw [jC,Z6,comp_b.add]
      have:=ih2 (fun q hq2=>hq q (List.mem_cons_of_mem _ hq2))
      have:=hq y (by simp)
      omega
    match ks,q.lo,h1 with
    | k::l,_,h1 =>
     show 0<(Z6 ((k::l).map Kid.m)).b
     rw [jC,Z6,comp_b.add]
     have:=key l (fun z hz=>h1 z (List.mem_cons_of_mem _ hz))
     have:=h1 k (by simp)
     omega
  rw [x4,hb2] at hp;omega
theorem ZfJ:∀ {ks:List (Nat × Nat)} {A:List (Bool × List Blk)} {L:List Blk} {bs:List Blk},(∀ k∈ks,k.1=A.length)->(Z5 ⟨A,false,L⟩ ks bs).A=A
 | [],_,_,_,_=>by cases ‹List Blk›<;>rfl
 | _::_,_,_,[],_=>rfl
 | k::ks,A,L,b::bs,h=>by
  rw [Z5]
  have e:St.upd ⟨A,false,L⟩ k.1 k.2 b=⟨A,false,L.set k.2 b⟩:=by
   unfold St.upd
   rw [if_pos (h k (by simp))]
  rw [e]
  exact ZfJ (fun q hq=>h q (by simp [hq]))
theorem Zi7 {ks:List (Nat × Nat)}:∀ {A:List (Bool × List Blk)} {L:List Blk} {bs:List Blk},(∀ k∈ks,k.1=A.length)->∀ i,(A.length,i)∉ks->(Z5 ⟨A,false,L⟩ ks bs).L[i]?=L[i]?:=by
 induction ks with
 | nil=>intro A L bs _ i _;cases bs<;>rfl
 | cons k ks ih =>
  intro A L bs h i hi
  cases bs with
  | nil=>rfl
  | cons b bs =>
   rw [Z5]
   have hk:=h k (by simp)
   have e:St.upd ⟨A,false,L⟩ k.1 k.2 b=⟨A,false,L.set k.2 b⟩:=by
    unfold St.upd;rw [if_pos hk]
   simp only [List.mem_cons,not_or] at hi
   rw [e,ih (fun q hq=>h q (by simp [hq])) i hi.2,jS]
   intro q
   exact hi.1 (by rw [<- hk,<- q])
theorem Zi8 {A:List (Bool × List Blk)} {L:List Blk} {ic la b:Nat} {r:Ro} {N:ZL} {s:List UInt8} (hN:GoodN N) (h:Rt N r s) (h0:r.at_≠0) (hs:s.length<=100000) (hc:L[ic]?=some (Jz (.ptr la (b+5) 0 0 0) r .nils 0 0)) (hla:la<=A.length)
 (hR:∃ a0 a1 im a3 a4 a5,St.get ⟨A,false,L⟩ la (b+5)=some (.arr 6 0 [.agg [a0,a1,.map la im,a3,a4,a5]])/\St.get ⟨A,false,L⟩ la im=some (.map (N.map nodeAV))) :
 Sp Tb QV [.ptr A.length ic 0 0 0,.int .i64 0] ⟨A,false,L⟩ (fun v st'=>v=.int .i64 0/\∃ X ver es,st'=⟨A,false,X⟩/\Cl ⟨A,false,X⟩ [(A.length,ic),(A.length,L.length+1)] (JQ (.ptr la (b+5) 0 0 0) r A.length (L.length+1) ver (r.h+1) es ((r.h+1:Nat):Int) 0) /\
  r.h+1<=es.length/\es.take (r.h+1)=(QZ N 0 r.h (Qg r)).map (CLv.av N)/\L.length<=X.length/\∀ i,i<L.length->i≠ic->X[i]?=L[i]?):=by
 refine ZTj (rfl:Tb QV=some (.pf J1)) ?_;obtain ⟨hlv,ht,hpos⟩:=h.lv hN h0;have hh:=h.rt.h13 hN;obtain ⟨⟨x,x1,x2,x3⟩,_⟩:=id hlv;have hx1:lk N r.at_=some x:=x1;have hx2:x.h=r.h:=x2;have hxl:x.ks.length<=4:=((hN _ x x1).1).len
 have hRd:Rd ⟨A,false,L⟩ la (b+5) N:=by
  obtain ⟨a0,a1,im,a3,a4,a5,g1,g2⟩:=hR;exact ⟨a0,a1,im,a3,a4,a5,g1,g2⟩
 have hic:=(List.getElem?_eq_some_iff.1 hc).1
 obtain ⟨bx,hV⟩:=Zi6 hc (by decide) hRd hx1 hxl 0 r.m.b
 rw [hx2] at hV
 -- the store behind the first visit
 generalize hL1:(L++[bx,.arr 5 0 [CLv.av N ⟨r.h,r.at_,0,r.m.b⟩]]).set ic (Jz (.ptr la (b+5) 0 0 0) r (.ref A.length (L.length+1) 0 0 1) (0+1) 0)=L1 at hV
 have hl1:L1.length=L.length+2:=by rw [<- hL1];simp
 have g0:L1[ic]?=some (Jz (.ptr la (b+5) 0 0 0) r (.ref A.length (L.length+1) 0 0 1) (0+1) 0):=by rw [<- hL1];exact List.getElem?_set_self (by simp;omega)
 have g1:L1[L.length+1]?=some (.arr 5 0 [CLv.av N (Qg r)]):=by
  rw [<- hL1,jS (by omega),List.getElem?_append_right (by omega),show L.length+1-L.length=1 by omega];rfl
 have gst:∀ i,i<L.length->i≠ic->L1[i]?=L[i]?:=fun i hi hn=>by
  rw [<- hL1,jS (fun q=>hn q.symm),jL hi]
 have H:Cl ⟨A,false,L1⟩ [(A.length,ic),(A.length,L.length+1)] (JQ (.ptr la (b+5) 0 0 0) r A.length (L.length+1) 0 1 [CLv.av N (Qg r)] 1 0):=by
  refine ⟨by simp;omega,rfl,fun k hk=>?_,fun j lv ix c q1 q2=>?_⟩
  ·simp only [List.mem_cons,List.not_mem_nil,or_false] at hk
   rcases hk with rfl|rfl<;>simp [St.wr]
  ·match j,q1,q2 with
   | 0,q1,q2=>obtain ⟨rfl,rfl⟩:=Prod.mk.inj (Option.some.inj q1);obtain rfl:=Option.some.inj q2;rw [St.get_cur,g0];rfl
   | 1,q1,q2=>obtain ⟨rfl,rfl⟩:=Prod.mk.inj (Option.some.inj q1);obtain rfl:=Option.some.inj q2;rw [St.get_cur,g1];rfl
   | n+2,q1,q2=>simp at q1
 have hget:∀ lv ix c,St.get ⟨A,false,L⟩ lv ix=some c->¬ (lv=A.length/\ix=ic)->St.get ⟨A,false,L1⟩ lv ix=some c/\¬ (lv=A.length/\ix=L.length+1):=by
  intro lv ix c q hn;rw [St.get] at q ⊢
  simp only at q ⊢
  by_cases w:lv=A.length
  ·rw [if_pos w] at q ⊢
   have hlt:=ZIF q
   rw [gst ix hlt (fun e=>hn ⟨w,e⟩)]
   exact ⟨q,fun e=>by omega⟩
  ·rw [if_neg w] at q ⊢
   exact ⟨q,fun e=>w e.1⟩
 have hRO:RdO ⟨A,false,L1⟩ la (b+5) N [(A.length,ic),(A.length,L.length+1)]:=by
  obtain ⟨a0,a1,im,a3,a4,a5,q1,q2⟩:=hR
  have n1:¬ (la=A.length/\b+5=ic):=by
   rintro ⟨rfl,rfl⟩
   rw [St.get_cur,hc] at q1
   simp [Jz,vis] at q1
  have n2:¬ (la=A.length/\im=ic):=by
   rintro ⟨rfl,rfl⟩
   rw [St.get_cur,hc] at q2
   simp [Jz,vis] at q2
  obtain ⟨w1,w2⟩:=hget _ _ _ q1 n1;obtain ⟨w3,w4⟩:=hget _ _ _ q2 n2
  exact ⟨a0,a1,im,a3,a4,a5,w1,w3,by simp only [List.mem_cons,jP,List.not_mem_nil,or_false,not_or];exact ⟨n1,w2⟩,by simp only [List.mem_cons,jP,List.not_mem_nil,or_false,not_or];exact ⟨n2,w4⟩⟩
 have hpl:=ZEQ N 0 r.h (Qg r);have hp0:=Zhp N 0 r.h (Qg r)
 have e00:(⟨A,false,L1⟩:St)=⟨A,false,L1++[]⟩:=by rw [lN]
 have htail:=fun (xs:Env) (kf:List Fr) (Q:Ju)=>ZXs (n:=r.h) (T:=[]) (xs:=xs) (kf:=kf) (Q:=Q) H H.same.symm hla hRO hN hlv rfl (by show r.h<=16;omega) (a:=0) (by show (0:Int)<=0;omega) (by rw [ht];omega) hs ⟨Nat.le_refl _,by omega⟩ (by decide) (Nat.le_refl _) (by
  rw [show (1:Nat)=0+1 from rfl,ZQd hp0];rfl)
 have hc':=hc;unfold Jz at hc g0;rw [e00] at hV
 repeat' (first|refine ZE ?_|refine ZD ?_|refine ZG rfl ?_|refine ZB rfl ?_|refine ZC ?_|refine ZQ ?_)
 refine Z1 (α:=Unit) (fun _=>[(0,.ptr A.length ic 0 0 0),(1,.int .i64 0)]) (fun _=>⟨A,false,L⟩) (fun _=>True) (fun _=>0) () rfl rfl trivial ?_
 intro _ _
 repeat' (first|refine ZU rfl hc rfl rfl ?_|refine htail _ _ _ (fun A2 L2 T2 ver2 es2 e2 f2 f3=>?_)|refine ZE ?_|refine ZD ?_|refine ZG rfl ?_|refine ZJ rfl rfl ?_|refine ZB rfl ?_|refine ZC ?_|refine Ze rfl rfl ?_|refine Jv rfl ?_|(refine QL rfl rfl (fun _=>?_) (fun _=>?_)<;>try (exfalso;omega))|(refine Zi rfl rfl (fun _=>?_) (fun _=>?_)<;>try (exfalso;omega))|(refine Zl rfl rfl (fun _=>?_) (fun _=>?_)<;>try (exfalso;omega))|refine ZS rfl ?_|refine ZH rfl ?_|refine ZA rfl rfl rfl (hV) ?_|refine ZI ?_|refine Zz ?_|refine ZQ ?_|refine ZO ?_|refine Zg ?_|refine Zd rfl ?_|refine Zx ?_)
 all_goals try contradiction
 all_goals try (exfalso;omega)
 have eA:A2=A:=by
  have:=congrArg St.A e2
  rw [ZfJ (by simp)] at this
  exact this
 subst eA
 have hstay:=Zi7 (ks:=[(A2.length,ic),(A2.length,L.length+1)]) (A:=A2) (L:=L1) (bs:=JQ (.ptr la (b+5) 0 0 0) r A2.length (L.length+1) ver2 (r.h+1) es2 (1+((r.h+1-1:Nat):Int)) 0) (by simp)
 rw [<- e2] at hstay;have hLL:=(ZOR e2).2
 refine ⟨_,_,JS (.inr rfl) rfl rfl rfl rfl,rfl,L2++T2,ver2,es2,rfl,?_,f2,f3,by rw [lL];omega,fun i hi hn=>?_⟩
 ·have:=(H.put (bs':=JQ (.ptr la (b+5) 0 0 0) r A2.length (L.length+1) ver2 (r.h+1) es2 (1+((r.h+1-1:Nat):Int)) 0) rfl rfl)
  rw [<- e2] at this
  have:=ZlQ this T2
  rw [show (1:Int)+((r.h+1-1:Nat):Int)=((r.h+1:Nat):Int) by omega] at this
  exact this
 ·rw [jL (by omega),hstay i (by simp;omega),gst i hi hn]
theorem Zi9 {st:St} {lv ic li ver m:Nat} {ap:AV} {r:Ro} {es:List AV} {vis at_:Int} {N:ZL} {l:CLv} (h0:st.get lv ic=some (Jz ap r (.ref lv li ver 0 m) vis at_)) (h1:st.get lv li=some (.arr 5 ver es)) (hm:1<=m/\m<1000) (hl:es[m-1]?=some (CLv.av N l)) :
 S Tb Xa [.ptr lv ic 0 0 0] st=some (.tup [.str (QT N l.o).text,.int .i64 l.f,.int .i64 l.t],st):=by
 refine QF rfl (fun A hA=>?_)
 have g0:=fun L=>ZV hA (ro:=false) (L:=L) h0
 have g1:=fun L=>ZV hA (ro:=false) (L:=L) h1
 have hel:es[0+(((m:Nat):Int)-1).toNat]?=some (CLv.av N l):=by
  rw [show 0+(((m:Nat):Int)-1).toNat=m-1 by omega];exact hl
 have hwi:∀ L,wIs 5 ver (St.get ⟨A,false,L⟩ lv li)=true:=fun L=>by rw [g1 L];simp [wIs]
 unfold Jz at g0;unfold CLv.av at hel
 repeat' (first|refine Z7 rfl (g0 _) rfl rfl ?_|refine XA rfl rfl (by omega) (hwi _) ?_|refine Z7 rfl (g1 _) hel rfl ?_|refine ZE ?_|refine ZD ?_|refine ZG rfl ?_|refine ZJ rfl rfl ?_|refine ZU rfl rfl rfl rfl ?_|refine ZB rfl ?_|refine ZC ?_|refine Ze rfl rfl ?_|refine Qc rfl ?_|(refine Zi rfl rfl (fun _=>?_) (fun _=>?_)<;>try (exfalso;omega))|refine ZH rfl ?_|refine Qj rfl rfl (by omega) ?_|refine Zn rfl rfl rfl ?_|refine QB rfl rfl rfl rfl rfl rfl ?_|refine ZI ?_|refine ZP ?_|refine ZO ?_)
 all_goals try contradiction
 all_goals try (exfalso;omega)
 refine Za hA (by first|exact .inl rfl|exact .inr rfl) rfl rfl rfl rfl ?_
 rfl
theorem ZlT {O:Orc} {k:List Fr} {Q:Ju} {e:Env} {A:List (Bool × List Blk)} {keep:List Nat} {is:List QAbs.PI} {d j w:Nat} {x:Opd} {v v':AV} (hx:Zb e x=some v) (hw:v.wide=some w) (hv:J6 v=some v') (h:Is O is keep k Q ((d,.ptr A.length 0 0 0 0)::e) ⟨A,false,[Blk.arr w 0 [v']]⟩) :
 Is O (⟨some d,none,false,.w (.here j) (.box x)⟩::is) keep k Q e ⟨A,false,[Blk.hole j]⟩:=by
 rw [<- Yj hv] at h;refine Z3 (v:=.ptr A.length 0 0 0 0) (st':=⟨A,false,[Blk.arr w 0 [v]]⟩) ?_ h;simp only [Zc,QA,newOf,ZF hx,hw,oS,ZTv,Zdh,and_self,if_true,findH,ZTu];rfl
theorem ZTo {st:St} {lv ic la b:Nat} {r:Ro} {lev:AV} {vis at_:Int} {N:ZL} {s:List UInt8} (hN:GoodN N) (h:Rt N r s) (h0:st.get lv ic=some (Jz (.ptr la (b+5) 0 0 0) r lev vis at_)) (hR:Rd st la (b+5) N) :
 S Tb JE [.ptr lv ic 0 0 0] st=some (.int .i64 0,st):=by
 refine QF rfl (fun A hA=>?_)
 have g0:=fun L=>ZV hA (ro:=false) (L:=L) h0
 unfold Jz at g0
 by_cases hz:r.at_=0
 ·have hzi:((r.at_:Nat):Int)=0:=by omega
  repeat' (first|refine Z7 rfl (g0 _) rfl rfl ?_|refine ZE ?_|refine ZD ?_|refine ZG rfl ?_|refine ZJ rfl rfl ?_|refine ZB rfl ?_|refine ZC ?_|refine Ze rfl rfl ?_|(refine Zl rfl rfl (fun _=>?_) (fun _=>?_)<;>try (exfalso;omega))|refine ZH rfl ?_|refine Qm rfl rfl rfl rfl ?_|refine ZI ?_|refine ZP ?_|refine ZO ?_)
  all_goals try contradiction
  all_goals refine Za hA (by first|exact .inl rfl|exact .inr rfl) rfl rfl rfl rfl ?_
  all_goals rfl
 ·have hzi:((r.at_:Nat):Int)≠0:=by omega
  obtain ⟨x,x1,x2,x3,x4⟩:∃ x,lk N r.at_=some x/\NdOk x/\x.h=r.h/\x.mea=r.m:=by
   rcases h.rt with rfl|w
   ·exact absurd rfl hz
   ·exact w.2
  have hG:=ZKw ((hR.push hA (ro:=false) (L:=[.hole 15])).push (st:=⟨A,false,[.hole 15]⟩) rfl (ro:=false) (L:=[])) x1 x2.len;have hcp:x.copy.av=.agg [.int .i64 x.h,.str x.text,.lit (x.ks.map Kid.av)]:=rfl;rw [hcp] at hG;have hI:Qx (S Tb) .inner QJ [.ptr la (b+5) 0 0 0,.int .u64 r.at_] ⟨A,false,[.hole 15]⟩=some (.tup [.agg [.int .i64 x.h,.str x.text,.lit (x.ks.map Kid.av)],.int .i64 0],⟨A,false,[.hole 15]⟩):=ZkP (st:=⟨A,false,[.hole 15]⟩) hG rfl
  repeat' (first|refine Z7 rfl (g0 _) rfl rfl ?_|refine ZE ?_|refine ZD ?_|refine ZG rfl ?_|refine ZJ rfl rfl ?_|refine ZB rfl ?_|refine ZC ?_|refine Ze rfl rfl ?_|(refine Zl rfl rfl (fun _=>?_) (fun _=>?_)<;>try (exfalso;omega))|refine ZS rfl ?_|refine ZH rfl ?_|refine Qm rfl rfl rfl rfl ?_|refine ZI ?_)
  all_goals try contradiction
  refine Zhd ?_
  repeat' (first|refine Z7 rfl (g0 _) rfl rfl ?_|refine ZkO rfl rfl rfl hI ?_|refine ZlT rfl rfl rfl ?_|refine ZE ?_|refine ZD ?_|refine ZG rfl ?_|refine ZJ rfl rfl ?_|refine Zv rfl rfl ?_|refine ZB rfl ?_|refine ZC ?_|refine Ze rfl rfl ?_|(refine Zl rfl rfl (fun _=>?_) (fun _=>?_)<;>try (exfalso;omega))|refine ZH rfl ?_|refine QB rfl rfl rfl rfl rfl rfl ?_|refine ZI ?_|refine ZP ?_|refine ZO ?_)
  all_goals try contradiction
  all_goals refine Za hA (by first|exact .inl rfl|exact .inr rfl) rfl rfl rfl rfl ?_
  all_goals rfl
theorem ZdW (l:List UInt8) (c:UInt8):Zw (l++[c])=Zw l++[.int .u8 c.toNat]:=by simp [Zw]
theorem Zol {A:List (Bool × List Blk)} {T:List Blk} {v:Nat} {l:List UInt8} (hl:l.length<4000000000) (c:UInt8) :
 S Tb QC [.int .u8 c.toNat,.ptr A.length 1 0 0 0] ⟨A,false,.arr 1 v (Zw l)::.arr 1 0 [.ref A.length 0 v 0 l.length]::T⟩ =
  some (.tup [],⟨A,false,.arr 1 (v+1) (Zw (l++[c]))::.arr 1 0 [.ref A.length 0 (v+1) 0 (l.length+1)]::T⟩):=by
 have H:Cl ⟨A,false,.arr 1 v (Zw l)::.arr 1 0 [.ref A.length 0 v 0 l.length]::T⟩ [(A.length,0),(A.length,1)] [.arr 1 v (Zw l),.arr 1 0 [.ref A.length 0 v 0 l.length]]:=by
  refine ⟨by simp,rfl,fun k hk=>?_,fun j lv ix b q1 q2=>?_⟩
  ·simp only [List.mem_cons,List.not_mem_nil,or_false] at hk
   rcases hk with rfl|rfl<;>simp [St.wr]
  ·match j,q1,q2 with
   | 0,q1,q2=>obtain ⟨rfl,rfl⟩:=Prod.mk.inj (Option.some.inj q1);obtain rfl:=Option.some.inj q2;rw [St.get_cur];rfl
   | 1,q1,q2=>obtain ⟨rfl,rfl⟩:=Prod.mk.inj (Option.some.inj q1);obtain rfl:=Option.some.inj q2;rw [St.get_cur];rfl
   | n+2,q1,q2=>simp at q1
 have hlen:(Zw l).length=l.length:=by simp [Zw]
 have hfin:Z5 ⟨A,false,.arr 1 v (Zw l)::.arr 1 0 [.ref A.length 0 v 0 l.length]::T⟩ [(A.length,0),(A.length,1)] [.arr 1 (v+1) (Zw (l++[c])),.arr 1 0 [.ref A.length 0 (v+1) 0 (l.length+1)]]=⟨A,false,.arr 1 (v+1) (Zw (l++[c]))::.arr 1 0 [.ref A.length 0 (v+1) 0 (l.length+1)]::T⟩:=by
  simp [Z5,St.upd]
 rw [<- hfin];have h0:=H.get 1 _ _ _ rfl rfl;rw [ZdW]
 generalize hst:(⟨A,false,.arr 1 v (Zw l)::.arr 1 0 [.ref A.length 0 v 0 l.length]::T⟩:St)=st at *
 generalize hn:A.length=nA at *
 have hnA:st.A.length=nA:=by rw [<- hst];exact hn
 refine ZEK rfl (fun B hB=>?_)
 have g0:=fun L=>ZV hB (ro:=false) (L:=L) h0
 have hs0:B=(Z5 st [(nA,0),(nA,1)] [.arr 1 v (Zw l),.arr 1 0 [.ref nA 0 v 0 l.length]]).ps:=by rw [H.same];exact hB
 rw [<- hlen] at g0
 repeat' (first|refine Z7 rfl (g0 _) rfl rfl ?_|refine ZD ?_|refine ZG rfl ?_|refine JT rfl rfl rfl rfl ?_)
 refine Zm6 (j:=0) H hs0 rfl rfl rfl rfl rfl rfl rfl rfl rfl (by rw [hlen];simp;omega) (by decide) (fun B1 hB1 e1=>?_)
 refine ZgJ (j:=1) H hB1 rfl rfl rfl rfl rfl rfl rfl (JG _ (Nat.lt_succ_self _)) rfl (fun B2 hB2 e2=>?_)
 rw [hlen] at hB2
 repeat' (first|refine ZB rfl ?_|refine ZO ?_)
 exact Za hB2 (.inl rfl) rfl rfl rfl rfl rfl
theorem Zgq:∀ h,1<=leastB h:=by
 intro h;unfold leastB
 have:∀ n,1<=2 ^ n:=fun n=>Nat.one_le_two_pow
 first|exact Nat.le_trans (by decide) (Nat.mul_le_mul_left 8 (this h))|(split<;>first|omega|exact Nat.le_trans (by decide) (Nat.mul_le_mul_left 8 (this _)))
theorem CLvOk.kids {N:ZL} (hN:GoodN N) {s:List UInt8} {l:CLv} {n:Nat} (h:CLvOk N s l) (hn:l.n=n+1):2<=(QT N l.o).ks.length/\(∀ k∈(QT N l.o).ks,0<k.m.b)/\Qa Mea.b (QT N l.o).ks (QT N l.o).ks.length=l.t-l.f:=by
 obtain ⟨⟨x,x1,x2,x3⟩,_⟩:=h
 have hm:x.mea=Z6 (x.ks.map Kid.m):=by unfold Nd.mea;rw [if_neg (by omega)]
 rw [J2 x1];have hx:=(hN l.o x x1).1;refine ⟨?_,?_,?_⟩
 ·rcases hx with q|⟨m,ks,q⟩
  ·have:=q.h;omega
  ·have e:=q.eq;subst e;exact q.lo
 ·rcases hx with q|⟨m,ks,q⟩
  ·have:=q.h;omega
  ·have e:=q.eq;subst e
   intro k hk;have h1:=(q.kid k hk).lo;have h2:=Zgq m;omega
 ·unfold Qa
  rw [List.take_length,<- hm];exact x3
theorem CLvOk.at {N:ZL} (hN:GoodN N) {s:List UInt8} {l:CLv} (h:CLvOk N s l) {i:Nat} {k:Kid} (hk:(QT N l.o).ks[i]?=some k) {a:Int} (h0:l.f+Qa Mea.b (QT N l.o).ks i<=a) (h1:a<l.f+Qa Mea.b (QT N l.o).ks i+k.m.b) :
 ZEP N l.o (a-l.f)=i/\l.down N a=⟨l.n-1,k.at_,l.f+Qa Mea.b (QT N l.o).ks i,l.f+Qa Mea.b (QT N l.o).ks i+k.m.b⟩:=by
 have e:ZEP N l.o (a-l.f)=i:=ZOQ (h.fit hN) hk (by omega) (by omega)
 refine ⟨e,?_⟩;unfold CLv.down Xk ZaS ZKf;rw [e,hk];rfl
theorem ZdX {ks:List Kid} (h:∀ k∈ks,0<k.m.b) {i:Nat} (hi:i<=ks.length):0<=Qa Mea.b ks i/\Qa Mea.b ks i<=Qa Mea.b ks ks.length:=by
 have key:∀ (l:List Kid),(∀ k∈l,0<k.m.b)->0<=(Z6 (l.map Kid.m)).b:=by
  intro l
  induction l with
  | nil=>intro _;exact Int.le_of_eq comp_b.zero.symm
  | cons y m ih2 =>
   intro hq;rw [jC,Z6,comp_b.add]
   have:=ih2 (fun q hq2=>hq q (List.mem_cons_of_mem _ hq2))
   have:=hq y (by simp)
   omega
 refine ⟨key _ (fun k hk=>h k (List.mem_of_mem_take hk)),?_⟩
 unfold Qa;rw [List.take_length]
 have e:=congrArg (fun l=>(Z6 (l.map Kid.m)).b) (List.take_append_drop i ks)
 simp only [List.map_append,Xi,comp_b.add] at e
 have:=key _ (fun k hk=>h k (List.mem_of_mem_drop (i:=i) hk))
 omega
theorem ZlU {l:List Kid} (h:∀ k∈l,0<k.m.b) (hl:0<l.length):0<(Z6 (l.map Kid.m)).b:=by
 match l,hl with
 | k::l,_ =>
  have h1:=ZdX (ks:=l) (fun z hz=>h z (List.mem_cons_of_mem _ hz)) (Nat.zero_le _)
  have h2:=h k (by simp)
  rw [jC,Z6,comp_b.add];unfold Qa at h1;rw [List.take_length] at h1
  have:(Z6 ((l.take 0).map Kid.m)).b=0:=comp_b.zero
  omega
theorem ZL4 {N:ZL} (hN:GoodN N) {s:List UInt8}:∀ (n:Nat) (l:CLv),l.n=n->CLvOk N s l->ZER N l.f n l=n+1
 | 0,_,_,_=>rfl
 | n+1,l,hn,h=>by
  obtain ⟨k1,k2,k3⟩:=h.kids hN hn
  obtain ⟨k,hk⟩:∃ k,(QT N l.o).ks[0]?=some k:=⟨_,jE (by omega)⟩
  have hkb:=k2 k (jM hk);have e0:Qa Mea.b (QT N l.o).ks 0=0:=comp_b.zero
  obtain ⟨e1,e2⟩:=h.at hN hk (a:=l.f) (by omega) (by omega)
  have hp:=ZdX k2 (Nat.le_refl _)
  have hpos:0<l.t-l.f:=by
   rw [<- k3];unfold Qa;rw [List.take_length];exact ZlU k2 (by omega)
  obtain ⟨d1,_⟩:=h.down hN hn (a:=l.f) (by omega) (by omega)
  have ih:=ZL4 hN n (l.down N l.f) (by show l.n-1=n;omega) d1
  have ef:(l.down N l.f).f=l.f:=by rw [e2,e0];simp
  rw [ZER,e1];rw [ef] at ih;rw [ih]
  simp
  omega
theorem ZXt {N:ZL} {n:Nat} {ks:List Kid} {i:Nat} {k:Kid} (hk:ks[i]?=some k):((ks.take (i+1)).map fun k=>szN N n k.at_).sum=((ks.take i).map fun k=>szN N n k.at_).sum+szN N n k.at_:=by
 rw [Zm hk];simp
theorem ZQe {N:ZL} (hN:GoodN N) {s:List UInt8}:∀ (n:Nat) (l:CLv),l.n=n->CLvOk N s l->ZER N (l.t-1) n l=szN N n l.o
 | 0,_,_,_=>rfl
 | n+1,l,hn,h=>by
  obtain ⟨k1,k2,k3⟩:=h.kids hN hn
  obtain ⟨m,hm⟩:∃ m,(QT N l.o).ks.length=m+1:=⟨_,(Nat.sub_add_cancel (by omega:1<=_)).symm⟩
  obtain ⟨k,hk⟩:∃ k,(QT N l.o).ks[m]?=some k:=⟨_,jE (by omega)⟩
  have hkb:=k2 k (jM hk);have hs:=ZKA comp_b hk;rw [<- hm,k3] at hs
  have h0:=(ZdX k2 (i:=m) (by omega)).1
  obtain ⟨e1,e2⟩:=h.at hN hk (a:=l.t-1) (by omega) (by omega)
  obtain ⟨d1,_⟩:=h.down hN hn (a:=l.t-1) (by omega) (by omega)
  have ih:=ZQe hN n (l.down N (l.t-1)) (by show l.n-1=n;omega) d1
  have et:(l.down N (l.t-1)).t=l.t:=by rw [e2];show l.f+Qa Mea.b (QT N l.o).ks m+k.m.b=l.t;omega
  have eo:(l.down N (l.t-1)).o=k.at_:=by rw [e2]
  rw [et,eo] at ih;rw [ZER,e1,ih,szN,Nat.add_assoc,<- ZXt hk,<- hm,List.take_length]
theorem ZbG {N:ZL} (hN:GoodN N) {s:List UInt8}:∀ (n:Nat) (l:CLv),l.n=n->CLvOk N s l->∀ p:Int,l.f<=p->p+1<l.t->ZER N (p+1) n l+cmL N p (p+1) n l=ZER N p n l+(n+1)
 | 0,_,_,_,_,_,_=>rfl
 | n+1,l,hn,h,p,p0,p1=>by
  obtain ⟨k1,k2,k3⟩:=h.kids hN hn
  obtain ⟨d1,d2,d3,d4,d5,k,hk,ko,kb⟩:=h.down hN hn (a:=p) p0 (by omega)
  have dn:(l.down N p).n=n:=by show l.n-1=n;omega
  rw [ZER,ZER,cmL]
  rcases Int.lt_or_le (p+1) (l.down N p).t with q|q
  ·have e:=h.same hN hn p0 (by omega) (a:=p+1) (by omega) q
   have ei:ZEP N l.o (p+1-l.f)=ZEP N l.o (p-l.f):=by
    refine ZOQ (h.fit hN) hk (show Xk N l.o (p-l.f)<=_ from ?_) (show _<Xk N l.o (p-l.f)+_ from ?_)
    ·have:l.f+Xk N l.o (p-l.f)<=p:=d2;omega
    ·have:p+1<l.f+Xk N l.o (p-l.f)+ZKf N l.o (p-l.f):=q;omega
   rw [if_pos e,ei,<- e];have ih:=ZbG hN n (l.down N p) dn d1 p d2 q;omega
  ·have ht:(l.down N p).t=l.f+Xk N l.o (p-l.f)+ZKf N l.o (p-l.f):=rfl
   have hf:Xk N l.o (p-l.f)=Qa Mea.b (QT N l.o).ks (ZEP N l.o (p-l.f)):=rfl;have hs:=ZKA comp_b hk
   generalize hI:ZEP N l.o (p-l.f)=I at *
   have hIl:=(List.getElem?_eq_some_iff.1 hk).1
   have hI2:I+1<(QT N l.o).ks.length:=by
    rcases Nat.lt_or_ge (I+1) (QT N l.o).ks.length with w|w
    ·exact w
    ·have e:I+1=(QT N l.o).ks.length:=by omega
     rw [e,k3] at hs;omega
   obtain ⟨k',hk'⟩:∃ k,(QT N l.o).ks[I+1]?=some k:=⟨_,jE hI2⟩;have hkb':=k2 k' (jM hk')
   have hp1:p+1=l.f+Qa Mea.b (QT N l.o).ks (I+1):=by omega
   obtain ⟨e1,e2⟩:=h.at hN hk' (a:=p+1) (by omega) (by omega)
   obtain ⟨c1,c2,c3,_⟩:=h.down hN hn (a:=p+1) (by omega) (by omega)
   have cf:(l.down N (p+1)).f=p+1:=by rw [e2];exact hp1.symm
   have v1:=ZL4 hN n (l.down N (p+1)) (by show l.n-1=n;omega) c1
   rw [cf] at v1;have v2:=ZQe hN n (l.down N p) dn d1
   rw [show (l.down N p).t-1=p by omega] at v2
   have eo:(l.down N p).o=k.at_:=ko
   have hne:l.down N p≠l.down N (p+1):=fun e=>by
    have:=congrArg CLv.t e
    omega
   rw [if_neg hne,e1,v1,v2,eo,ZXt hk];omega
theorem Zht (N:ZL):∀ (n o:Nat),(ZKe N n o).length=szN N n o
 | 0,_=>rfl
 | n+1,o=>by
  rw [ZKe,szN,List.length_cons,List.length_flatMap]
  have e:((QT N o).ks.map fun k=>(ZKe N n k.at_).length)=(QT N o).ks.map fun k=>szN N n k.at_:=List.map_congr_left fun k _=>Zht N n k.at_
  rw [e];omega
theorem CLvOk.sameI {N:ZL} (hN:GoodN N) {s:List UInt8} {l:CLv} {n:Nat} (h:CLvOk N s l) (hn:l.n=n+1) {p a:Int} (h0:l.f<=p) (h1:p<l.t) (ha0:(l.down N p).f<=a) (ha1:a<(l.down N p).t):ZEP N l.o (a-l.f)=ZEP N l.o (p-l.f):=by
 obtain ⟨_,_,_,_,_,k,k1,k2,k3⟩:=h.down hN hn h0 h1;have q0:l.f+Xk N l.o (p-l.f)<=a:=ha0;have q1:a<l.f+Xk N l.o (p-l.f)+ZKf N l.o (p-l.f):=ha1;rw [k3] at q1
 exact ZOQ (h.fit hN) k1 (by show Xk N l.o (p-l.f)<=_;omega) (by show _<Xk N l.o (p-l.f)+_;omega)
theorem ZbH {N:ZL} (hN:GoodN N) {s:List UInt8} {p a:Int}:∀ (n:Nat) (l lf:CLv),l.n=n->CLvOk N s l->l.f<=p->p<l.t->(QZ N p n l)[n]?=some lf->lf.f<=a->a<lf.t->QZ N a n l=QZ N p n l/\ZER N a n l=ZER N p n l
 | 0,l,lf,_,_,_,_,_,_,_=>⟨rfl,rfl⟩
 | n+1,l,lf,hn,h,p0,p1,hf,a0,a1=>by
  obtain ⟨d1,d2,d3,d4,d5,_⟩:=h.down hN hn p0 p1
  have dn:(l.down N p).n=n:=by show l.n-1=n;omega
  rw [QZ,List.getElem?_cons_succ] at hf;obtain ⟨_,_,_,_,e5,e6⟩:=ZCl hN n _ dn d1 d2 d3 n lf hf
  have e:=h.same hN hn p0 p1 (a:=a) (by omega) (by omega)
  have ei:=h.sameI hN hn p0 p1 (a:=a) (by omega) (by omega)
  obtain ⟨i1,i2⟩:=ZbH hN n _ lf dn d1 d2 d3 hf a0 a1;rw [QZ,QZ,ZER,ZER,<- e,i1,i2,ei];exact ⟨rfl,rfl⟩
theorem Znl {N:ZL} (hN:GoodN N) {s:List UInt8} {l:CLv} (h:CLvOk N s l) (hn:l.n=0):((QT N l.o).text.length:Int)=l.t-l.f/\∀ a:Int,l.f<=a->a<l.t->(QT N l.o).text[(a-l.f).toNat]?=s[a.toNat]?:=by
 have hl:=h.len hN;obtain ⟨⟨x,x1,x2,x3⟩,pre,post,e,e2⟩:=h
 have ht:QG N l.n l.o=(QT N l.o).text:=by
  rw [hn,QG,x1,J2 x1];simp
 rw [ht] at e hl
 refine ⟨hl.1,fun a a0 a1=>?_⟩
 rw [e,List.append_assoc,List.getElem?_append_right (by omega),jL (by omega)]
 congr 1
 omega
def ZBw (P:Nat->UInt8->Bool):Nat->List UInt8->Nat
 | _,[]=>0
 | n,b::l=>if P n b=true then 1+ZBw P (n+1) l else 0
theorem Zhu (P:Nat->UInt8->Bool):∀ (l:List UInt8) (n:Nat),ZBw P n l<=l.length
 | [],_=>Nat.le_refl _
 | b::l,n=>by
  rw [ZBw]
  have:=Zhu P l (n+1)
  split
  ·simp;omega
  ·simp
theorem ZlV {s:List UInt8} {i:Nat} {b:UInt8} (h:s[i]?=some b):s.drop i=b::s.drop (i+1):=by
 obtain ⟨hi,rfl⟩:=List.getElem?_eq_some_iff.1 h;exact List.drop_eq_getElem_cons hi
structure More (st:St) (ks:List (Nat × Nat)) (g:FuncId) (caps:List AV) (P:Nat->UInt8->Bool):Prop where
 call:∀ (bs:List Blk) (B:List (Bool × List Blk)) (L:List Blk) (i:Nat) (c:UInt8),B=(Z5 st ks bs).ps->bs.length=ks.length->bs.all noH=true->i<=100000->S Tb g ([.int .i64 i,.int .u8 c.toNat]++caps) ⟨B,false,L⟩=some (.bool (P i c),⟨B,false,L⟩)
 wk:∀ (i:Nat) (c:UInt8),ZW (Zf ([]++[.int .i64 i,.int .u8 c.toNat]++caps))=some ([.int .i64 i,.int .u8 c.toNat]++caps)
structure FwS where
 i:Nat
 p:Int
 ver:Nat
 es:List AV
 vis:Int
 B:List (Bool × List Blk)
 v:Nat
 T:List Blk
 xs:Env
structure FwI (st:St) (lv ic li la b:Nat) (r:Ro) (N:ZL) (s:List UInt8) (n:Nat) (rt:CLv) (P:Nat->UInt8->Bool) (a0:Nat) (vis0:Int) (p0:Int) (q:FwS):Prop where
 hB:q.B=(Z5 st [(lv,ic),(lv,li)] (JQ (.ptr la (b+5) 0 0 0) r lv li q.ver (n+1) q.es q.vis ((a0:Int)+q.i))).ps
 le:n+1<=q.es.length
 es:q.es.take (n+1)=(QZ N q.p n rt).map (CLv.av N)
 ai:a0+q.i<=s.length
 p1:0<=q.p/\q.p<s.length
 pa:q.p=(a0:Int)+q.i\/(q.p+1=(a0:Int)+q.i/\∀ lf,(QZ N q.p n rt)[n]?=some lf->lf.t=(a0:Int)+q.i)
 fw:ZBw P 0 (s.drop a0)=q.i+ZBw P q.i (s.drop (a0+q.i))
 vs:q.vis+ZER N p0 n rt=vis0+ZER N q.p n rt
 v0:vis0<=q.vis/\q.vis<=vis0+20*q.i+20/\(q.p≠(a0:Int)+q.i->q.vis<=vis0+20*q.i)
theorem Znm {B:List (Bool × List Blk)} {v:Nat} {l:List UInt8} {x:Blk} {T:List Blk} {m:Nat} (hm:m=l.length):b2sV ⟨B,false,.arr 1 v (Zw l)::x::T⟩ (.ref B.length 0 v 0 m)=some (.str l):=by
 subst hm
 have:elems ⟨B,false,.arr 1 v (Zw l)::x::T⟩ (.ref B.length 0 v 0 l.length)=some (Zw l):=by
  simp only [elems,St.get_cur,List.getElem?_cons_zero,vis,ZBh,true_and,Nat.zero_add]
  rw [if_pos (by simp [Zw]),List.drop_zero,List.take_of_length_le (by simp [Zw])]
 simp only [b2sV,this,oS,ZJj]
theorem ZbI {st:St} {lv ic li ver la b:Nat} {r:Ro} {es:List AV} {vis0:Int} {N:ZL} {s:List UInt8} {a0:Nat} (H:Cl st [(lv,ic),(lv,li)] (JQ (.ptr la (b+5) 0 0 0) r lv li ver (r.h+1) es vis0 a0))
 (hla:la<=lv) (hR:RdO st la (b+5) N [(lv,ic),(lv,li)]) (hN:GoodN N) (h:Rt N r s) (h0:r.at_≠0) (hs:s.length<=100000) (ha:a0<=s.length) (hv:0<=vis0/\vis0<700000000)
 (hke:r.h+1<=es.length) (hes:es.take (r.h+1)=(QZ N (min (a0:Int) (s.length-1)) r.h (Qg r)).map (CLv.av N)) {g:FuncId} {caps:List AV} {P:Nat->UInt8->Bool} (hM:More st [(lv,ic),(lv,li)] g caps P) :
 ∃ ver2 es2 vis2,S Tb QY [.ptr lv ic 0 0 0,.func (.func g) [] caps] st=some (.tup [.str ((s.drop a0).take (ZBw P 0 (s.drop a0))),.int .i64 0],Z5 st [(lv,ic),(lv,li)] (JQ (.ptr la (b+5) 0 0 0) r lv li ver2 (r.h+1) es2 vis2 ((a0+ZBw P 0 (s.drop a0):Nat):Int))) /\
  r.h+1<=es2.length/\es2.take (r.h+1)=(QZ N (min ((a0+ZBw P 0 (s.drop a0):Nat):Int) (s.length-1)) r.h (Qg r)).map (CLv.av N) /\
  vis2+ZER N (min (a0:Int) (s.length-1)) r.h (Qg r)=vis0+ZER N (min ((a0+ZBw P 0 (s.drop a0):Nat):Int) (s.length-1)) r.h (Qg r)/\vis0<=vis2/\vis2<=vis0+20*ZBw P 0 (s.drop a0)+20:=by
 obtain ⟨hlv,ht,hpos⟩:=h.lv hN h0;have h13:=h.rt.h13 hN;have hmb:r.m.b=s.length:=(h.b hN).2;have hrf:(Qg r).f=0:=rfl;have hrn:(Qg r).n=r.h:=rfl;have hfl:=Zhu P (s.drop a0) 0;rw [List.length_drop] at hfl
 -- the leaf of the path
 have hleaf:∀ p:Int,0<=p->p<s.length->∃ lf,(QZ N p r.h (Qg r))[r.h]?=some lf/\CLvOk N s lf/\lf.n=0/\lf.f<=p/\p<lf.t/\lf.t<=s.length/\0<=lf.f:=by
  intro p p0 p1
  obtain ⟨lf,hlf⟩:∃ lf,(QZ N p r.h (Qg r))[r.h]?=some lf:=⟨_,jE (by rw [ZEQ];omega)⟩
  obtain ⟨e1,e2,e3,e4,e5,e6⟩:=ZCl hN r.h (Qg r) rfl hlv (by omega) (by omega) r.h lf hlf
  exact ⟨lf,hlf,e1,by omega,e3,e4,by omega,by omega⟩
 suffices hmain:Sp Tb QY [.ptr lv ic 0 0 0,.func (.func g) [] caps] st (fun w st'=>∃ q:FwS,q.i=ZBw P 0 (s.drop a0)/\q.p=min ((a0:Int)+q.i) (s.length-1)/\FwI st lv ic li la b r N s r.h (Qg r) P a0 vis0 (min (a0:Int) (s.length-1)) q /\
  w=.tup [.str ((s.drop a0).take q.i),.int .i64 0]/\st'=Z5 st [(lv,ic),(lv,li)] (JQ (.ptr la (b+5) 0 0 0) r lv li q.ver (r.h+1) q.es q.vis ((a0:Int)+q.i))) by
  obtain ⟨w,st',hS,q,q1,q2,qI,rfl,rfl⟩:=hmain
  refine ⟨q.ver,q.es,q.vis,?_,qI.le,?_,?_,qI.v0.1,by rw [<- q1];exact qI.v0.2.1⟩
  ·rw [hS,q1];simp
  ·rw [qI.es,q2,q1];simp
  ·rw [qI.vs,q2,q1];simp
 refine ZhM (rfl:Tb QY=some (.pf YA)) ?_;obtain ⟨B0,hB0⟩:∃ B0,B0=st.ps:=⟨_,rfl⟩
 show Ru _ _ _ _ _ ⟨st.ps,false,[]⟩
 rw [<- hB0]
 repeat' (first|refine ZE ?_|refine ZD ?_|refine ZG rfl ?_|refine ZB rfl ?_|refine ZC ?_|refine ZEf rfl rfl ?_|refine ZJr rfl ?_|refine ZQ ?_)
 refine Z1 (α:=FwS) (fun q=>(0,.ptr lv ic 0 0 0)::(1,.func (.func g) [] caps)::(6,.ptr q.B.length 1 0 0 0)::(7,.func (.func QC) [] [.ptr q.B.length 1 0 0 0])::q.xs)
  (fun q=>⟨q.B,false,.arr 1 q.v (Zw ((s.drop a0).take q.i))::.arr 1 0 [.ref q.B.length 0 q.v 0 q.i]::q.T⟩) (FwI st lv ic li la b r N s r.h (Qg r) P a0 vis0 (min (a0:Int) (s.length-1)))
  (fun q=>2*(s.length-(a0+q.i))+(if q.p=(a0:Int)+q.i then 0 else 1)) ⟨0,min (a0:Int) (s.length-1),ver,es,vis0,B0,0,[],[]⟩ rfl rfl ?_ ?_
 ·refine ⟨by simp only;rw [hB0];simp only [Int.add_zero,Int.natCast_zero];rw [H.same],hke,hes,by simp only;omega,by simp only;omega,?_,by simp,rfl,by simp only;omega⟩
  simp only
  rcases Nat.lt_or_ge a0 s.length with w|w
  ·left;omega
  ·right
   refine ⟨by omega,fun lf hlf=>?_⟩
   obtain ⟨lf',g1,g2,g3,g4,g5,g6,g7⟩:=hleaf (min (a0:Int) (s.length-1)) (by omega) (by omega)
   obtain rfl:lf'=lf:=Option.some.inj (g1.symm.trans hlf);omega
 rintro ⟨i,p,ver,es,vis,B,v,T,xs⟩ hI
 obtain ⟨hB,hle,hes,hai,⟨p0,p1⟩,pa,fw,vs,v0⟩:=id hI
 simp only at hB hle hes hai p0 p1 pa fw vs v0 ⊢
 obtain ⟨lf,g1,g2,g3,g4,g5,g6,g7⟩:=hleaf p p0 p1;obtain ⟨x1,x2⟩:=Znl hN g2 g3
 have hc:=fun L=>Cl.old (L:=L) (ro:=false) H hB rfl rfl (j:=0) rfl rfl
 have hcl:=fun L=>Cl.old (L:=L) (ro:=false) H hB rfl rfl (j:=1) rfl rfl
 have htl:((s.drop a0).take i).length=i:=by rw [List.length_take,List.length_drop];omega
 have hb2:=fun T=>Znm (B:=B) (v:=v) (l:=(s.drop a0).take i) (x:=.arr 1 0 [.ref B.length 0 v 0 i]) (T:=T) htl.symm
 have hel:es[r.h+1-1]?=some (CLv.av N lf):=by
  have e1:(es.take (r.h+1))[r.h]?=es[r.h]?:=List.getElem?_take_of_lt (by omega)
  rw [Nat.add_sub_cancel,<- e1,hes,jG,g1];rfl
 have hLf:=fun L=>Zi9 (hc L) (hcl L) (by omega) hel
 rcases Nat.eq_or_lt_of_le hai with hend|hlt
 ·-- the end of the text
  have hfin:∀ (w:AV) (st':St),w=.tup [.str ((s.drop a0).take i),.int .i64 0]->st'=Z5 st [(lv,ic),(lv,li)] (JQ (.ptr la (b+5) 0 0 0) r lv li ver (r.h+1) es vis ((a0:Int)+i))->∃ q:FwS,q.i=ZBw P 0 (s.drop a0)/\q.p=min ((a0:Int)+q.i) (s.length-1)/\FwI st lv ic li la b r N s r.h (Qg r) P a0 vis0 (min (a0:Int) (s.length-1)) q /\
   w=.tup [.str ((s.drop a0).take q.i),.int .i64 0]/\st'=Z5 st [(lv,ic),(lv,li)] (JQ (.ptr la (b+5) 0 0 0) r lv li q.ver (r.h+1) q.es q.vis ((a0:Int)+q.i)):=by
   intro w st' e1 e2;refine ⟨_,?_,?_,hI,e1,e2⟩
   ·show i=_
    rw [fw,List.drop_of_length_le (by omega)];rfl
   ·show p=min ((a0:Int)+i) (s.length-1);omega
  have hat:¬ ((a0:Int)+i)<r.m.b:=by omega
  unfold Jz at hc
  repeat' (first|refine Z7 rfl (hc _) rfl rfl ?_|refine Zf2 rfl (hb2 _) ?_|refine ZE ?_|refine ZD ?_|refine ZG rfl ?_|refine ZJ rfl rfl ?_|refine ZU rfl rfl rfl rfl ?_|refine ZB rfl ?_|refine ZC ?_|refine Ze rfl rfl ?_|(refine Zk rfl rfl (fun _=>?_) (fun _=>?_)<;>try (exfalso;omega))|refine ZH rfl ?_|refine ZP ?_|refine Zz ?_|refine ZO ?_|refine Zg ?_|refine Zd rfl ?_|refine Zx ?_)
  all_goals try contradiction
  all_goals try (exfalso;omega)
  exact ⟨_,_,Za hB (.inr rfl) rfl rfl rfl rfl rfl,hfin _ _ rfl rfl⟩
 ·have hat:((a0:Int)+i)<r.m.b:=by omega
  rcases Int.lt_or_le ((a0:Int)+i) lf.t with hin|hout
  ·-- within the leaf
   have hpe:p=(a0:Int)+i:=by
    rcases pa with w|⟨_,w⟩
    ·exact w
    ·have:=w lf g1;omega
   obtain ⟨c,hcb⟩:∃ c,s[a0+i]?=some c:=⟨_,jE hlt⟩
   have hix:(QT N lf.o).text[((a0:Int)+i-lf.f).toNat]?=some c:=by
    rw [x2 _ (by omega) hin,show ((a0:Int)+i).toNat=a0+i by omega];exact hcb
   have hdrop:=ZlV hcb
   have hMo:=fun L=>hM.call _ B L i c hB rfl rfl (by omega)
   have hwk:=hM.wk i c
   have hnge:¬ ((QT N lf.o).text.length:Int)<=(a0:Int)+i-lf.f:=by omega
   cases hP:P i c with
   | false =>
    have hfin:∀ (w:AV) (st':St),w=.tup [.str ((s.drop a0).take i),.int .i64 0]->st'=Z5 st [(lv,ic),(lv,li)] (JQ (.ptr la (b+5) 0 0 0) r lv li ver (r.h+1) es vis ((a0:Int)+i))->∃ q:FwS,q.i=ZBw P 0 (s.drop a0)/\q.p=min ((a0:Int)+q.i) (s.length-1)/\FwI st lv ic li la b r N s r.h (Qg r) P a0 vis0 (min (a0:Int) (s.length-1)) q /\
     w=.tup [.str ((s.drop a0).take q.i),.int .i64 0]/\st'=Z5 st [(lv,ic),(lv,li)] (JQ (.ptr la (b+5) 0 0 0) r lv li q.ver (r.h+1) q.es q.vis ((a0:Int)+q.i)):=by
     intro w st' e1 e2;refine ⟨_,?_,?_,hI,e1,e2⟩
     ·show i=_
      rw [fw,hdrop,ZBw,hP];simp
     ·show p=min ((a0:Int)+i) (s.length-1);omega
    rw [hP] at hMo;unfold Jz at hc
    repeat' (first|refine Z7 rfl (hc _) rfl rfl ?_|refine Zf2 rfl (hb2 _) ?_|refine ZMQ rfl rfl (by omega) hix ?_|refine ZA rfl rfl hwk (hMo _) ?_|refine ZE ?_|refine ZD ?_|refine ZG rfl ?_|refine ZJ rfl rfl ?_|refine ZU rfl rfl rfl rfl ?_|refine Zv rfl rfl ?_|refine ZB rfl ?_|refine ZC ?_|refine Ze rfl rfl ?_|refine JP rfl ?_|refine Qc rfl ?_|(refine Zk rfl rfl (fun _=>?_) (fun _=>?_)<;>try (exfalso;omega))|(refine J5 rfl rfl (fun _=>?_) (fun _=>?_)<;>try (exfalso;omega))|refine ZS rfl ?_|refine ZH rfl ?_|refine Y9 rfl rfl ?_|refine Qj rfl rfl (by omega) ?_|refine ZA rfl rfl rfl (hLf _) ?_|refine ZI ?_|refine ZP ?_|refine Zz ?_|refine ZQ ?_|refine ZO ?_|refine Zg ?_|refine Zd rfl ?_|refine ZOh rfl ?_|refine Zx ?_)
    all_goals try contradiction
    all_goals try (exfalso;omega)
    exact ⟨_,_,Za hB (.inr rfl) rfl rfl rfl rfl rfl,hfin _ _ rfl rfl⟩
   | true =>
    have hTk:=fun T=>Zol (A:=B) (T:=T) (v:=v) (l:=(s.drop a0).take i) (by omega) c
    rw [htl] at hTk
    have htake:(s.drop a0).take i++[c]=(s.drop a0).take (i+1):=by
     rw [ZQd (k:=i) (x:=c)];rw [List.getElem?_drop];exact hcb
    rw [htake] at hTk;rw [hP] at hMo
    have hnext:∀ B2 T2,B2=(Z5 st [(lv,ic),(lv,li)] (JQ (.ptr la (b+5) 0 0 0) r lv li ver (r.h+1) es vis ((a0:Int)+i+1))).ps->B2.length=B.length->∃ q:FwS,([(0,AV.ptr lv ic 0 0 0),(1,.func (.func g) [] caps),(6,.ptr B.length 1 0 0 0),(7,.func (.func QC) [] [.ptr B.length 1 0 0 0])]=(0,AV.ptr lv ic 0 0 0)::(1,.func (.func g) [] caps)::(6,.ptr q.B.length 1 0 0 0)::(7,.func (.func QC) [] [.ptr q.B.length 1 0 0 0])::q.xs /\
     (⟨B2,false,.arr 1 (v+1) (Zw ((s.drop a0).take (i+1)))::.arr 1 0 [.ref B.length 0 (v+1) 0 (i+1)]::T2⟩:St)=⟨q.B,false,.arr 1 q.v (Zw ((s.drop a0).take q.i))::.arr 1 0 [.ref q.B.length 0 q.v 0 q.i]::q.T⟩)/\FwI st lv ic li la b r N s r.h (Qg r) P a0 vis0 (min (a0:Int) (s.length-1)) q /\
     2*(s.length-(a0+q.i))+(if q.p=(a0:Int)+q.i then 0 else 1)<2*(s.length-(a0+i))+(if p=(a0:Int)+i then 0 else 1):=by
     intro B2 T2 e1 e2
     obtain ⟨p',hp',hps,hpv,hp0,hp1⟩:∃ p':Int,(p'=(a0:Int)+(i+1:Nat)\/(p'+1=(a0:Int)+(i+1:Nat)/\∀ lf,(QZ N p' r.h (Qg r))[r.h]?=some lf->lf.t=(a0:Int)+(i+1:Nat)))/\QZ N p' r.h (Qg r)=QZ N p r.h (Qg r)/\ZER N p' r.h (Qg r)=ZER N p r.h (Qg r)/\0<=p'/\p'<s.length:=by
      rcases Int.lt_or_le ((a0:Int)+i+1) lf.t with w|w
      ·obtain ⟨y1,y2⟩:=ZbH hN r.h (Qg r) lf rfl hlv (by omega) (by omega) g1 (a:=(a0:Int)+i+1) (by omega) w
       exact ⟨_,.inl (by omega),y1,y2,by omega,by omega⟩
      ·refine ⟨p,.inr ⟨by omega,fun lf' hlf'=>?_⟩,rfl,rfl,p0,p1⟩
       obtain rfl:lf=lf':=Option.some.inj (g1.symm.trans hlf');omega
     refine ⟨⟨i+1,p',ver,es,vis,B2,v+1,T2,[]⟩,⟨by simp only;rw [e2],by simp only;rw [e2]⟩,⟨?_,hle,by simp only;rw [hps];exact hes,by simp only;omega,⟨hp0,hp1⟩,hp',?_,by simp only;rw [hpv];exact vs,by simp only;omega⟩,?_⟩
     ·simp only
      rw [e1,show (a0:Int)+i+1=(a0:Int)+(i+1:Nat) by omega]
     ·simp only
      rw [fw,hdrop,ZBw,hP,if_pos rfl,Nat.add_assoc i 1,Nat.add_assoc a0 i 1]
     ·simp only
      split<;>first|omega|(split<;>omega)
    unfold Jz at hc
    repeat' (first|refine Z7 rfl (hc _) rfl rfl ?_|refine ZMQ rfl rfl (by omega) hix ?_|refine ZA rfl rfl hwk (hMo _) ?_|refine ZE ?_|refine ZD ?_|refine ZG rfl ?_|refine ZJ rfl rfl ?_|refine ZU rfl rfl rfl rfl ?_|refine Zv rfl rfl ?_|refine ZB rfl ?_|refine ZC ?_|refine Ze rfl rfl ?_|refine JP rfl ?_|refine Qc rfl ?_|(refine Zk rfl rfl (fun _=>?_) (fun _=>?_)<;>try (exfalso;omega))|(refine J5 rfl rfl (fun _=>?_) (fun _=>?_)<;>try (exfalso;omega))|refine ZS rfl ?_|refine ZH rfl ?_|refine Y9 rfl rfl ?_|refine Zq rfl rfl (by omega) ?_|refine Qj rfl rfl (by omega) ?_|refine ZA rfl rfl rfl (hLf _) ?_|refine ZA rfl rfl rfl (hTk _) ?_|refine ZI ?_|refine ZQ ?_)
    all_goals try contradiction
    all_goals try (exfalso;omega)
    refine ZgJ (j:=0) H hB rfl rfl rfl rfl rfl rfl rfl rfl rfl (fun B2 hB2 e2=>?_)
    have hn2:=fun T2=>hnext B2 T2 hB2 e2
    repeat' (first|exact hn2 _|refine ZB rfl ?_|refine QE ?_|refine QI ?_)
  ·-- behind the leaf
   have hpe:p+1=(a0:Int)+i/\lf.t=(a0:Int)+i:=by
    rcases pa with w|⟨w1,w⟩
    ·omega
    ·exact ⟨w1,w lf g1⟩
   have Hc:∀ L,Cl ⟨B,false,L⟩ [(lv,ic),(lv,li)] (JQ (.ptr la (b+5) 0 0 0) r lv li ver (r.h+1) es vis ((a0:Int)+i)):=fun L=>(H.put rfl rfl).push hB
   have hRc:∀ L,RdO ⟨B,false,L⟩ la (b+5) N [(lv,ic),(lv,li)]:=fun L=>by
    obtain ⟨a0',a1,im,a3,a4,a5,q1,q2,q3,q4⟩:=hR;exact ⟨a0',a1,im,a3,a4,a5,ZV hB ((H.out rfl rfl q3).trans q1),ZV hB ((H.out rfl rfl q4).trans q2),q3,q4⟩
   obtain ⟨w,st',hE,rfl,A2,L2,T2,ver2,es2,rfl,e2,f2,f3⟩:=Zhs (n:=r.h) (p:=p) (a:=(a0:Int)+i) (Hc (.arr 1 v (Zw ((s.drop a0).take i))::.arr 1 0 [.ref B.length 0 v 0 i]::T)) hla (hRc _) hN hlv rfl (by omega) (by omega) (by omega) (by omega) (by omega) hs (by omega) hle hes
   have hlek:∀ k∈[(lv,ic),(lv,li)],k.1<=(Z5 st [(lv,ic),(lv,li)] (JQ (.ptr la (b+5) 0 0 0) r lv li ver (r.h+1) es vis ((a0:Int)+i))).A.length:=by rw [ZGG];exact H.le
   rw [ZAQ hB hlek,ZEG H.nd rfl rfl] at e2;simp only [St.mk.injEq,true_and] at e2;obtain ⟨e2a,rfl⟩:=e2
   have hst:=ZbG hN r.h (Qg r) rfl hlv p (by omega) (by omega)
   have hcm:=ZdS N p (p+1) r.h (Qg r)
   have hBl:A2.length=B.length:=by rw [e2a,hB];simp [ZGG]
   rw [hpe.1] at hst hcm
   have hnext:∀ x y:AV,∃ q:FwS,([(0,AV.ptr lv ic 0 0 0),(1,.func (.func g) [] caps),(6,.ptr B.length 1 0 0 0),(7,.func (.func QC) [] [.ptr B.length 1 0 0 0]),(11,x),(49,y)]=(0,AV.ptr lv ic 0 0 0)::(1,.func (.func g) [] caps)::(6,.ptr q.B.length 1 0 0 0)::(7,.func (.func QC) [] [.ptr q.B.length 1 0 0 0])::q.xs /\
    (⟨A2,false,(.arr 1 v (Zw ((s.drop a0).take i))::.arr 1 0 [.ref B.length 0 v 0 i]::T)++T2⟩:St)=⟨q.B,false,.arr 1 q.v (Zw ((s.drop a0).take q.i))::.arr 1 0 [.ref q.B.length 0 q.v 0 q.i]::q.T⟩)/\FwI st lv ic li la b r N s r.h (Qg r) P a0 vis0 (min (a0:Int) (s.length-1)) q /\
    2*(s.length-(a0+q.i))+(if q.p=(a0:Int)+q.i then 0 else 1)<2*(s.length-(a0+i))+(if p=(a0:Int)+i then 0 else 1):=by
    intro x y
    refine ⟨⟨i,(a0:Int)+i,ver2,es2,_,A2,v,T++T2,[(11,x),(49,y)]⟩,⟨by simp only;rw [hBl],by simp only;rw [hBl];rfl⟩,⟨e2a,f2,f3,hai,by simp only;omega,.inl rfl,fw,by simp only;omega,by simp only;omega⟩,?_⟩
    simp only
    rw [if_pos trivial,if_neg (by omega)]
    omega
   unfold Jz at hc
   repeat' (first|exact hnext _ _|refine Z7 rfl (hc _) rfl rfl ?_|refine ZE ?_|refine ZD ?_|refine ZG rfl ?_|refine ZJ rfl rfl ?_|refine Zv rfl rfl ?_|refine ZB rfl ?_|refine ZC ?_|refine Ze rfl rfl ?_|(refine Zk rfl rfl (fun _=>?_) (fun _=>?_)<;>try (exfalso;omega))|(refine J5 rfl rfl (fun _=>?_) (fun _=>?_)<;>try (exfalso;omega))|(refine Zl rfl rfl (fun _=>?_) (fun _=>?_)<;>try (exfalso;omega))|refine ZS rfl ?_|refine ZH rfl ?_|refine ZA rfl rfl rfl (hLf _) ?_|refine ZA rfl rfl rfl (hE) ?_|refine ZI ?_|refine Zz ?_|refine ZQ ?_|refine Zg ?_|refine Zd rfl ?_|refine QI ?_)
   all_goals try contradiction
   all_goals try (exfalso;omega)
theorem RdO.putS {st:St} {ks:List (Nat × Nat)} {b0 bs:List Blk} {la ix:Nat} {N:ZL} (h:RdO st la ix N ks) (H:Cl st ks b0) (hl:bs.length=ks.length) (hn:bs.all noH=true):RdO (Z5 st ks bs) la ix N ks:=by
 obtain ⟨a0,a1,im,a3,a4,a5,h1,h2,h3,h4⟩:=h;exact ⟨a0,a1,im,a3,a4,a5,(H.out hl hn h3).trans h1,(H.out hl hn h4).trans h2,h3,h4⟩
structure CurN (st:St) (lv ic li la b:Nat) (r:Ro) (N:ZL) (s:List UInt8) (a:Nat) (vis:Int) (ver:Nat) (es:List AV):Prop where
 cl:Cl st [(lv,ic),(lv,li)] (JQ (.ptr la (b+5) 0 0 0) r lv li ver (r.h+1) es vis a)
 le:r.h+1<=es.length
 es:es.take (r.h+1)=(QZ N (min (a:Int) (s.length-1)) r.h (Qg r)).map (CLv.av N)
def ZOS (N:ZL) (r:Ro) (s:List UInt8) (a:Nat):Nat:=ZER N (min (a:Int) (s.length-1)) r.h (Qg r)
section
variable {st:St} {lv ic li ver la b:Nat} {r:Ro} {es:List AV} {vis:Int} {N:ZL} {s:List UInt8} {a:Nat}
theorem Zom (H:CurN st lv ic li la b r N s a vis ver es) (hla:la<=lv) (hR:RdO st la (b+5) N [(lv,ic),(lv,li)]) (hN:GoodN N) (h:Rt N r s) (h0:r.at_≠0) (hs:s.length<=100000) (ha:a<=s.length) (hv:0<=vis/\vis<700000000) (n:Int) (hn:0<=n) :
 ∃ ver2 es2 vis2 k,k=ZBw (fun i _=>decide ((i:Int)<n)) 0 (s.drop a)/\S Tb JU [.ptr lv ic 0 0 0,.int .i64 n] st=some (.tup [.str ((s.drop a).take k),.int .i64 0],Z5 st [(lv,ic),(lv,li)] (JQ (.ptr la (b+5) 0 0 0) r lv li ver2 (r.h+1) es2 vis2 ((a+k:Nat):Int))) /\
  CurN (Z5 st [(lv,ic),(lv,li)] (JQ (.ptr la (b+5) 0 0 0) r lv li ver2 (r.h+1) es2 vis2 ((a+k:Nat):Int))) lv ic li la b r N s (a+k) vis2 ver2 es2/\vis2+ZOS N r s a=vis+ZOS N r s (a+k)/\vis<=vis2/\vis2<=vis+20*k+20:=by
 obtain ⟨A,hA⟩:∃ A,A=st.ps:=⟨_,rfl⟩;have H1:Cl ⟨A,false,[.arr 1 0 [.int .i64 n]]⟩ [(lv,ic),(lv,li)] _:=H.cl.push hA;have hR1:=hR.push (L:=[.arr 1 0 [.int .i64 n]]) hA;have hlt:∀ k∈[(lv,ic),(lv,li)],k.1<=st.A.length:=H.cl.le
 have hAl:A.length=st.A.length+1:=by rw [hA];simp
 have hlv:lv<=st.A.length:=hlt (lv,ic) (by simp)
 have hM:More ⟨A,false,[.arr 1 0 [.int .i64 n]]⟩ [(lv,ic),(lv,li)] YK [.ptr A.length 0 0 0 0] (fun i _=>decide ((i:Int)<n)):=by
  refine ⟨fun bs B L i c hB hl hno hi=>?_,fun i c=>rfl⟩
  have hg:St.get ⟨B,false,L⟩ A.length 0=some (.arr 1 0 [.int .i64 n]):=ZV hB ((H1.out hl hno (by simp;omega)).trans (by rw [St.get_cur];rfl))
  refine QF rfl (fun B1 hA=>?_)
  have g0:=fun L=>ZV hA (ro:=false) (L:=L) hg
  repeat' (first|refine Z7 rfl (g0 _) rfl rfl ?_|refine ZE ?_|refine ZD ?_|refine ZG rfl ?_|refine ZB rfl ?_|refine ZC ?_|(refine Zk rfl rfl (fun _=>?_) (fun _=>?_)<;>try (exfalso;omega))|refine ZP ?_|refine ZO ?_)
  all_goals refine Za hA (by first|exact .inl rfl|exact .inr rfl) rfl rfl rfl rfl ?_
  ·rw [decide_eq_true (by assumption)]
  ·rw [decide_eq_false (by omega)]
 obtain ⟨ver2,es2,vis2,hF,f1,f2,f3,f4,f5⟩:=ZbI H1 hla hR1 hN h h0 hs ha hv H.le H.es hM;refine ⟨ver2,es2,vis2,_,rfl,?_,⟨H.cl.put rfl rfl,f1,f2⟩,f3,f4,f5⟩
 generalize ZBw (fun i _=>decide ((i:Int)<n)) 0 (s.drop a)=k at *
 rw [ZAQ hA hlt] at hF;have hRe:=ZTo hN h ((H.cl.push hA (ro:=false) (L:=[.arr 1 0 [.int .i64 n]])).get 0 lv ic _ rfl rfl) (hR.push hA (L:=[.arr 1 0 [.int .i64 n]])).rd
 refine ZEK rfl (fun A' hA'=>?_)
 obtain rfl:A'=A:=hA'.trans hA.symm
 have hBl:(Z5 st [(lv,ic),(lv,li)] (JQ (.ptr la (b+5) 0 0 0) r lv li ver2 (r.h+1) es2 vis2 ((a+k:Nat):Int))).ps.length=A'.length:=by simp [ZGG,hA]
 obtain ⟨B,hB⟩:∃ B,B=(Z5 st [(lv,ic),(lv,li)] (JQ (.ptr la (b+5) 0 0 0) r lv li ver2 (r.h+1) es2 vis2 ((a+k:Nat):Int))).ps:=⟨_,rfl⟩;rw [<- hB] at hF
 repeat' (first|refine ZE ?_|refine ZD ?_|refine ZG rfl ?_|refine ZU rfl rfl rfl rfl ?_|refine Zv rfl rfl ?_|refine ZB rfl ?_|refine ZC ?_|(refine Zk rfl rfl (fun _=>?_) (fun _=>?_)<;>try (exfalso;omega))|(refine Zl rfl rfl (fun _=>?_) (fun _=>?_)<;>try (exfalso;omega))|refine ZH rfl ?_|refine ZEf rfl rfl ?_|refine Zn rfl rfl rfl ?_|refine ZA rfl rfl rfl (hRe) ?_|refine ZA rfl rfl rfl (hF) ?_|refine ZI ?_|refine ZP ?_|refine ZO ?_)
 all_goals try contradiction
 all_goals try (exfalso;omega)
 exact Za hB (.inr rfl) rfl rfl rfl rfl rfl
def ZlW (c:UInt8):Bool:=decide (128<=c.toNat/\c.toNat<192)
theorem Zon (c:UInt8) (st:St):S Tb ZDT [.int .u8 c.toNat] st=some (.bool (ZlW c),st):=by
 refine QF rfl (fun A hA=>?_)
 unfold ZlW
 repeat' (first|refine ZE ?_|refine ZD ?_|refine ZG rfl ?_|refine QD rfl ?_|refine JW rfl rfl ?_|refine Zj rfl rfl rfl rfl ?_|refine ZB rfl ?_|refine ZC ?_|(refine Zk rfl rfl (fun _=>?_) (fun _=>?_)<;>try (exfalso;omega))|(refine J5 rfl rfl (fun _=>?_) (fun _=>?_)<;>try (exfalso;omega))|refine ZP ?_|refine ZO ?_)
 all_goals refine Za hA (by first|exact .inl rfl|exact .inr rfl) rfl rfl rfl rfl ?_
 ·rw [decide_eq_true (by omega)]
 ·rw [decide_eq_false (by omega)]
 ·rw [decide_eq_false (by omega)]
def ZfK (i:Nat) (c:UInt8):Bool:=decide (i=0) || ZlW c
theorem Zoo (H:CurN st lv ic li la b r N s a vis ver es) (hla:la<=lv) (hR:RdO st la (b+5) N [(lv,ic),(lv,li)]) (hN:GoodN N) (h:Rt N r s) (h0:r.at_≠0) (hs:s.length<=100000) (ha:a<s.length) (hv:0<=vis/\vis<700000000) :
 ∃ ver2 es2 vis2 k,k=ZBw ZfK 0 (s.drop a)/\S Tb Jw [.ptr lv ic 0 0 0] st=some (.tup [.str ((s.drop a).take k),.int .i64 0],Z5 st [(lv,ic),(lv,li)] (JQ (.ptr la (b+5) 0 0 0) r lv li ver2 (r.h+1) es2 vis2 ((a+k:Nat):Int))) /\
  CurN (Z5 st [(lv,ic),(lv,li)] (JQ (.ptr la (b+5) 0 0 0) r lv li ver2 (r.h+1) es2 vis2 ((a+k:Nat):Int))) lv ic li la b r N s (a+k) vis2 ver2 es2/\vis2+ZOS N r s a=vis+ZOS N r s (a+k)/\vis<=vis2/\vis2<=vis+20*k+20:=by
 obtain ⟨A,hA⟩:∃ A,A=st.ps:=⟨_,rfl⟩;have H1:Cl ⟨A,false,[]⟩ [(lv,ic),(lv,li)] _:=H.cl.push hA;have hR1:=hR.push (L:=[]) hA;have hlt:∀ k∈[(lv,ic),(lv,li)],k.1<=st.A.length:=H.cl.le;have hmb:r.m.b=s.length:=(h.b hN).2
 have hM:More ⟨A,false,[]⟩ [(lv,ic),(lv,li)] YL [] ZfK:=by
  refine ⟨fun bs B L i c hB hl hno hi=>?_,fun i c=>rfl⟩
  refine QF rfl (fun B1 hA=>?_)
  have hC:=fun st=>Zon c st
  unfold ZfK
  by_cases hi0:i=0
  ·subst hi0
   repeat' (first|refine ZE ?_|refine ZD ?_|refine ZG rfl ?_|refine JW rfl rfl ?_|refine Zj rfl rfl rfl rfl ?_|refine ZB rfl ?_|refine ZC ?_|(refine Zi rfl rfl (fun _=>?_) (fun _=>?_)<;>try (exfalso;omega))|refine ZP ?_|refine ZO ?_)
   all_goals try contradiction
   all_goals try (exfalso;omega)
   all_goals refine Za hA (by first|exact .inl rfl|exact .inr rfl) rfl rfl rfl rfl ?_
   all_goals rfl
  ·have:((i:Nat):Int)≠0:=by omega
   repeat' (first|refine ZE ?_|refine ZD ?_|refine ZG rfl ?_|refine QD rfl ?_|refine Zj rfl rfl rfl rfl ?_|refine ZB rfl ?_|refine ZC ?_|(refine Zi rfl rfl (fun _=>?_) (fun _=>?_)<;>try (exfalso;omega))|refine ZA rfl rfl rfl (hC _) ?_|refine ZP ?_|refine ZO ?_)
   all_goals try contradiction
   all_goals try (exfalso;omega)
   all_goals refine Za hA (by first|exact .inl rfl|exact .inr rfl) rfl rfl rfl rfl ?_
   all_goals simp [hi0]
 obtain ⟨ver2,es2,vis2,hF,f1,f2,f3,f4,f5⟩:=ZbI H1 hla hR1 hN h h0 hs (Nat.le_of_lt ha) hv H.le H.es hM;refine ⟨ver2,es2,vis2,_,rfl,?_,⟨H.cl.put rfl rfl,f1,f2⟩,f3,f4,f5⟩
 generalize ZBw ZfK 0 (s.drop a)=k at *
 rw [ZAQ hA hlt] at hF;have hRe:=ZTo hN h ((H.cl.push hA (ro:=false) (L:=[])).get 0 lv ic _ rfl rfl) (hR.push hA (L:=[])).rd;have hg:=(H.cl.push hA (ro:=false) (L:=[])).get 0 lv ic _ rfl rfl
 refine ZEK rfl (fun A' hA'=>?_)
 obtain rfl:A'=A:=hA'.trans hA.symm;obtain ⟨B,hB⟩:∃ B,B=(Z5 st [(lv,ic),(lv,li)] (JQ (.ptr la (b+5) 0 0 0) r lv li ver2 (r.h+1) es2 vis2 ((a+k:Nat):Int))).ps:=⟨_,rfl⟩;rw [<- hB] at hF;unfold Jz at hg
 have hne:((a:Nat):Int)≠r.m.b:=by omega
 repeat' (first|refine Z7 rfl hg rfl rfl ?_|refine ZE ?_|refine ZD ?_|refine ZG rfl ?_|refine ZJ rfl rfl ?_|refine Zv rfl rfl ?_|refine ZB rfl ?_|refine ZC ?_|refine Ze rfl rfl ?_|(refine Zi rfl rfl (fun _=>?_) (fun _=>?_)<;>try (exfalso;omega))|(refine Zl rfl rfl (fun _=>?_) (fun _=>?_)<;>try (exfalso;omega))|refine ZH rfl ?_|refine ZA rfl rfl rfl (hRe) ?_|refine ZA rfl rfl rfl (hF) ?_|refine ZI ?_|refine ZP ?_|refine ZO ?_)
 all_goals try contradiction
 all_goals try (exfalso;omega)
 exact Za hB (.inr rfl) rfl rfl rfl rfl rfl
theorem ZlX {lev:AV} {at_:Int} (h0:st.get lv ic=some (Jz (.ptr la (b+5) 0 0 0) r lev vis at_)) (hb:0<=r.m.b/\r.m.b<=100000) (x:Int):S Tb Ym [.ptr lv ic 0 0 0,.int .i64 x] st=some (.int .i64 (min x (r.m.b-1)),st):=by
 refine QF rfl (fun A hA=>?_)
 have g0:=fun L=>ZV hA (ro:=false) (L:=L) h0
 unfold Jz at g0
 repeat' (first|refine Z7 rfl (g0 _) rfl rfl ?_|refine ZUc rfl rfl ?_|refine ZE ?_|refine ZD ?_|refine ZG rfl ?_|refine ZJ rfl rfl ?_|refine ZB rfl ?_|refine ZC ?_|refine Ze rfl rfl ?_|refine Qj rfl rfl (by omega) ?_|refine ZP ?_|refine ZO ?_)
 refine Za hA (by first|exact .inl rfl|exact .inr rfl) rfl rfl rfl rfl ?_
 rfl
theorem ZlY (H:CurN st lv ic li la b r N s a vis ver es) (hla:la<=lv) (hR:RdO st la (b+5) N [(lv,ic),(lv,li)]) (hN:GoodN N) (h:Rt N r s) (h0:r.at_≠0) (hs:s.length<=100000) (ha:a<=s.length) (hv:0<=vis/\vis<700000000) (x:Nat) (hx:x<=s.length) :
 ∃ ver2 es2 vis2,S Tb Qy [.ptr lv ic 0 0 0,.int .i64 x] st=some (.int .i64 0,Z5 st [(lv,ic),(lv,li)] (JQ (.ptr la (b+5) 0 0 0) r lv li ver2 (r.h+1) es2 vis2 x)) /\
  CurN (Z5 st [(lv,ic),(lv,li)] (JQ (.ptr la (b+5) 0 0 0) r lv li ver2 (r.h+1) es2 vis2 x)) lv ic li la b r N s x vis2 ver2 es2/\vis2=vis+((r.h+1-cmL N (min (a:Int) (s.length-1)) (min (x:Int) (s.length-1)) r.h (Qg r):Nat):Int):=by
 obtain ⟨hlv,ht,hpos⟩:=h.lv hN h0;have h13:=h.rt.h13 hN;have hmb:r.m.b=s.length:=(h.b hN).2;have hrf:(Qg r).f=0:=rfl;have hlt:∀ k∈[(lv,ic),(lv,li)],k.1<=st.A.length:=H.cl.le
 suffices hm:Sp Tb Qy [.ptr lv ic 0 0 0,.int .i64 x] st (fun v st'=>v=.int .i64 0/\∃ ver2 es2,st'=Z5 st [(lv,ic),(lv,li)] (JQ (.ptr la (b+5) 0 0 0) r lv li ver2 (r.h+1) es2 (vis+((r.h+1-cmL N (min (a:Int) (s.length-1)) (min (x:Int) (s.length-1)) r.h (Qg r):Nat):Int)) x)/\r.h+1<=es2.length/\es2.take (r.h+1)=(QZ N (min (x:Int) (s.length-1)) r.h (Qg r)).map (CLv.av N)) by
  obtain ⟨v,st',hS,rfl,ver2,es2,rfl,f1,f2⟩:=hm;exact ⟨ver2,es2,_,hS,⟨H.cl.put rfl rfl,f1,f2⟩,rfl⟩
 refine ZhM (rfl:Tb Qy=some (.pf Yp)) ?_;obtain ⟨A,hA⟩:∃ A,A=st.ps:=⟨_,rfl⟩
 show Ru _ _ _ _ _ ⟨st.ps,false,[]⟩
 rw [<- hA]
 have hA0:A=(Z5 st [(lv,ic),(lv,li)] (JQ (.ptr la (b+5) 0 0 0) r lv li ver (r.h+1) es vis a)).ps:=by rw [H.cl.same];exact hA
 repeat' (first|refine ZE ?_|refine ZD ?_|refine ZG rfl ?_|refine ZJ rfl rfl ?_|refine ZB rfl ?_|refine ZC ?_|refine Ze rfl rfl ?_)
 refine ZgJ (j:=0) H.cl hA0 rfl rfl rfl rfl rfl rfl rfl rfl rfl (fun B hB e1=>?_)
 have hB':B=(Z5 st [(lv,ic),(lv,li)] (JQ (.ptr la (b+5) 0 0 0) r lv li ver (r.h+1) es vis x)).ps:=hB;have Hc:=(H.cl.put (bs':=JQ (.ptr la (b+5) 0 0 0) r lv li ver (r.h+1) es vis x) rfl rfl).push hB' (ro:=false) (L:=[]);have hg:=Hc.get 0 lv ic _ rfl rfl
 have hSt:=ZlX hg (by omega) (x:Int)
 rw [hmb] at hSt
 obtain ⟨v,st',hE,rfl,A2,L2,T2,ver2,es2,rfl,e2,f2,f3⟩:=Zhs (n:=r.h) (p:=min (a:Int) (s.length-1)) (a:=min (x:Int) (s.length-1)) Hc hla ((hR.putS H.cl rfl rfl).push hB') hN hlv rfl (by omega) (by omega) (by omega) (by omega) (by omega) hs (by omega) H.le H.es
 have hlek:∀ k∈[(lv,ic),(lv,li)],k.1<=(Z5 st [(lv,ic),(lv,li)] (JQ (.ptr la (b+5) 0 0 0) r lv li ver (r.h+1) es vis x)).A.length:=by rw [ZGG];exact hlt
 rw [ZAQ hB' hlek,ZEG H.cl.nd rfl rfl] at e2;simp only [St.mk.injEq,true_and] at e2;obtain ⟨e2a,rfl⟩:=e2
 have hzi:((r.at_:Nat):Int)≠0:=by omega
 unfold Jz at hg
 repeat' (first|refine Z7 rfl hg rfl rfl ?_|refine ZE ?_|refine ZD ?_|refine ZG rfl ?_|refine ZJ rfl rfl ?_|refine ZB rfl ?_|refine ZC ?_|refine Ze rfl rfl ?_|(refine Zi rfl rfl (fun _=>?_) (fun _=>?_)<;>try (exfalso;omega))|refine ZH rfl ?_|refine ZA rfl rfl rfl (hSt) ?_|refine ZA rfl rfl rfl (hE) ?_|refine ZI ?_|refine ZP ?_|refine ZO ?_)
 all_goals try contradiction
 all_goals try (exfalso;omega)
 exact ⟨_,_,Za e2a (.inr rfl) rfl rfl rfl rfl rfl,rfl,ver2,es2,rfl,f2,f3⟩
theorem Zop (H:CurN st lv ic li la b r N s a vis ver es) (hla:la<=lv) (hR:RdO st la (b+5) N [(lv,ic),(lv,li)]) (hN:GoodN N) (h:Rt N r s) (h0:r.at_≠0) (hs:s.length<=100000) (ha:a<=s.length) (hv:0<=vis/\vis<700000000) (x:Nat) (hx:x<=s.length) :
 ∃ ver2 es2 vis2,S Tb QS [.ptr lv ic 0 0 0,.int .i64 x] st=some (.int .i64 0,Z5 st [(lv,ic),(lv,li)] (JQ (.ptr la (b+5) 0 0 0) r lv li ver2 (r.h+1) es2 vis2 x)) /\
  CurN (Z5 st [(lv,ic),(lv,li)] (JQ (.ptr la (b+5) 0 0 0) r lv li ver2 (r.h+1) es2 vis2 x)) lv ic li la b r N s x vis2 ver2 es2/\vis2=vis+((r.h+1-cmL N (min (a:Int) (s.length-1)) (min (x:Int) (s.length-1)) r.h (Qg r):Nat):Int):=by
 obtain ⟨A,hA⟩:∃ A,A=st.ps:=⟨_,rfl⟩;have hlt:∀ k∈[(lv,ic),(lv,li)],k.1<=st.A.length:=H.cl.le;have hmb:r.m.b=s.length:=(h.b hN).2;have H1:CurN ⟨A,false,[]⟩ lv ic li la b r N s a vis ver es:=⟨H.cl.push hA,H.le,H.es⟩;obtain ⟨ver2,es2,vis2,hJ,hC,hvis⟩:=ZlY H1 hla (hR.push hA) hN h h0 hs ha hv x hx;refine ⟨ver2,es2,vis2,?_,⟨H.cl.put rfl rfl,hC.le,hC.es⟩,hvis⟩;rw [ZAQ hA hlt] at hJ;have hg:=H1.cl.get 0 lv ic _ rfl rfl;have hRe:=ZTo hN h hg (hR.push hA (L:=[])).rd
 refine ZEK rfl (fun A' hA'=>?_)
 obtain rfl:A'=A:=hA'.trans hA.symm;obtain ⟨B,hB⟩:∃ B,B=(Z5 st [(lv,ic),(lv,li)] (JQ (.ptr la (b+5) 0 0 0) r lv li ver2 (r.h+1) es2 vis2 x)).ps:=⟨_,rfl⟩;rw [<- hB] at hJ;unfold Jz at hg
 repeat' (first|refine Z7 rfl hg rfl rfl ?_|refine ZE ?_|refine ZD ?_|refine ZG rfl ?_|refine ZJ rfl rfl ?_|refine QD rfl ?_|refine Zj rfl rfl rfl rfl ?_|refine ZB rfl ?_|refine ZC ?_|refine Ze rfl rfl ?_|(refine Zk rfl rfl (fun _=>?_) (fun _=>?_)<;>try (exfalso;omega))|(refine QL rfl rfl (fun _=>?_) (fun _=>?_)<;>try (exfalso;omega))|(refine Zl rfl rfl (fun _=>?_) (fun _=>?_)<;>try (exfalso;omega))|refine ZH rfl ?_|refine ZA rfl rfl rfl (hRe) ?_|refine ZA rfl rfl rfl (hJ) ?_|refine ZI ?_|refine ZP ?_|refine ZO ?_)
 all_goals try contradiction
 all_goals try (exfalso;omega)
 exact Za hB (.inr rfl) rfl rfl rfl rfl rfl
theorem ZlZ (H:CurN st lv ic li la b r N s a vis ver es) (hR:RdO st la (b+5) N [(lv,ic),(lv,li)]) (hN:GoodN N) (h:Rt N r s) (x:Int) (hx:x<0\/(s.length:Int)<x):S Tb QS [.ptr lv ic 0 0 0,.int .i64 x] st=some (.int .i64 3,st):=by
 refine QF rfl (fun A hA=>?_)
 have hmb:r.m.b=s.length:=(h.b hN).2;have hRe:=ZTo hN h ((H.cl.push hA (ro:=false) (L:=[])).get 0 lv ic _ rfl rfl) (hR.push hA (L:=[])).rd;have hg:=(H.cl.push hA (ro:=false) (L:=[])).get 0 lv ic _ rfl rfl;unfold Jz at hg
 repeat' (first|refine Z7 rfl hg rfl rfl ?_|refine ZE ?_|refine ZD ?_|refine ZG rfl ?_|refine ZJ rfl rfl ?_|refine QD rfl ?_|refine JW rfl rfl ?_|refine Zj rfl rfl rfl rfl ?_|refine ZB rfl ?_|refine ZC ?_|refine Ze rfl rfl ?_|(refine Zk rfl rfl (fun _=>?_) (fun _=>?_)<;>try (exfalso;omega))|(refine QL rfl rfl (fun _=>?_) (fun _=>?_)<;>try (exfalso;omega))|(refine Zl rfl rfl (fun _=>?_) (fun _=>?_)<;>try (exfalso;omega))|refine ZS rfl ?_|refine ZH rfl ?_|refine ZA rfl rfl rfl (hRe) ?_|refine ZI ?_|refine ZP ?_|refine ZO ?_|refine ZY ?_)
 all_goals try contradiction
 all_goals try (exfalso;omega)
 all_goals refine Za hA (by first|exact .inl rfl|exact .inr rfl) rfl rfl rfl rfl ?_
 all_goals rfl
theorem at_c {ap lev:AV} {at_:Int} (h0:st.get lv ic=some (Jz ap r lev vis at_)):S Tb Jm [.ptr lv ic 0 0 0] st=some (.int .i64 at_,st):=by
 refine QF rfl (fun A hA=>?_)
 have g0:=fun L=>ZV hA (ro:=false) (L:=L) h0
 unfold Jz at g0
 repeat' (first|refine Z7 rfl (g0 _) rfl rfl ?_|refine ZE ?_|refine ZD ?_|refine ZG rfl ?_|refine ZJ rfl rfl ?_|refine ZB rfl ?_|refine ZC ?_|refine Ze rfl rfl ?_|refine ZH rfl ?_|refine Qm rfl rfl rfl rfl ?_|refine ZI ?_|refine ZP ?_|refine ZO ?_)
 all_goals refine Za hA (by first|exact .inl rfl|exact .inr rfl) rfl rfl rfl rfl ?_
 all_goals rfl
theorem visited_c {ap lev:AV} {at_:Int} (h0:st.get lv ic=some (Jz ap r lev vis at_)):S Tb Zr [.ptr lv ic 0 0 0] st=some (.int .i64 vis,st):=by
 refine QF rfl (fun A hA=>?_)
 have g0:=fun L=>ZV hA (ro:=false) (L:=L) h0
 unfold Jz at g0
 repeat' (first|refine Z7 rfl (g0 _) rfl rfl ?_|refine ZE ?_|refine ZD ?_|refine ZG rfl ?_|refine ZJ rfl rfl ?_|refine ZB rfl ?_|refine ZC ?_|refine Ze rfl rfl ?_|refine ZH rfl ?_|refine Qm rfl rfl rfl rfl ?_|refine ZI ?_|refine ZP ?_|refine ZO ?_)
 all_goals refine Za hA (by first|exact .inl rfl|exact .inr rfl) rfl rfl rfl rfl ?_
 all_goals rfl
end
def RdM (st:St) (la ix im:Nat) (N:ZL):Prop:=∃ a0 a1 a3 a4 a5,st.get la ix=some (.arr 6 0 [.agg [a0,a1,.map la im,a3,a4,a5]])/\st.get la im=some (.map (N.map nodeAV))
theorem RdM.rd {st:St} {la ix im:Nat} {N:ZL} (h:RdM st la ix im N):Rd st la ix N:=by
 obtain ⟨a0,a1,a3,a4,a5,h1,h2⟩:=h;exact ⟨a0,a1,im,a3,a4,a5,h1,h2⟩
theorem RdM.app {A:List (Bool × List Blk)} {L:List Blk} {la ix im:Nat} {N:ZL} (h:RdM ⟨A,false,L⟩ la ix im N) (T:List Blk):RdM ⟨A,false,L++T⟩ la ix im N:=by
 obtain ⟨a0,a1,a3,a4,a5,h1,h2⟩:=h;exact ⟨a0,a1,a3,a4,a5,Ys h1,Ys h2⟩
structure Stay (X X':List Blk) (ic li:Nat):Prop where
 len:X'.length=X.length
 get:∀ i,i≠ic->i≠li->X'[i]?=X[i]?
structure CurL (A:List (Bool × List Blk)) (X:List Blk) (ic li la b im:Nat) (r:Ro) (N:ZL) (s:List UInt8) (a:Nat) (vis:Int):Prop where
 ex:∃ ver es,CurN ⟨A,false,X⟩ A.length ic li la b r N s a vis ver es
 rd:RdM ⟨A,false,X⟩ la (b+5) im N
 n5:¬ (la=A.length/\(b+5=ic\/b+5=li))
 nm:¬ (la=A.length/\(im=ic\/im=li))
 la:la<=A.length
section
variable {A:List (Bool × List Blk)} {X:List Blk} {ic li la b im:Nat} {r:Ro} {N:ZL} {s:List UInt8} {a:Nat} {vis:Int}
theorem CurL.rdo (h:CurL A X ic li la b im r N s a vis):RdO ⟨A,false,X⟩ la (b+5) N [(A.length,ic),(A.length,li)]:=by
 obtain ⟨a0,a1,a3,a4,a5,h1,h2⟩:=h.rd;have n5:=h.n5;have nm:=h.nm
 refine ⟨a0,a1,im,a3,a4,a5,h1,h2,?_,?_⟩<;>simp only [List.mem_cons,jP,List.not_mem_nil,or_false]<;>omega
theorem Zla (X:List Blk) (b0 b1:Blk):Z5 ⟨A,false,X⟩ [(A.length,ic),(A.length,li)] [b0,b1]=⟨A,false,(X.set ic b0).set li b1⟩:=by
 simp [Z5,St.upd]
theorem ZpL (X:List Blk) (b0 b1:Blk):Stay X ((X.set ic b0).set li b1) ic li :=
 ⟨by simp,fun i h1 h2=>by rw [jS (fun q=>h2 q.symm),jS (fun q=>h1 q.symm)]⟩
theorem CurL.to (h:CurL A X ic li la b im r N s a vis) {a2:Nat} {vis2:Int} {ver2:Nat} {es2:List AV} (q:CurN (Z5 ⟨A,false,X⟩ [(A.length,ic),(A.length,li)] (JQ (.ptr la (b+5) 0 0 0) r A.length li ver2 (r.h+1) es2 vis2 a2)) A.length ic li la b r N s a2 vis2 ver2 es2) :
 ∃ X',Z5 ⟨A,false,X⟩ [(A.length,ic),(A.length,li)] (JQ (.ptr la (b+5) 0 0 0) r A.length li ver2 (r.h+1) es2 vis2 a2)=⟨A,false,X'⟩/\CurL A X' ic li la b im r N s a2 vis2/\Stay X X' ic li:=by
 obtain ⟨ver,es,w⟩:=h.ex
 refine ⟨_,Zla X _ _,⟨⟨ver2,es2,by rw [<- Zla];exact q⟩,?_,h.n5,h.nm,h.la⟩,ZpL X _ _⟩
 obtain ⟨a0,a1,im',a3,a4,a5,h1,h2,h3,h4⟩:=h.rdo;obtain ⟨c0,c1,c3,c4,c5,g1,g2⟩:=h.rd;rw [<- Zla];have n5:=h.n5;have nm:=h.nm
 refine ⟨c0,c1,c3,c4,c5,(w.cl.out rfl rfl ?_).trans g1,(w.cl.out rfl rfl ?_).trans g2⟩<;>simp only [List.mem_cons,jP,List.not_mem_nil,or_false]<;>omega
theorem CurL.at_c (h:CurL A X ic li la b im r N s a vis):S Tb Jm [.ptr A.length ic 0 0 0] ⟨A,false,X⟩=some (.int .i64 a,⟨A,false,X⟩):=by
 obtain ⟨ver,es,w⟩:=h.ex;exact Go.Q15.at_c (w.cl.get 0 _ _ _ rfl rfl)
theorem CurL.visited_c (h:CurL A X ic li la b im r N s a vis):S Tb Zr [.ptr A.length ic 0 0 0] ⟨A,false,X⟩=some (.int .i64 vis,⟨A,false,X⟩):=by
 obtain ⟨ver,es,w⟩:=h.ex;exact Go.Q15.visited_c (w.cl.get 0 _ _ _ rfl rfl)
section
variable (hN:GoodN N) (h:Rt N r s) (h0:r.at_≠0) (hs:s.length<=100000)
include hN h h0 hs
theorem CurL.read (hc:CurL A X ic li la b im r N s a vis) (ha:a<=s.length) (hv:0<=vis/\vis<700000000) (n:Int) (hn:0<=n) :
 ∃ X' vis2 k,k=ZBw (fun i _=>decide ((i:Int)<n)) 0 (s.drop a)/\S Tb JU [.ptr A.length ic 0 0 0,.int .i64 n] ⟨A,false,X⟩=some (.tup [.str ((s.drop a).take k),.int .i64 0],⟨A,false,X'⟩)/\CurL A X' ic li la b im r N s (a+k) vis2/\Stay X X' ic li/\vis2+ZOS N r s a=vis+ZOS N r s (a+k)/\vis<=vis2/\vis2<=vis+20*k+20:=by
 obtain ⟨ver,es,w⟩:=hc.ex;obtain ⟨ver2,es2,vis2,k,hk,f1,f2,f3,f4,f5⟩:=Zom w hc.la hc.rdo hN h h0 hs ha hv n hn;obtain ⟨X',e1,e2,e3⟩:=hc.to f2;rw [e1] at f1;exact ⟨X',vis2,k,hk,f1,e2,e3,f3,f4,f5⟩
theorem CurL.next (hc:CurL A X ic li la b im r N s a vis) (ha:a<s.length) (hv:0<=vis/\vis<700000000) :
 ∃ X' vis2 k,k=ZBw ZfK 0 (s.drop a)/\S Tb Jw [.ptr A.length ic 0 0 0] ⟨A,false,X⟩=some (.tup [.str ((s.drop a).take k),.int .i64 0],⟨A,false,X'⟩)/\CurL A X' ic li la b im r N s (a+k) vis2/\Stay X X' ic li/\vis2+ZOS N r s a=vis+ZOS N r s (a+k)/\vis<=vis2/\vis2<=vis+20*k+20:=by
 obtain ⟨ver,es,w⟩:=hc.ex;obtain ⟨ver2,es2,vis2,k,hk,f1,f2,f3,f4,f5⟩:=Zoo w hc.la hc.rdo hN h h0 hs ha hv;obtain ⟨X',e1,e2,e3⟩:=hc.to f2;rw [e1] at f1;exact ⟨X',vis2,k,hk,f1,e2,e3,f3,f4,f5⟩
theorem CurL.seek (hc:CurL A X ic li la b im r N s a vis) (ha:a<=s.length) (hv:0<=vis/\vis<700000000) (x:Nat) (hx:x<=s.length) :
 ∃ X' vis2,S Tb QS [.ptr A.length ic 0 0 0,.int .i64 x] ⟨A,false,X⟩=some (.int .i64 0,⟨A,false,X'⟩)/\CurL A X' ic li la b im r N s x vis2/\Stay X X' ic li/\vis2=vis+((r.h+1-cmL N (min (a:Int) (s.length-1)) (min (x:Int) (s.length-1)) r.h (Qg r):Nat):Int):=by
 obtain ⟨ver,es,w⟩:=hc.ex;obtain ⟨ver2,es2,vis2,f1,f2,f3⟩:=Zop w hc.la hc.rdo hN h h0 hs ha hv x hx;obtain ⟨X',e1,e2,e3⟩:=hc.to f2;rw [e1] at f1;exact ⟨X',vis2,f1,e2,e3,f3⟩
end
theorem ZfL (hN:GoodN N) (h:Rt N r s) (hs:s.length<=100000) (hR:RdM ⟨A,false,X⟩ la (b+5) im N) (hla:la<=A.length) :
 ∃ X' ic,S Tb ZBl [.ptr la (b+5) 0 0 0,r.av] ⟨A,false,X⟩=some (.tup [.ptr A.length ic 0 0 0,.int .i64 0],⟨A,false,X'⟩)/\X.length<=ic/\X.length<=X'.length/\(∀ i,i<X.length->X'[i]?=X[i]?) /\
  ((r.at_=0/\X'[ic]?=some (Jz (.ptr la (b+5) 0 0 0) r .nils 0 0))\/(r.at_≠0/\∃ li,X.length<=li/\CurL A X' ic li la b im r N s 0 ((r.h+1:Nat):Int))):=by
 have hCk:=fun T=>ZlS hN (hR.app T).rd h hs
 have hroot:∀ c:Blk,(X++[Blk.arr 5 0 [r.av]]++[c])[X.length]?=some (.arr 5 0 [r.av]):=fun c=>by rw [List.append_assoc,List.getElem?_append_right (Nat.le_refl _),Nat.sub_self];rfl
 by_cases h0:r.at_=0
 ·have hz:((r.at_:Nat):Int)=0:=by omega
  refine ⟨X++[.arr 5 0 [r.av]]++[Jz (.ptr la (b+5) 0 0 0) r .nils 0 0],(X++[Blk.arr 5 0 [r.av]]).length,XB rfl ?_,by simp only [lL,List.length_singleton];omega,by simp only [lL,List.length_singleton];omega,fun i hi=>by rw [List.append_assoc,jL hi],.inl ⟨h0,by rw [List.getElem?_append_right (Nat.le_refl _),Nat.sub_self];rfl⟩⟩
  unfold Ro.av Jz at *
  repeat' (first|refine ZU rfl (hroot _) rfl rfl ?_|refine ZE ?_|refine ZD ?_|refine ZG rfl ?_|refine ZJ rfl rfl ?_|refine ZB rfl ?_|refine ZC ?_|refine QP rfl rfl rfl ?_|(refine Zl rfl rfl (fun _=>?_) (fun _=>?_)<;>try (exfalso;omega))|refine ZH rfl ?_|refine Zo rfl rfl rfl ?_|refine Zt rfl rfl rfl ?_|refine ZA rfl rfl rfl (hCk _) ?_|refine ZI ?_|refine ZP ?_|refine ZO ?_)
  all_goals try contradiction
  all_goals exact JS (.inr rfl) rfl rfl rfl rfl
 ·have hz:((r.at_:Nat):Int)≠0:=by omega
  have hci:(X++[Blk.arr 5 0 [r.av]]++[Jz (.ptr la (b+5) 0 0 0) r .nils 0 0])[(X++[Blk.arr 5 0 [r.av]]).length]?=some (Jz (.ptr la (b+5) 0 0 0) r .nils 0 0):=by rw [List.getElem?_append_right (Nat.le_refl _),Nat.sub_self];rfl
  obtain ⟨a0,a1,a3,a4,a5,g1,g2⟩:=(hR.app [Blk.arr 5 0 [r.av]]).app [Jz (.ptr la (b+5) 0 0 0) r .nils 0 0];obtain ⟨v,st',hE,rfl,X',ver,es,rfl,f1,f2,f3,f4,f5⟩:=Zi8 hN h h0 hs hci hla ⟨a0,a1,im,a3,a4,a5,g1,g2⟩
  have hst:∀ i,i<X.length->X'[i]?=X[i]?:=fun i hi=>by
   rw [f5 i (by simp;omega) (by simp;omega),List.append_assoc,jL hi]
  have hin:∀ lv ix c,St.get ⟨A,false,X⟩ lv ix=some c->St.get ⟨A,false,X'⟩ lv ix=some c/\¬ (lv=A.length/\X.length<=ix):=by
   intro lv ix c q;rw [St.get] at q ⊢
   simp only at q ⊢
   by_cases w:lv=A.length
   ·rw [if_pos w] at q ⊢
    have hlt:=ZIF q;rw [hst ix hlt]
    exact ⟨q,fun e=>by omega⟩
   ·rw [if_neg w] at q ⊢
    exact ⟨q,fun e=>w e.1⟩
  obtain ⟨b0,b1,b3,b4,b5,k1,k2⟩:=hR;obtain ⟨k1',k1n⟩:=hin _ _ _ k1;obtain ⟨k2',k2n⟩:=hin _ _ _ k2
  refine ⟨X',(X++[Blk.arr 5 0 [r.av]]).length,XB rfl ?_,by simp,by simp at f4;omega,hst,.inr ⟨h0,(X++[Blk.arr 5 0 [r.av]]++[Jz (.ptr la (b+5) 0 0 0) r .nils 0 0]).length+1,by simp;omega,⟨ver,es,⟨f1,f2,by
   rw [f3];obtain ⟨_,_,hp⟩:=h.lv hN h0
   rw [show min ((0:Nat):Int) (s.length-1)=0 by omega]⟩⟩,⟨b0,b1,b3,b4,b5,k1',k2'⟩,?_,?_,hla⟩⟩
  ·unfold Ro.av Jz at *
   repeat' (first|refine ZU rfl (hroot _) rfl rfl ?_|refine ZE ?_|refine ZD ?_|refine ZG rfl ?_|refine ZJ rfl rfl ?_|refine ZB rfl ?_|refine ZC ?_|refine Ze rfl rfl ?_|refine QP rfl rfl rfl ?_|(refine Zl rfl rfl (fun _=>?_) (fun _=>?_)<;>try (exfalso;omega))|refine ZS rfl ?_|refine ZH rfl ?_|refine Zo rfl rfl rfl ?_|refine Zt rfl rfl rfl ?_|refine ZA rfl rfl rfl (hCk _) ?_|refine ZA rfl rfl rfl (hE) ?_|refine ZI ?_|refine ZP ?_|refine ZO ?_)
   all_goals try contradiction
   all_goals exact JS (.inr rfl) rfl rfl rfl rfl
  ·simp only [lL,List.length_singleton]
   omega
  ·simp only [lL,List.length_singleton]
   omega
end
theorem ZjA (A:List (Bool × List Blk)):S Tb XE [] ⟨A,false,[]⟩=some (.tup [.ptr A.length 6 0 0 0,exRo.av,.bool true],⟨A,false,[.arr 5 0 [exRo.av]]++(arB A.length 1 exR++[.arr 5 0 [exRo.av]])⟩):=by
 have hN:=Zhf 8 4 (by omega) (by omega) A [.arr 5 0 [Ro.zero.av]]
 have h1:=Zho (ZGP A [.arr 5 0 [Ro.zero.av]] [] (JA 8 4)) (ZXk 8 4 (by omega) (by omega)) ZOG exS (by decide) (by rw [Zn6];decide)
 rw [ZXj,Zn5] at h1
 change S Tb ZCD [.ptr A.length 6 0 0 0,.str exS] ⟨A,false,_⟩=some (_,⟨A,false,[.arr 5 0 [Ro.zero.av]]++(arB A.length 1 exR++[])⟩) at h1
 refine XB rfl ?_
 repeat' (first|refine ZE ?_|refine ZD ?_|refine ZG rfl ?_|refine QD rfl ?_|refine Zj rfl rfl rfl rfl ?_|refine Zv rfl rfl ?_|refine ZB rfl ?_|refine ZC ?_|(refine Zl rfl rfl (fun _=>?_) (fun _=>?_)<;>try (exfalso;omega))|refine ZH rfl ?_|refine Qm rfl rfl rfl rfl ?_|refine Zn rfl rfl rfl ?_|refine ZA rfl rfl rfl (hN) ?_|refine ZI ?_)
 all_goals try contradiction
 all_goals try (exfalso;omega)
 unfold exS at h1;refine ZA rfl rfl rfl h1 ?_
 change Is _ _ _ _ _ _ ⟨A,false,[.arr 5 0 [Ro.zero.av],exR.b0,exR.b1,exR.b2,exR.b3 A.length 1,exR.b4,exR.b5 A.length 1]⟩
 generalize hb0:exR.b0=b0 at *
 generalize hb1:exR.b1=b1 at *
 generalize hb2:exR.b2=b2 at *
 generalize hb3:exR.b3 A.length 1=b3 at *
 generalize hb4:exR.b4=b4 at *
 generalize hb5:exR.b5 A.length 1=b5 at *
 repeat' (first|refine ZEJ rfl rfl rfl rfl rfl rfl ?_|refine ZGL rfl rfl rfl rfl rfl rfl rfl ?_|refine ZE ?_|refine ZD ?_|refine ZG rfl ?_|refine ZJ rfl rfl ?_|refine ZU rfl rfl rfl rfl ?_|refine QD rfl ?_|refine Zj rfl rfl rfl rfl ?_|refine Zv rfl rfl ?_|refine ZB rfl ?_|refine ZC ?_|(refine Zi rfl rfl (fun _=>?_) (fun _=>?_)<;>try (exfalso;omega))|refine Zn rfl rfl rfl ?_|refine QB rfl rfl rfl rfl rfl rfl ?_|refine ZP ?_|refine ZO ?_)
 all_goals first|exact absurd rfl ‹_›|(refine (ZoO (.inr rfl) rfl rfl rfl rfl rfl).trans ?_;subst hb0 hb1 hb2 hb3 hb4 hb5;rfl)
theorem Zoq:ZOS exR.nodes exRo exS 0=ZOS exR.nodes exRo exS 1:=by decide +kernel
theorem ZbJ (st:St):S Tb Q8 [] st=some (.bool true,st):=by
 refine QF rfl (fun A hA=>?_)
 obtain ⟨o1,o2,o3⟩:=ZpJ;have hS:=ZjA A;generalize hX0:[Blk.arr 5 0 [exRo.av]]++(arB A.length 1 exR++[.arr 5 0 [exRo.av]])=X0 at hS
 have hHas:Has ⟨A,false,X0++[.arr 5 0 [exRo.av]]⟩ A.length 1 exR:=by
  rw [<- hX0]
  have:=ZGP A [.arr 5 0 [exRo.av]] ([.arr 5 0 [exRo.av]]++[.arr 5 0 [exRo.av]]) exR
  simpa [List.append_assoc] using this
 have hRM:RdM ⟨A,false,X0++[.arr 5 0 [exRo.av]]⟩ A.length (1+5) (1+4) exR.nodes:=⟨_,_,_,_,_,hHas.h5,hHas.h4⟩
 obtain ⟨X1,ic,hNew,c1,c2,c3,c4⟩:=ZfL (r:=exRo) o2 o3 (by decide) hRM (Nat.le_refl _)
 rcases c4 with ⟨z,_⟩|⟨z,li,c5,hc⟩
 ·exact absurd z (by decide)
 obtain ⟨X2,vis2,k,hk,hNx,hc2,_,hv2,_,_⟩:=hc.next o2 o3 z (by decide) (by decide) (by decide)
 have hk1:k=1:=by rw [hk];decide
 subst hk1
 have hvv:vis2=2:=by
  rw [Nat.zero_add,Zoq] at hv2
  have:exRo.h=1:=rfl
  rw [this] at hv2;omega
 subst hvv;have hAt:=hc2.at_c;have hVi:=hc2.visited_c;have hstr:(exS.drop 0).take 1=[97]:=rfl;rw [hstr] at hNx
 repeat' (first|refine ZE ?_|refine ZD ?_|refine ZG rfl ?_|refine QD rfl ?_|refine Zj rfl rfl rfl rfl ?_|refine Zv rfl rfl ?_|refine ZB rfl ?_|refine ZC ?_|refine QP rfl rfl rfl ?_|(refine Zi rfl rfl (fun _=>?_) (fun _=>?_)<;>try (exfalso;omega))|(refine Zl rfl rfl (fun _=>?_) (fun _=>?_)<;>try (exfalso;omega))|(refine Yv rfl rfl (fun _=>?_) (fun _=>?_)<;>try contradiction)|refine ZH rfl ?_|refine Y9 rfl rfl ?_|refine Qm rfl rfl rfl rfl ?_|refine Zt rfl rfl rfl ?_|refine Qv rfl rfl rfl rfl rfl rfl ?_|refine ZA rfl rfl rfl (hS) ?_|refine ZA rfl rfl rfl (hNew) ?_|refine ZA rfl rfl rfl (hNx) ?_|refine ZA rfl rfl rfl (hAt) ?_|refine ZA rfl rfl rfl (hVi) ?_|refine ZI ?_|refine ZP ?_|refine ZO ?_)
 all_goals try contradiction
 all_goals try (exfalso;omega)
 refine Za hA (by first|exact .inl rfl|exact .inr rfl) rfl rfl rfl rfl ?_
 rfl
set_option maxHeartbeats 16000000
def ltL (n:Nat) (r:AR) (v:Nat) (ros:List Ro) (G0:List Blk) (w:Nat) (ss:List (List UInt8)) (G1:List Blk):List Blk :=
 r.b0::r.b1::r.b2::r.b3 n 0::r.b4::r.b5 n 0::.arr 5 v (ros.map Ro.av)::(G0++.arr 1 w (ss.map .str)::G1)
section
variable {A:List (Bool × List Blk)} {r:AR} {v:Nat} {ros:List Ro} {G0:List Blk} {w:Nat} {ss:List (List UInt8)} {G1:List Blk}
theorem ZXu:Has ⟨A,false,ltL A.length r v ros G0 w ss G1⟩ A.length 0 r:=ZGP A [] (.arr 5 v (ros.map Ro.av)::(G0++.arr 1 w (ss.map .str)::G1)) r
theorem Zn8:Rd ⟨A,false,ltL A.length r v ros G0 w ss G1⟩ A.length 5 r.nodes:=(ZXu).r.rd
theorem Zor (r':AR):Q3 ⟨A,false,ltL A.length r v ros G0 w ss G1⟩ A.length 0 r'=⟨A,false,ltL A.length r' v ros G0 w ss G1⟩:=ZXj A [] (.arr 5 v (ros.map Ro.av)::(G0++.arr 1 w (ss.map .str)::G1)) r r'
theorem Zos {n:Nat}:(ltL n r v ros G0 w ss G1)[6]?=some (.arr 5 v (ros.map Ro.av)):=rfl
theorem lt_7 {n:Nat}:(ltL n r v ros G0 w ss G1)[7+G0.length]?=some (.arr 1 w (ss.map .str)):=by
 rw [show 7+G0.length=G0.length+7 by omega]
 show (G0++.arr 1 w (ss.map .str)::G1)[G0.length]?=_
 exact ZQV _ _ _
theorem Zlb {n:Nat} (b:Blk):ltL n r v ros G0 w ss G1++[b]=ltL n r v ros G0 w ss (G1++[b]):=by simp [ltL]
theorem Znn {n:Nat} (v':Nat) (x:Ro):(ltL n r v ros G0 w ss G1).set 6 (.arr 5 v' (ros.map Ro.av++[x.av]))=ltL n r v' (ros++[x]) G0 w ss G1:=by
 unfold ltL;rw [List.map_append];rfl
theorem Zno {n:Nat} (w':Nat) (s:List UInt8):(ltL n r v ros G0 w ss G1).set (7+G0.length) (.arr 1 w' (ss.map .str++[.str s]))=ltL n r v ros G0 w' (ss++[s]) G1:=by
 rw [show 7+G0.length=G0.length+7 by omega]
 unfold ltL;simp only [List.set_cons_succ,List.map_append]
 rw [show (G0++Blk.arr 1 w (ss.map .str)::G1).set G0.length (Blk.arr 1 w' (ss.map .str++[AV.str s]))=G0++Blk.arr 1 w' (ss.map .str++[AV.str s])::G1 by simp]
 rfl
end
theorem Zgr {ys:List Ed} {i:Nat} {y:Ed} (h:ys[i]?=some y):((ys.map Ed.av).drop i).take (i+1-i)=[y].map Ed.av:=by
 rw [<- List.map_drop,<- List.map_take,show i+1-i=1 by omega]
 obtain ⟨h1,h2⟩:=List.getElem?_eq_some_iff.1 h;rw [List.drop_eq_getElem_cons h1,h2];rfl
theorem Zlc (ys:List Ed):Q5 5 (ys.map Ed.av)=true:=by
 induction ys with
 | nil=>rfl
 | cons b s ih=>rw [jC,Q5,List.all_cons];exact Bool.and_eq_true_iff.2 ⟨rfl,ih⟩
theorem Zhv {O:Orc} {k:List Fr} {Q:Ju} {e:Env} {st:St} {keep:List Nat} {is:List QAbs.PI} {d:Nat} {ys:List Ed} {i:Nat} {y:Ed} {x a b:Opd} {z:Int} (hx:Zb e x=some (.lit (ys.map Ed.av))) (ha:Zb e a=some (.int .i64 i)) (hb:Zb e b=some (.int .i64 z)) (hz:z=i+1) (hy:ys[i]?=some y)
 (h:Is O is keep k Q ((d,.lit ([y].map Ed.av))::e) st):Is O (⟨some d,none,false,.slc 5 x (some a) (some b)⟩::is) keep k Q e st:=by
 have hlt:=(List.getElem?_eq_some_iff.1 hy).1;refine Zbl (r:=i+1) (l:=i) hx ?_ ?_ (Zlc _) ?_
 ·simp only [ZCm,ZF hb,JY,List.length_map]
  rw [if_pos (by omega)];congr 1;omega
 ·simp only [ZCm,ZF ha,JY]
  rw [if_pos (by omega)];rfl
 ·rw [Zgr hy];exact h
theorem Zot {texts:List (List UInt8)} {ys:List Ed} (hl:¬ ZQ9 texts) (hm:¬ ZXn ys):(texts.flatten.length<=900/\texts.length<=4)/\ys.length<=60/\∀ y∈ys,y.text.length<=200:=by
 refine ⟨?_,ZlF hm⟩
 have:=ZlG hl
 rw [List.length_flatten];omega
theorem Zgs {texts:List (List UInt8)} (h9:texts.flatten.length<=900):∀ s∈texts,s.length<=900:=by
 intro s hs;obtain ⟨i,hi,rfl⟩:=List.getElem_of_mem hs;have h1:=ZfD (l:=texts) (jE hi);have h2:=ZTn texts (i+1);rw [h1,lL] at h2;omega
theorem Zld (texts:List (List UInt8)) (hl:texts.flatten.length<=900):∀ i,i<=texts.length->(Y7 (texts.take i)).1.nodes.length+(Y7 (texts.take i)).1.n=1500:=by
 intro i
 induction i with
 | zero=>intro _;simp [Y7,JA]
 | succ i ih =>
  intro hi
  obtain ⟨s,hs⟩:∃ s,texts[i]?=some s:=⟨texts[i]'(by omega),by simp [show i<texts.length by omega]⟩
  have hl2:=ZTn texts (i+1)
  have h:=ZXm texts hl i (by omega)
  obtain ⟨hn,_⟩:=ZXl (s:=s) h (by rw [<- Zm hs];omega)
  have hfl:=ZfD hs
  have hs2:s.length<=900:=by rw [hfl,lL] at hl2;omega
  obtain ⟨b1,b2,b3⟩:=Xj h.good (show s.length<=65536 by omega)
  obtain ⟨w1,_⟩:=Zhn (ZGP [] [] [] _) h.ok h.good b1 (by rw [b3];omega) hn
  have h1:=w1.n;have h2:=w1.nl
  have h3:=ih (by omega)
  rw [Zm hs,ZL3]
  show (wrV (Qw s) _).1.nodes.length+(wrV (Qw s) _).1.n=1500
  omega
theorem Zle {N:ZL} (hN:GoodN N) {ros:List Ro} (h:PlanOk N ros) {y:Ed} (hy:y.text.length<=200) {B:Int} (hB:0<=B) (hr:∀ r∈ros,r.m.b<=B):(ZCk N ros y).bytes<=B+200:=by
 unfold ZCk
 match hq:ZbE ros y.n with
 | none =>
  obtain ⟨b1,b2,b3⟩:=Xj hN (s:=y.text) (by omega)
  show (Qw y.text).bytes<=_;omega
 | some r =>
  have hm:=jM (show ros[_]?=some r from hq)
  obtain ⟨h1,h2,h3,h4⟩:=h.rt r hm;have h5:=hr r hm;have p1:=Q7 (x:=y.at_) h3
  have p2:=Q7 (x:=y.len) (n:=r.m.b-JM y.at_ r.m.b) (by omega)
  have:=ZOF hN (s:=y.text) h1.keep (a:=JM y.at_ r.m.b) (n:=JM y.len (r.m.b-JM y.at_ r.m.b)) p1.1 p2.1 (by omega) (by omega) (by omega)
  show (Tr.own _).bytes<=_
  rw [ZJ8,this.bytes];omega
structure MkInv (r:AR) (ros:List Ro) (ss:List (List UInt8)) (n:Nat) (B:Nat):Prop where
 ok:AROk r
 good:GoodN r.nodes
 rts:Rts r.nodes ros ss
 len:ros.length=n
 n20:n<=20
 small:∀ s∈ss,s.length<=B
 nl:r.nodes.length+r.n=1500
theorem MkInv.plan {r:AR} {ros:List Ro} {ss:List (List UInt8)} {n B:Nat} (h:MkInv r ros ss n B) (hB:B<=60000):PlanOk r.nodes ros:=h.rts.plan h.good (by have:=h.len;have:=h.n20;omega) (fun s hs=>by have:=h.small s hs;omega)
theorem MkInv.mb {r:AR} {ros:List Ro} {ss:List (List UInt8)} {n B:Nat} (h:MkInv r ros ss n B):∀ ro∈ros,ro.m.b<=(B:Int):=by
 intro ro hr;obtain ⟨i,hi,rfl⟩:=List.getElem_of_mem hr
 have hi2:i<ss.length:=by rw [<- h.rts.1];exact hi
 have g:=h.rts.2 i _ _ (jE hi) (jE hi2)
 have:=(g.b h.good).2
 have:=h.small _ (List.getElem_mem hi2)
 omega
theorem Zou (texts:List (List UInt8)) (ys:List Ed) (h9:texts.flatten.length<=900/\texts.length<=4) (hy12:ys.length<=12) (hys:∀ y∈ys,y.text.length<=200) (A:List (Bool × List Blk)) :
 Sp Tb YH [.lit (texts.map .str),.lit (ys.map Ed.av)] ⟨A,false,[]⟩ (fun v st'=>∃ r c ros ss G0 G1 n,v=.tup [.ptr A.length 5 0 0 0,.ref A.length 6 n 0 n,.ref A.length (7+G0.length) c 0 n,.bool true]/\st'=⟨A,false,ltL A.length r n ros G0 c ss G1⟩/\MkInv r ros ss n 3300):=by
 refine ZTj (rfl:Tb YH=some (.pf Xb)) ?_;have hLd:=Zof texts h9.1 h9.2 A [];have hLok:=ZXm texts h9.1 texts.length (Nat.le_refl _);have hnl0:=Zld texts h9.1 texts.length (Nat.le_refl _);rw [List.take_length] at hLok hnl0;have hrl:=hLok.rts.1;obtain ⟨r0,ros0,hV⟩:∃ r0 ros0,Y7 texts=(r0,ros0):=⟨_,_,rfl⟩;rw [hV] at hLd hLok hrl hnl0
 simp only at hLd hLok hrl hnl0
 have hG:(ZDf ros0).length=texts.length:=by unfold ZDf;rw [List.length_map,hrl]
 generalize ZDf ros0=G0 at *
 change S Tb YJ [.lit (texts.map .str)] ⟨A,false,[]⟩=some (.tup [.ptr A.length 5 0 0 0,.ref A.length 6 texts.length 0 texts.length,.bool true],⟨A,false,r0.b0::r0.b1::r0.b2::r0.b3 A.length 0::r0.b4::r0.b5 A.length 0::.arr 5 texts.length (ros0.map Ro.av)::G0⟩) at hLd
 repeat' (first|refine ZE ?_|refine ZD ?_|refine ZG rfl ?_|refine Zv rfl rfl ?_|refine ZB rfl ?_|refine ZC ?_|refine ZH rfl ?_|refine Y9 rfl rfl ?_|refine JT rfl rfl rfl rfl ?_|refine ZA rfl rfl rfl (hLd) ?_|refine ZI ?_)
 all_goals try contradiction
 refine ZCi (vx:=.lit (texts.map .str)) (ys:=texts.map .str) (bytes:=16) rfl rfl rfl (by rw [List.length_map];omega) (by decide) (Ziz _) ?_
 repeat' (first|refine ZE ?_|refine ZD ?_|refine ZG rfl ?_|refine ZB rfl ?_|refine ZC ?_|refine ZQ ?_)
 have hl7:(r0.b0::r0.b1::r0.b2::r0.b3 A.length 0::r0.b4::r0.b5 A.length 0::Blk.arr 5 texts.length (ros0.map Ro.av)::G0).length=7+G0.length:=by simp;omega
 rw [hl7,List.length_map]
 refine Z1 (α:=Nat × Nat × AR × List Ro × List (List UInt8) × List Blk) (fun q=>[(1,.lit (ys.map Ed.av)),(8,.ptr A.length 5 0 0 0),(9,.ref A.length 6 (texts.length+q.2.1) 0 (texts.length+q.2.1)),(11,.ref A.length (7+G0.length) q.2.1 0 (texts.length+q.2.1)),(12,.int .i64 q.1)])
  (fun q=>⟨A,false,ltL A.length q.2.2.1 (texts.length+q.2.1) q.2.2.2.1 G0 q.2.1 q.2.2.2.2.1 q.2.2.2.2.2⟩) (fun q=>q.1<=ys.length/\q.2.1<=q.1/\MkInv q.2.2.1 q.2.2.2.1 q.2.2.2.2.1 (texts.length+q.2.1) (900+200*q.1)) (fun q=>ys.length-q.1) (0,0,r0,ros0,texts,[]) rfl rfl ⟨Nat.zero_le _,Nat.zero_le _,hLok.ok,hLok.good,hLok.rts,hrl,by simp only;omega,Zgs h9.1,hnl0⟩ ?_
 rintro ⟨i,c,r,ros,ss,G1⟩ ⟨hi,hci,hI⟩
 simp only at hi hci hI ⊢
 have hsl:=hI.rts.1;have hrs:=hI.len
 rcases Nat.lt_or_ge i ys.length with hlt|hge
 ·obtain ⟨y,hyi⟩:∃ y,ys[i]?=some y:=⟨ys[i]'(by omega),by simp [hlt]⟩
  have hy2:=hys y (jM hyi)
  have hP:PlanOk r.nodes ros:=hI.plan (by omega)
  obtain ⟨hv,hvb⟩:=ZlD hI.good hP hy2
  have hvs:=Zle hI.good hP hy2 (B:=((900+200*i:Nat):Int)) (by omega) hI.mb
  have hPl:=fun L (hR:Rd ⟨A,false,L⟩ A.length 5 r.nodes) (hg:St.get ⟨A,false,L⟩ A.length 6=some (.arr 5 (texts.length+c) (ros.map Ro.av)))=>Znf (b:=0) hI.good hR hg hP (ys:=[y]) (by simp) (fun z hz=>by rw [List.mem_singleton] at hz;rw [hz];exact hy2)
  have hPl:=hPl _ Zn8 (ZdO (Zos (r:=r) (v:=texts.length+c) (G0:=G0) (w:=c) (ss:=ss) (G1:=G1)) rfl)
  have hTx:=ZoY hI.good (Zn8 (A:=A) (r:=r) (v:=texts.length+c) (ros:=ros) (G0:=G0) (w:=c) (ss:=ss) (G1:=G1)) hv (by omega)
  have hln:=hv.len hI.good;simp only [jC,List.map_nil] at hPl;rw [hrs] at hPl
  generalize hT:ZCk r.nodes ros y=t at *
  rcases Nat.lt_or_ge r.n (nw t) with hfull|hroom
  ·have hWr:=Zgg (ZXu (A:=A) (r:=r) (v:=texts.length+c) (ros:=ros) (G0:=G0) (w:=c) (ss:=ss) (G1:=G1)) hI.ok hI.good hv (by omega) hfull
   have eb:=Zlb (n:=A.length) (r:=r) (v:=texts.length+c) (ros:=ros) (G0:=G0) (w:=c) (ss:=ss) (G1:=G1) (.arr 5 0 [Ro.zero.av])
   generalize ltL A.length r (texts.length+c) ros G0 c ss G1=L1 at *
   repeat' (first|refine ZAF rfl ?_|refine Zhv rfl rfl rfl rfl hyi ?_|refine Ye (f:=Tr.av) (l:=[t]) rfl rfl ⟨by decide,rfl⟩ Z8 ?_|refine ZE ?_|refine ZD ?_|refine ZG rfl ?_|refine Zv rfl rfl ?_|refine ZB rfl ?_|refine ZC ?_|(refine Zk rfl rfl (fun _=>?_) (fun _=>?_)<;>try (exfalso;omega))|(refine Zi rfl rfl (fun _=>?_) (fun _=>?_)<;>try (exfalso;omega))|(refine Zl rfl rfl (fun _=>?_) (fun _=>?_)<;>try (exfalso;omega))|refine ZS rfl ?_|refine ZH rfl ?_|refine Y9 rfl rfl ?_|refine Zq rfl rfl (by omega) ?_|refine Zt rfl rfl rfl ?_|refine Qv rfl rfl rfl rfl rfl rfl ?_|refine Qd rfl (Zu _) ?_|refine ZA rfl rfl (by first|rfl|(simp only [lE,lN,lC,Zf,ZX,ZW];first|done|rfl)) (hPl) ?_|refine ZA rfl rfl (by first|rfl|(simp only [lE,lN,lC,Zf,ZX,ZW];first|done|rfl)) (hTx) ?_|refine ZA rfl rfl (by first|rfl|(simp only [lE,lN,lC,Zf,ZX,ZW];first|done|rfl)) (hWr) ?_|refine ZI ?_|refine Zz ?_|refine ZQ ?_|refine Zg ?_|refine Zd rfl ?_|refine QI ?_)
   all_goals try contradiction
   all_goals try (exfalso;omega)
   refine ⟨(i+1,c,r,ros,ss,G1++[Blk.arr 5 0 [Ro.zero.av]]),⟨rfl,?_⟩,⟨by simp only;omega,by simp only;omega,hI.ok,hI.good,hI.rts,hrs,hI.n20,fun s hs=>by have:=hI.small s hs;simp only;omega,hI.nl⟩,by simp only;omega⟩
   exact congrArg (St.mk A false) eb
  ·have hWr:=Zhm (ZXu (A:=A) (r:=r) (v:=texts.length+c) (ros:=ros) (G0:=G0) (w:=c) (ss:=ss) (G1:=G1)) hI.ok hI.good hv (by omega) hroom
   rw [Zor] at hWr
   obtain ⟨w1,w2⟩:=Zhn (ZXu (A:=A) (r:=r) (v:=texts.length+c) (ros:=ros) (G0:=G0) (w:=c) (ss:=ss) (G1:=G1)) hI.ok hI.good hv (by omega) hroom
   have f6:(ltL A.length (wrV t r).1 (texts.length+c) ros G0 c ss G1)[6]?=_:=Zos;have f7:(ltL A.length (wrV t r).1 (texts.length+c) ros G0 c ss G1)[7+G0.length]?=_:=lt_7;have n1:=w1.n;have n2:=w1.nl;have n3:=hI.nl;have n4:=hI.n20
   generalize hL2:ltL A.length (wrV t r).1 (texts.length+c) ros G0 c ss G1=L2 at *
   generalize ltL A.length r (texts.length+c) ros G0 c ss G1=L1 at *
   generalize (wrV t r).1=r2 at *
   generalize (wrV t r).2.1=ro at *
   generalize (wrV t r).2.2=hh at *
   generalize hTT:t.txt r.nodes=T at *
   have hl6:=(List.getElem?_eq_some_iff.1 f6).1;have hl7':=(List.getElem?_eq_some_iff.1 f7).1
   repeat' (first|refine ZAF rfl ?_|refine Zhv rfl rfl rfl rfl hyi ?_|refine Ye (f:=Tr.av) (l:=[t]) rfl rfl ⟨by decide,rfl⟩ Z8 ?_|refine ZE ?_|refine ZD ?_|refine ZG rfl ?_|refine Zv rfl rfl ?_|refine ZB rfl ?_|refine ZC ?_|refine QP rfl rfl rfl ?_|(refine Zk rfl rfl (fun _=>?_) (fun _=>?_)<;>try (exfalso;omega))|(refine Zi rfl rfl (fun _=>?_) (fun _=>?_)<;>try (exfalso;omega))|(refine Zl rfl rfl (fun _=>?_) (fun _=>?_)<;>try (exfalso;omega))|refine ZS rfl ?_|refine ZH rfl ?_|refine Y9 rfl rfl ?_|refine Zq rfl rfl (by omega) ?_|refine Zt rfl rfl rfl ?_|refine Qv rfl rfl rfl rfl rfl rfl ?_|refine JT rfl rfl rfl rfl ?_|refine Qd rfl (Zu _) ?_|refine ZA rfl rfl (by first|rfl|(simp only [lE,lN,lC,Zf,ZX,ZW];first|done|rfl)) (hPl) ?_|refine ZA rfl rfl (by first|rfl|(simp only [lE,lN,lC,Zf,ZX,ZW];first|done|rfl)) (hTx) ?_|refine ZA rfl rfl (by first|rfl|(simp only [lE,lN,lC,Zf,ZX,ZW];first|done|rfl)) (hWr) ?_|refine ZI ?_|refine ZQ ?_)
   all_goals try contradiction
   all_goals try (exfalso;omega)
   refine ZBv (es:=ros.map Ro.av) (ys:=[ro.av]) rfl rfl (XK f6) (by rw [List.length_map];omega) rfl rfl (by rw [List.length_map,List.length_singleton];omega) (by decide) ?_
   repeat' (first|refine ZD ?_|refine ZG rfl ?_|refine ZB rfl ?_|refine ZC ?_|refine JT rfl rfl rfl rfl ?_)
   refine ZBv (es:=ss.map .str) (ys:=[.str T]) rfl rfl ((jS (by omega)).trans (XK f7)) (by rw [List.length_map];omega) rfl rfl (by rw [List.length_map,List.length_singleton];omega) (by decide) ?_
   repeat' (first|refine ZD ?_|refine ZG rfl ?_|refine ZB rfl ?_|refine ZC ?_|refine Zq rfl rfl (by omega) ?_|refine QE ?_|refine QI ?_)
   refine ⟨(i+1,c+1,r2,ros++[ro],ss++[T],G1++[.arr 5 0 [ro.av]]),⟨rfl,?_⟩,⟨by simp only;omega,by simp only;omega,w1.ok,w1.good,(hI.rts.ext hI.good w1.ext).snoc w2,by simp only [lL,List.length_singleton];omega,by simp only;omega,fun s hs=>?_,by simp only;omega⟩,by simp only;omega⟩
   ·show (⟨A,false,((L2++[Blk.arr 5 0 [ro.av]]).set 6 (Blk.arr 5 (texts.length+c+1) (ros.map Ro.av++[ro.av]))).set (7+G0.length) (Blk.arr 1 (c+1) (ss.map AV.str++[AV.str T]))⟩:St)=_
    rw [<- hL2,Zlb,Znn,Zno];rfl
   ·rcases List.mem_append.1 hs with q|q
    ·have:=hI.small s q;simp only;omega
    ·rw [List.mem_singleton.1 q];simp only;omega
 ·obtain rfl:i=ys.length:=by omega
  repeat' (first|refine ZAF rfl ?_|refine ZE ?_|refine ZD ?_|refine ZG rfl ?_|refine ZB rfl ?_|refine ZC ?_|(refine Zk rfl rfl (fun _=>?_) (fun _=>?_)<;>try (exfalso;omega))|refine ZH rfl ?_|refine ZP ?_|refine Zz ?_|refine ZO ?_|refine Zg ?_|refine Zd rfl ?_|refine Zx ?_)
  all_goals try (exfalso;omega)
  refine ⟨_,_,JS (.inr rfl) rfl rfl rfl rfl,r,c,ros,ss,G0,G1,texts.length+c,rfl,rfl,hI.ok,hI.good,hI.rts,hrs,hI.n20,fun s hs=>?_,hI.nl⟩
  have:=hI.small s hs
  omega
def ZDO (texts:List (List UInt8)) (ys:List Ed):Prop:=ZQ9 texts\/ZXn ys\/12<ys.length
noncomputable instance (texts:List (List UInt8)) (ys:List Ed):Decidable (ZDO texts ys):=Classical.propDecidable _
theorem Zlf (texts:List (List UInt8)) (ys:List Ed) (hb:texts.length<9223372036854775808) (hbs:∀ s∈texts,s.length<9223372036854775808) (hy:ys.length<9223372036854775808) (hys:∀ y∈ys,y.text.length<9223372036854775808) (st:St) :
 S Tb Yk [.lit (texts.map .str),.lit (ys.map Ed.av)] st=some (.bool (decide (ZDO texts ys)),st):=by
 refine QF rfl (fun A hA=>?_)
 have hLg:=fun st=>Zog texts hb hbs st
 have hMn:=fun st=>ZlE ys hy hys st
 by_cases hl:ZQ9 texts
 ·rw [decide_eq_true (show ZDO texts ys from .inl hl)]
  simp only [decide_eq_true hl] at hLg
  repeat' (first|refine ZE ?_|refine ZD ?_|refine ZG rfl ?_|refine JW rfl rfl ?_|refine Zj rfl rfl rfl rfl ?_|refine ZB rfl ?_|refine ZC ?_|refine ZA rfl rfl rfl (hLg _) ?_|refine ZP ?_|refine ZO ?_)
  all_goals try contradiction
  all_goals refine Za hA (by first|exact .inl rfl|exact .inr rfl) rfl rfl rfl rfl ?_
  all_goals rfl
 simp only [decide_eq_false hl] at hLg
 by_cases hm:ZXn ys
 ·rw [decide_eq_true (show ZDO texts ys from .inr (.inl hm))]
  simp only [decide_eq_true hm] at hMn
  repeat' (first|refine ZE ?_|refine ZD ?_|refine ZG rfl ?_|refine QD rfl ?_|refine JW rfl rfl ?_|refine Zj rfl rfl rfl rfl ?_|refine ZB rfl ?_|refine ZC ?_|refine ZA rfl rfl rfl (hLg _) ?_|refine ZA rfl rfl rfl (hMn _) ?_|refine ZP ?_|refine ZO ?_)
  all_goals try contradiction
  all_goals refine Za hA (by first|exact .inl rfl|exact .inr rfl) rfl rfl rfl rfl ?_
  all_goals rfl
 simp only [decide_eq_false hm] at hMn
 by_cases h12:12<ys.length
 ·rw [decide_eq_true (show ZDO texts ys from .inr (.inr h12))]
  repeat' (first|refine ZAF rfl ?_|refine ZE ?_|refine ZD ?_|refine ZG rfl ?_|refine QD rfl ?_|refine Zj rfl rfl rfl rfl ?_|refine ZB rfl ?_|refine ZC ?_|(refine QL rfl rfl (fun _=>?_) (fun _=>?_)<;>try (exfalso;omega))|refine ZA rfl rfl rfl (hLg _) ?_|refine ZA rfl rfl rfl (hMn _) ?_|refine ZP ?_|refine ZO ?_)
  all_goals try contradiction
  all_goals try (exfalso;omega)
  all_goals refine Za hA (by first|exact .inl rfl|exact .inr rfl) rfl rfl rfl rfl ?_
  all_goals rfl
 ·rw [decide_eq_false (show ¬ ZDO texts ys from fun q=>q.elim hl fun q=>q.elim hm h12)]
  repeat' (first|refine ZAF rfl ?_|refine ZE ?_|refine ZD ?_|refine ZG rfl ?_|refine QD rfl ?_|refine Zj rfl rfl rfl rfl ?_|refine ZB rfl ?_|refine ZC ?_|(refine QL rfl rfl (fun _=>?_) (fun _=>?_)<;>try (exfalso;omega))|refine ZA rfl rfl rfl (hLg _) ?_|refine ZA rfl rfl rfl (hMn _) ?_|refine ZP ?_|refine ZO ?_)
  all_goals try contradiction
  all_goals try (exfalso;omega)
  all_goals refine Za hA (by first|exact .inl rfl|exact .inr rfl) rfl rfl rfl rfl ?_
  all_goals rfl
theorem Zlg (x n:Int) (h0:0<=n) (h1:n<4611686018427387904) (st:St):S Tb YI [.int .i64 x,.int .i64 n] st=some (.int .i64 (JM x n),st):=by
 refine QF rfl (fun A hA=>?_)
 have hP:=fun st=>ZdQ x n h0 h1 st
 repeat' (first|refine ZE ?_|refine ZD ?_|refine ZG rfl ?_|refine ZB rfl ?_|refine ZC ?_|refine ZA rfl rfl rfl (hP _) ?_|refine ZP ?_|refine ZO ?_)
 refine Za hA (by first|exact .inl rfl|exact .inr rfl) rfl rfl rfl rfl ?_
 rfl
structure Op where
 at_:Int
 num:Int
 text:List UInt8
def ZpM (l:List Op):Prop:=∃ s∈l,300<s.text.length
noncomputable instance (l:List Op):Decidable (ZpM l):=Classical.propDecidable _
section
variable {O:Orc} {k:List Fr} {Q:Ju} {e:Env} {A:List (Bool × List Blk)} {L:List Blk} {keep:List Nat} {is:List QAbs.PI} {d:Nat} {st:St}
theorem ZbK {w:Nat} {x i b:Opd} {ix ver s m v2 s2 m2:Nat} {n:Int} {es:List AV} (hx:Zb e x=some (.ref A.length ix ver s m)) (hb:Zb e b=some (.ref A.length ix v2 s2 m2)) (hi:Zb e i=some (.int .i64 n)) (hn:0<=n/\n<m) (hg:L[ix]?=some (Blk.arr w ver es))
 (h:Is O is keep k Q ((d,.ptr A.length ix ver (s+n.toNat) 0)::e) ⟨A,false,L⟩):Is O (⟨some d,none,false,.w (.only b) (.ixS w x i)⟩::is) keep k Q e ⟨A,false,L⟩:=by
 refine Z3 (v:=.ptr A.length ix ver (s+n.toNat) 0) (st':=⟨A,false,L⟩) ?_ h
 have hgt:(St.hide (fun lv ix=>!Y4 lv ix (b.get e)) ⟨A,false,L⟩).get A.length ix=some (Blk.arr w ver es):=by
  rw [XH,St.get_cur,hg,ZF hb]
  simp [Y4,vis]
 have hio:Yb m (.int .i64 n)=some n.toNat:=by simp only [Yb,if_pos hn]
 simp only [Zc,QA,PO.reads,if_true,evalPO,ZF hx,ZF hi,ixSV,hio,hgt,wIs,oS,QW,QM]
 simp [QW,QM]
theorem ZXv {a b:Opd} {agg:Bool} {n ix ver i o w v2 s2 m2:Nat} {es:List AV} {x v:AV} (ha:Zb e a=some (.ptr A.length ix ver i o)) (hb:Zb e b=some (.ref A.length ix v2 s2 m2))
 (hg:L[ix]?=some (Blk.arr w ver es)) (hx:es[i]?=some x) (hv:JX x agg o n=some v) (h:Is O is keep k Q ((d,v)::e) ⟨A,false,L⟩):Is O (⟨some d,none,false,.w (.only b) (.ld agg n a)⟩::is) keep k Q e ⟨A,false,L⟩:=by
 refine Z3 (v:=v) (st':=⟨A,false,L⟩) ?_ h
 have hgt:(St.hide (fun lv ix=>!Y4 lv ix (b.get e)) ⟨A,false,L⟩).get A.length ix=some (Blk.arr w ver es):=by
  rw [XH,St.get_cur,hg,ZF hb]
  simp [Y4,vis]
 simp only [Zc,QA,PO.reads,if_true,evalPO,ZF ha,loadP,hgt,ZDg,hx,hv,oS,QW,QM]
theorem Zlh {a x b:Opd} {n lv ix ver i o lv2 ix2 v2 s2 m2:Nat} {vx:AV} (ha:Zb e a=some (.ptr lv ix ver i o)) (hb:Zb e b=some (.ref lv2 ix2 v2 s2 m2)) (hx:Zb e x=some vx) (hne:¬ (lv=lv2/\ix=ix2)) (hh:ZAB 6 (lv+1) vx=true)
 (h:Is O (⟨none,none,false,.st n a x⟩::is) keep k Q e st):Is O (⟨none,none,false,.w (.off b) (.st n a x)⟩::is) keep k Q e st:=by
 refine ZdK ?_ h
 have hs:Zdi (.ref lv2 ix2 v2 s2 m2) (.ptr lv ix ver i o) vx=true:=by
  unfold Zdi;simp only [Y4,hh,Bool.and_true,Bool.not_eq_true',Bool.and_eq_false_iff,beq_eq_false_iff_ne,ne_eq]
  by_cases q:lv=lv2
  ·exact .inr fun z=>hne ⟨q,z⟩
  ·exact .inl q
 simp only [Zc,QA,Zhw,ZF ha,ZF hb,ZF hx,hs,if_true]
end
section
variable {n:Nat} {r:AR} {v w:Nat} {ros:List Ro} {ss:List (List UInt8)} {G0 G1 G2:List Blk}
theorem Zov:(ltL n r v ros G0 w ss G1).length=8+G0.length+G1.length:=by
 simp [ltL];omega
end
theorem ZRA:∀ (l:List Nat) (i:Nat),(l.take i).sum<=l.sum
 | [],i=>by simp
 | x::l,0=>by simp
 | x::l,i+1=>by
  have:=ZRA l i
  simp only [List.take_succ_cons,List.sum_cons];omega
theorem Zli {N:ZL} (hN:GoodN N) {n o:Nat} {x:Nd} (hx:lk N o=some x) (hh:x.h=n) (hn:n<=16):szN N n o<=17179869184:=by
 have:=Zk8 hN n o x hx hh
 rw [Zht] at this
 have h2:4 ^ (n+1)<=4 ^ 17:=Nat.pow_le_pow_right (by decide) (by omega)
 have h3:(4:Nat) ^ 17=17179869184:=by decide
 omega
theorem ZjB {N:ZL} (hN:GoodN N) {la b:Nat}:∀ (n o:Nat) (x:Nd),lk N o=some x->x.h=n->n<=16->∀ {st:St},Rd st la (b+5) N->S Tb J0 [.ptr la (b+5) 0 0 0,.int .u64 o] st=some (.int .i64 (szN N n o),st):=by
 intro n
 induction n with
 | zero =>
  intro o x hx hh hn st hR
  refine QF rfl (fun A hA=>?_)
  have hok:=(hN o x hx).1
  have hks:x.ks=[]:=by
   rcases hok with q|⟨m,ks,q⟩
   ·exact q.ks
   ·have e:=q.eq;rw [e] at hh;simp at hh
  have hG:=fun L=>ZKw (hR.push hA (ro:=false) (L:=L)) hx hok.len
  have hcp:x.copy.av=.agg [.int .i64 x.h,.str x.text,.lit (x.ks.map Kid.av)]:=rfl;rw [hcp,hks] at hG
  repeat' (first|refine ZE ?_|refine ZD ?_|refine ZG rfl ?_|refine Zv rfl rfl ?_|refine ZB rfl ?_|refine ZC ?_|refine Zn rfl rfl rfl ?_|refine QB rfl rfl rfl rfl rfl rfl ?_|refine ZA rfl rfl rfl (hG _) ?_|refine ZQ ?_)
  all_goals try contradiction
  refine Z1 (α:=Unit) (fun _=>[(0,.ptr la (b+5) 0 0 0),(5,.ptr A.length 0 0 0 0),(7,.int .i64 1),(8,.int .i64 0)]) (fun _=>⟨A,false,[.arr 3 0 [.agg [.int .i64 x.h,.str x.text,.lit []]]]⟩) (fun _=>True) (fun _=>0) () rfl rfl trivial ?_
  intro _ _
  repeat' (first|refine ZE ?_|refine ZD ?_|refine ZG rfl ?_|refine ZJ rfl rfl ?_|refine ZU rfl rfl rfl rfl ?_|refine ZB rfl ?_|refine ZC ?_|refine ZDD rfl rfl ?_|(refine Zk rfl rfl (fun _=>?_) (fun _=>?_)<;>try (exfalso;omega))|refine ZH rfl ?_|refine ZP ?_|refine Zz ?_|refine ZO ?_|refine Zg ?_|refine Zd rfl ?_|refine Zx ?_)
  all_goals try contradiction
  all_goals try (exfalso;omega)
  refine Za hA (by first|exact .inl rfl|exact .inr rfl) rfl rfl rfl rfl ?_
  rfl
 | succ n ih =>
  intro o x hx hh hn st hR
  refine QF rfl (fun A hA=>?_)
  obtain ⟨hok,hkids⟩:=hN o x hx
  have hG:=fun L=>ZKw (hR.push hA (ro:=false) (L:=L)) hx hok.len
  have hcp:x.copy.av=.agg [.int .i64 x.h,.str x.text,.lit (x.ks.map Kid.av)]:=rfl;rw [hcp] at hG
  have hsz:szN N (n+1) o=1+(x.ks.map fun k=>szN N n k.at_).sum:=by rw [szN,J2 hx]
  have hle:=Zli hN hx hh hn;rw [hsz] at hle ⊢;have hk4:=hok.len
  repeat' (first|refine ZE ?_|refine ZD ?_|refine ZG rfl ?_|refine Zv rfl rfl ?_|refine ZB rfl ?_|refine ZC ?_|refine Zn rfl rfl rfl ?_|refine QB rfl rfl rfl rfl rfl rfl ?_|refine ZA rfl rfl rfl (hG _) ?_|refine ZQ ?_)
  all_goals try contradiction
  refine Z1 (α:=Nat) (fun i=>[(0,.ptr la (b+5) 0 0 0),(5,.ptr A.length 0 0 0 0),(7,.int .i64 ((1+((x.ks.take i).map fun k=>szN N n k.at_).sum:Nat):Int)),(8,.int .i64 i)]) (fun _=>⟨A,false,[.arr 3 0 [.agg [.int .i64 x.h,.str x.text,.lit (x.ks.map Kid.av)]]]⟩) (fun i=>i<=x.ks.length) (fun i=>x.ks.length-i) 0 rfl rfl (Nat.zero_le _) ?_
  intro i hi;replace hi:i<=x.ks.length:=hi
  rcases Nat.lt_or_ge i x.ks.length with hlt|hge
  ·obtain ⟨kd,hk⟩:∃ k,x.ks[i]?=some k:=⟨x.ks[i]'hlt,jE _⟩
   have qk:0<=((i:Nat):Int)/\x.ks[((i:Nat):Int).toNat]?=some kd:=⟨by omega,by rw [show ((i:Nat):Int).toNat=i by omega];exact hk⟩
   obtain ⟨_,y,y1,y2,y3⟩:=hkids kd (jM hk)
   have hI:=fun L=>ih kd.at_ y y1 (by omega) (by omega) (hR.push hA (ro:=false) (L:=L))
   have ht:=ZXt (N:=N) (n:=n) hk
   have hs1:=ZRA (x.ks.map fun k=>szN N n k.at_) (i+1)
   rw [<- List.map_take,ht] at hs1
   generalize ((x.ks.take i).map fun k=>szN N n k.at_).sum=S0 at *
   generalize szN N n kd.at_=S1 at *
   have hkl:((x.ks.map Kid.av).length:Int)=x.ks.length:=by simp
   repeat' (first|refine ZAF rfl ?_|refine Ye (f:=Kid.av) rfl rfl qk (fun _=>rfl) ?_|refine ZE ?_|refine ZD ?_|refine ZG rfl ?_|refine ZJ rfl rfl ?_|refine ZU rfl rfl rfl rfl ?_|refine ZB rfl ?_|refine ZC ?_|refine Qd rfl rfl ?_|(refine Zk rfl rfl (fun _=>?_) (fun _=>?_)<;>try (exfalso;omega))|refine ZS rfl ?_|refine Zq rfl rfl (by omega) ?_|refine ZA rfl rfl rfl (hI _) ?_|refine ZI ?_|refine ZQ ?_|refine QE ?_|refine QI ?_)
   all_goals try contradiction
   all_goals try (exfalso;omega)
   refine ⟨i+1,⟨?_,rfl⟩,by omega,by omega⟩
   rw [ht,show ((1+(S0+S1):Nat):Int)=((1+S0:Nat):Int)+(S1:Int) by omega];rfl
  ·obtain rfl:i=x.ks.length:=by omega
   rw [List.take_length]
   repeat' (first|refine ZAF rfl ?_|refine ZE ?_|refine ZD ?_|refine ZG rfl ?_|refine ZJ rfl rfl ?_|refine ZU rfl rfl rfl rfl ?_|refine ZB rfl ?_|refine ZC ?_|(refine Zk rfl rfl (fun _=>?_) (fun _=>?_)<;>try (exfalso;omega))|refine ZH rfl ?_|refine ZP ?_|refine Zz ?_|refine ZO ?_|refine Zg ?_|refine Zd rfl ?_|refine Zx ?_)
   all_goals try contradiction
   all_goals try (exfalso;omega)
   refine Za hA (by first|exact .inl rfl|exact .inr rfl) rfl rfl rfl rfl ?_
   rfl
theorem ZdY (n:Int):∀ (l:List UInt8) (j:Nat),(j:Int)<=n->(ZBw (fun i _=>decide ((i:Int)<n)) j l:Int)=min (n-j) l.length
 | [],j,h=>by simp [ZBw];omega
 | c::l,j,h=>by
  rw [ZBw]
  by_cases q:(j:Int)<n
  ·rw [if_pos (decide_eq_true q)]
   have:=ZdY n l (j+1) (by omega)
   simp only [List.length_cons];omega
  ·rw [if_neg (by simpa using q)]
   simp only [List.length_cons];omega
theorem Zow {N:ZL} (hN:GoodN N) {r:Ro} {s:List UInt8} (h:Rt N r s) (h0:r.at_≠0):ZOS N r s 0=r.h+1:=by
 obtain ⟨hlv,ht,hpos⟩:=h.lv hN h0
 have:=ZL4 hN r.h (Qg r) rfl hlv
 unfold ZOS
 rw [show min ((0:Nat):Int) (s.length-1)=(Qg r).f by show _=(0:Int);omega]
 exact this
theorem Zlj {N:ZL} (hN:GoodN N) {r:Ro} {s:List UInt8} (h:Rt N r s) (h0:r.at_≠0):ZOS N r s s.length=szN N r.h r.at_:=by
 obtain ⟨hlv,ht,hpos⟩:=h.lv hN h0
 have:=ZQe hN r.h (Qg r) rfl hlv
 unfold ZOS
 rw [show min ((s.length:Nat):Int) (s.length-1)=(Qg r).t-1 by rw [ht];omega]
 exact this
section
variable {A:List (Bool × List Blk)} {X:List Blk} {ic li la b im:Nat} {r:Ro} {N:ZL} {s:List UInt8} {a:Nat} {vis:Int}
theorem CurL.visP (h:CurL A X ic li la b im r N s a vis):S Tb Zr [.ptr A.length ic 0 0 0] (St.allRo ⟨A,false,X⟩)=some (.int .i64 vis,St.allRo ⟨A,false,X⟩):=by
 obtain ⟨ver,es,w⟩:=h.ex
 exact Go.Q15.visited_c (by rw [JV];exact w.cl.get 0 _ _ _ rfl rfl)
theorem CurL.out (hN:GoodN N) (h:Rt N r s) (hc:CurL A X ic li la b im r N s a vis) (x:Int) (hx:x<0\/(s.length:Int)<x):S Tb QS [.ptr A.length ic 0 0 0,.int .i64 x] ⟨A,false,X⟩=some (.int .i64 3,⟨A,false,X⟩):=by
 obtain ⟨ver,es,w⟩:=hc.ex;exact ZlZ w hc.rdo hN h x hx
end
theorem Znp {st:St} {A:List (Bool × List Blk)} (hA:A=st.A++[(st.ro,st.L)]) {X0:List Blk} {ic li la b im j0:Nat} {r:Ro} {N:ZL} {s:List UInt8} {vis0:Int} {a0:Nat} (hN:GoodN N) (h:Rt N r s) (h0:r.at_≠0) (hs:s.length<=3300) (hc:CurL A X0 ic li la b im r N s a0 vis0) (ha0:a0<=s.length)
 (hv0:0<=vis0/\vis0<=100000000) (hj:X0[j0]?=some (.arr 5 0 [r.av])) (hji:j0≠ic) (hjl:j0≠li) (ns:List Int) (hns:ns.length<=20) :
 Ru (S Tb) p_quartolaw21_CursorVisits_33.loop [Fr.blk 0,Fr.seq (p_quartolaw21_CursorVisits_34.seq PC.ret)] (fun x e st'=>J3 false [RV.s 8] (x,e,st')=some (AV.bool true,st))
  [(3,.lit (ns.map (.int .i64))),(14,.ptr A.length j0 0 0 0),(15,.str s),(16,.ptr A.length ic 0 0 0),(19,.int .i64 0)] ⟨A,false,X0⟩:=by
 have hWk:=fun st=>ZbJ st
 have h13:=h.rt.h13 hN
 refine Z1 (α:=Nat × List Blk × Nat × Int) (fun p=>[(3,.lit (ns.map (.int .i64))),(14,.ptr A.length j0 0 0 0),(15,.str s),(16,.ptr A.length ic 0 0 0),(19,.int .i64 p.1)]) (fun p=>⟨A,false,p.2.1⟩)
  (fun p=>p.1<=ns.length/\CurL A p.2.1 ic li la b im r N s p.2.2.1 p.2.2.2/\p.2.2.1<=s.length/\0<=p.2.2.2/\p.2.2.2<=100000000+20*p.1/\p.2.1[j0]?=some (.arr 5 0 [r.av])) (fun p=>ns.length-p.1) (0,X0,a0,vis0) rfl rfl ⟨Nat.zero_le _,hc,ha0,hv0.1,by simp only;omega,hj⟩ ?_
 clear hc ha0 hv0 hj
 rintro ⟨i,X,a,vis⟩ ⟨hi,hc,ha,hv1,hv2,hj⟩
 simp only at hi hc ha hv1 hv2 hj ⊢
 rcases Nat.lt_or_ge i ns.length with hlt|hge
 ·obtain ⟨z,hz⟩:∃ x,ns[i]?=some x:=⟨ns[i]'hlt,jE _⟩
  have q:0<=((i:Nat):Int)/\ns[((i:Nat):Int).toNat]?=some z:=⟨by omega,by rw [show ((i:Nat):Int).toNat=i by omega];exact hz⟩
  have b1:=Q7 (x:=z) (n:=(s.length:Int)) (by omega)
  have hP:=fun st=>Zlg z s.length (by omega) (by omega) st
  generalize JM z s.length=k1 at *
  obtain ⟨k,rfl⟩:∃ k:Nat,k1=k:=⟨k1.toNat,by omega⟩
  have hk:k<=s.length:=by omega
  obtain ⟨X1,v1,hS1,hc1,st1,e1⟩:=hc.seek hN h h0 (by omega) ha (by omega) k hk
  have hcm:=ZdS N (min (a:Int) (s.length-1)) (min (k:Int) (s.length-1)) r.h (Qg r)
  obtain ⟨X2,v2,hS2,hc2,st2,e2⟩:=hc1.seek hN h h0 (by omega) hk (by omega) k hk
  rw [ZfG,Nat.sub_self] at e2
  have hO:=hc2.out hN h ((s.length:Int)+1) (.inr (by omega))
  obtain ⟨X3,v3,k3,hk3,hR,hc3,st3,e3,_,_⟩:=hc2.read hN h h0 (by omega) hk (by omega) 0 (by omega)
  have hk30:k3=0:=by
   have:=ZdY 0 (s.drop k) 0 (by omega)
   rw [<- hk3] at this;omega
  subst hk30;simp only [Nat.add_zero,List.take_zero] at hR hc3 e3
  have hv23:v3=v2:=by omega
  have hv21:v2=v1:=by omega
  subst hv23;subst hv21;have hV:=hc.visited_c;have hV1:=hc1.visited_c;have hVP:=hc1.visP;have hV2:=hc2.visited_c;have hV3:=hc3.visited_c;have hA3:=hc3.at_c;have hj1:X1[j0]?=some (.arr 5 0 [r.av]):=(st1.get j0 hji hjl).trans hj;have hj3:X3[j0]?=some (.arr 5 0 [r.av]):=(st3.get j0 hji hjl).trans ((st2.get j0 hji hjl).trans hj1)
  have hge1:0<=v3-vis/\v3-vis<=(r.h:Int):=by omega
  unfold Ro.av at hj1
  repeat' (first|refine ZAF rfl ?_|refine Ye (f:=AV.int .i64) rfl rfl q (fun _=>rfl) ?_|refine J7 rfl rfl rfl hVP ?_|refine ZU rfl hj1 rfl rfl ?_|refine ZE ?_|refine ZD ?_|refine ZG rfl ?_|refine ZJ rfl rfl ?_|refine QD rfl ?_|refine Zj rfl rfl rfl rfl ?_|refine Zv rfl rfl ?_|refine ZB rfl ?_|refine ZC ?_|refine JP rfl ?_|refine Qd rfl rfl ?_|(refine Zk rfl rfl (fun _=>?_) (fun _=>?_)<;>try (exfalso;omega))|(refine QL rfl rfl (fun _=>?_) (fun _=>?_)<;>try (exfalso;omega))|(refine Zl rfl rfl (fun _=>?_) (fun _=>?_)<;>try (exfalso;omega))|refine ZS rfl ?_|refine ZH rfl ?_|refine Zq rfl rfl (by omega) ?_|refine Qj rfl rfl (by omega) ?_|refine ZA rfl rfl rfl (hV) ?_|refine ZA rfl rfl rfl (hP _) ?_|refine ZA rfl rfl rfl (hS1) ?_|refine ZA rfl rfl rfl (hV1) ?_|refine ZA rfl rfl rfl (hS2) ?_|refine ZA rfl rfl rfl (hO) ?_|refine ZA rfl rfl rfl (hV2) ?_|refine ZA rfl rfl rfl (hR) ?_|refine ZA rfl rfl rfl (hV3) ?_|refine ZA rfl rfl rfl (hA3) ?_|refine ZI ?_|refine ZQ ?_|refine QE ?_|refine QI ?_)
  all_goals try contradiction
  all_goals try (exfalso;omega)
  exact ⟨(i+1,X3,k,v3),⟨rfl,rfl⟩,⟨by simp only;omega,hc3,hk,by simp only;omega,by simp only;omega,hj3⟩,by simp only;omega⟩
 ·obtain rfl:i=ns.length:=by omega
  repeat' (first|refine ZAF rfl ?_|refine ZE ?_|refine ZD ?_|refine ZG rfl ?_|refine ZB rfl ?_|refine ZC ?_|(refine Zk rfl rfl (fun _=>?_) (fun _=>?_)<;>try (exfalso;omega))|refine ZH rfl ?_|refine ZA rfl rfl rfl (hWk _) ?_|refine ZP ?_|refine Zz ?_|refine ZO ?_|refine Zg ?_|refine Zd rfl ?_|refine Zx ?_)
  all_goals try (exfalso;omega)
  refine Za hA (by first|exact .inl rfl|exact .inr rfl) rfl rfl rfl rfl ?_
  rfl
set_option maxHeartbeats 32000000
theorem Zlk {texts:List (List UInt8)} {ys:List Ed} (h:¬ ZDO texts ys):(texts.flatten.length<=900/\texts.length<=4)/\ys.length<=12/\∀ y∈ys,y.text.length<=200:=by
 have h1:¬ ZQ9 texts:=fun q=>h (.inl q)
 have h2:¬ ZXn ys:=fun q=>h (.inr (.inl q))
 have h3:¬ 12<ys.length:=fun q=>h (.inr (.inr q))
 obtain ⟨a,b,c⟩:=Zot h1 h2
 exact ⟨a,by omega,c⟩
theorem ZXw (texts:List (List UInt8)) (ys:List Ed) (which:Int) (ns:List Int) (hb:texts.length<9223372036854775808) (hbs:∀ s∈texts,s.length<9223372036854775808) (hy:ys.length<9223372036854775808) (hys:∀ y∈ys,y.text.length<9223372036854775808) (hns:ns.length<9223372036854775808) (st:St) :
 S Tb Jl [.lit (texts.map .str),.lit (ys.map Ed.av),.int .i64 which,.lit (ns.map (.int .i64))] st=some (.bool true,st):=by
 refine QF rfl (fun A hA=>?_)
 have hBy:=fun st=>Zlf texts ys hb hbs hy hys st
 have hWk:=fun st=>ZbJ st
 by_cases hl:ZDO texts ys
 ·simp only [decide_eq_true hl] at hBy
  repeat' (first|refine ZE ?_|refine ZD ?_|refine ZG rfl ?_|refine JW rfl rfl ?_|refine Zj rfl rfl rfl rfl ?_|refine ZB rfl ?_|refine ZC ?_|refine ZS rfl ?_|refine ZA rfl rfl rfl (hBy _) ?_|refine ZA rfl rfl rfl (hWk _) ?_|refine ZP ?_|refine ZO ?_|refine ZY ?_)
  all_goals try contradiction
  all_goals refine Za hA (by first|exact .inl rfl|exact .inr rfl) rfl rfl rfl rfl ?_
  all_goals rfl
 simp only [decide_eq_false hl] at hBy
 by_cases h20:20<ns.length
 ·repeat' (first|refine ZAF rfl ?_|refine ZE ?_|refine ZD ?_|refine ZG rfl ?_|refine QD rfl ?_|refine Zj rfl rfl rfl rfl ?_|refine ZB rfl ?_|refine ZC ?_|(refine QL rfl rfl (fun _=>?_) (fun _=>?_)<;>try (exfalso;omega))|refine ZS rfl ?_|refine ZA rfl rfl rfl (hBy _) ?_|refine ZA rfl rfl rfl (hWk _) ?_|refine ZP ?_|refine ZO ?_|refine ZY ?_)
  all_goals try contradiction
  all_goals try (exfalso;omega)
  all_goals refine Za hA (by first|exact .inl rfl|exact .inr rfl) rfl rfl rfl rfl ?_
  all_goals rfl
 obtain ⟨h9,h12,hy2⟩:=Zlk hl;obtain ⟨v,st',hMk,r,c,ros,ss,G0,G1,n,rfl,rfl,hI⟩:=Zou texts ys h9 h12 hy2 A;have hn20:=hI.n20;have hrs:=hI.len;have hsl:=hI.rts.1
 rcases Nat.eq_zero_or_pos n with hn0|hpos
 ·subst hn0
  repeat' (first|refine ZAF rfl ?_|refine ZE ?_|refine ZD ?_|refine ZG rfl ?_|refine QD rfl ?_|refine Zj rfl rfl rfl rfl ?_|refine Zv rfl rfl ?_|refine ZB rfl ?_|refine ZC ?_|refine Qc rfl ?_|(refine QL rfl rfl (fun _=>?_) (fun _=>?_)<;>try (exfalso;omega))|(refine Zi rfl rfl (fun _=>?_) (fun _=>?_)<;>try (exfalso;omega))|refine ZS rfl ?_|refine ZH rfl ?_|refine Y9 rfl rfl ?_|refine ZA rfl rfl rfl (hBy _) ?_|refine ZA rfl rfl rfl (hWk _) ?_|refine ZA rfl rfl rfl (hMk) ?_|refine ZI ?_|refine ZP ?_|refine ZO ?_|refine ZY ?_)
  all_goals try contradiction
  all_goals try (exfalso;omega)
  all_goals refine Za hA (by first|exact .inl rfl|exact .inr rfl) rfl rfl rfl rfl ?_
  all_goals rfl
 have hpb:=Q7 (x:=which) (n:=(n:Int)-1) (by omega)
 have hPk:=fun st=>Zlg which ((n:Int)-1) (by omega) (by omega) st
 generalize JM which ((n:Int)-1)=z at *
 obtain ⟨ro,hro⟩:∃ x,ros[z.toNat]?=some x:=⟨_,jE (by omega)⟩
 obtain ⟨s,hs⟩:∃ x,ss[z.toNat]?=some x:=⟨_,jE (by omega)⟩
 have hRt:=hI.rts.2 z.toNat ro s hro hs;have hsm:=hI.small s (jM hs);have hGd:=hI.good;have f6:(ltL A.length r n ros G0 c ss G1)[6]?=_:=Zos;have f7:(ltL A.length r n ros G0 c ss G1)[7+G0.length]?=_:=lt_7
 have g6:(ros.map Ro.av)[0+z.toNat]?=some ro.av:=by rw [Nat.zero_add,jG,hro];rfl
 have g7:(ss.map AV.str)[0+z.toNat]?=some (.str s):=by rw [Nat.zero_add,jG,hs];rfl
 have hz:=Zov (n:=A.length) (r:=r) (v:=n) (ros:=ros) (G0:=G0) (w:=c) (ss:=ss) (G1:=G1)
 have hne:¬ (A.length=A.length/\(ltL A.length r n ros G0 c ss G1).length=7+G0.length):=by rw [hz];omega
 have hHas:=ZXu (A:=A) (r:=r) (v:=n) (ros:=ros) (G0:=G0) (w:=c) (ss:=ss) (G1:=G1)
 generalize ltL A.length r n ros G0 c ss G1=X at *
 have hRM:RdM ⟨A,false,X++[.arr 5 0 [ro.av]]⟩ A.length (0+5) (0+4) r.nodes:=RdM.app ⟨_,_,_,_,_,hHas.h5,hHas.h4⟩ _
 obtain ⟨X1,ic,hNew,c1,c2,c3,c4⟩:=ZfL hGd hRt (by omega) hRM (Nat.le_refl _)
 have hj0:(X++[Blk.arr 5 0 [ro.av]])[X.length]?=some (.arr 5 0 [ro.av]):=by rw [List.getElem?_append_right (Nat.le_refl _),Nat.sub_self];rfl
 have hj1:X1[X.length]?=some (.arr 5 0 [ro.av]):=(c3 X.length (by simp)).trans hj0
 rcases c4 with ⟨z0,hcell⟩|⟨z0,li,c5,hc⟩
 ·have hgc:St.get ⟨A,false,X1⟩ A.length ic=some (Jz (.ptr A.length (0+5) 0 0 0) ro .nils 0 0):=by rw [St.get_cur,hcell];rfl
  have hV:=Go.Q15.visited_c hgc
  have hzi:((ro.at_:Nat):Int)=0:=by omega
  unfold Ro.av at hj1 hNew
  repeat' (first|refine ZAF rfl ?_|refine ZJs rfl rfl (by omega) f6 ?_|refine ZU rfl f6 g6 (ZdR _) ?_|refine ZbK rfl rfl rfl (by omega) f7 ?_|refine ZXv rfl rfl f7 g7 rfl ?_|refine Zlh rfl rfl rfl hne rfl ?_|refine ZU rfl hj1 rfl rfl ?_|refine ZE ?_|refine ZD ?_|refine ZG rfl ?_|refine ZJ rfl rfl ?_|refine QD rfl ?_|refine Zj rfl rfl rfl rfl ?_|refine Zv rfl rfl ?_|refine ZB rfl ?_|refine ZC ?_|refine Qc rfl ?_|refine QP rfl rfl rfl ?_|(refine QL rfl rfl (fun _=>?_) (fun _=>?_)<;>try (exfalso;omega))|(refine Zi rfl rfl (fun _=>?_) (fun _=>?_)<;>try (exfalso;omega))|(refine Zl rfl rfl (fun _=>?_) (fun _=>?_)<;>try (exfalso;omega))|refine ZS rfl ?_|refine ZH rfl ?_|refine Y9 rfl rfl ?_|refine Qj rfl rfl (by omega) ?_|refine Qm rfl rfl rfl rfl ?_|refine Zt rfl rfl rfl ?_|refine Qv rfl rfl rfl rfl rfl rfl ?_|refine ZA rfl rfl rfl (hBy _) ?_|refine ZA rfl rfl rfl (hWk _) ?_|refine ZA rfl rfl rfl (hMk) ?_|refine ZA rfl rfl rfl (hPk _) ?_|refine ZA rfl rfl rfl (hNew) ?_|refine ZA rfl rfl rfl (hV) ?_|refine ZI ?_|refine ZP ?_|refine ZO ?_|refine ZY ?_)
  all_goals try contradiction
  all_goals try (exfalso;omega)
  all_goals refine Za hA (by first|exact .inl rfl|exact .inr rfl) rfl rfl rfl rfl ?_
  all_goals rfl
 ·have hzi:((ro.at_:Nat):Int)≠0:=by omega
  have h13:=hRt.rt.h13 hGd
  obtain ⟨X2,v2,k,hk,hRd,hc2,st2,e2,e3,e4⟩:=hc.read hGd hRt z0 (by omega) (Nat.zero_le _) (by omega) s.length (by omega)
  have hks:k=s.length:=by
   have:=ZdY s.length (s.drop 0) 0 (by omega)
   rw [<- hk,List.drop_zero] at this;omega
  subst hks;rw [List.drop_zero,List.take_length] at hRd
  rw [show 0+s.length=s.length from Nat.zero_add _] at hc2 e2
  rw [Zow hGd hRt z0,Zlj hGd hRt z0] at e2
  obtain ⟨x,x1,x2,x3,x4⟩:∃ x,lk r.nodes ro.at_=some x/\NdOk x/\x.h=ro.h/\x.mea=ro.m:=by
   rcases hRt.rt with rfl|w
   ·exact absurd rfl z0
   ·exact w.2
  have hNd:=ZjB hGd ro.h ro.at_ x x1 x3 (by omega) (b:=0) hc2.rd.rd
  have hsz:=Zli hGd x1 x3 (by omega)
  have hVP1:=hc.visP;have hVP2:=hc2.visP
  have n1:X.length≠ic:=by rw [lL] at c1;simp at c1;omega
  have n2:X.length≠li:=by rw [lL] at c5;simp at c5;omega
  have hj2:X2[X.length]?=some (.arr 5 0 [ro.av]):=(st2.get _ n1 n2).trans hj1
  have hlp:=Znp hA (a0:=s.length) (vis0:=v2) hGd hRt z0 hsm hc2 (Nat.le_refl _) (by omega) hj2 n1 n2 ns (by omega)
  have hv2:v2=szN r.nodes ro.h ro.at_:=by omega
  unfold Ro.av at hj1 hj2 hNew
  repeat' (first|exact hlp|refine J7 rfl rfl rfl hVP1 ?_|refine J7 rfl rfl rfl hVP2 ?_|refine ZAF rfl ?_|refine ZJs rfl rfl (by omega) f6 ?_|refine ZU rfl f6 g6 (ZdR _) ?_|refine ZbK rfl rfl rfl (by omega) f7 ?_|refine ZXv rfl rfl f7 g7 rfl ?_|refine Zlh rfl rfl rfl hne rfl ?_|refine ZU rfl hj1 rfl rfl ?_|refine ZU rfl hj2 rfl rfl ?_|refine ZE ?_|refine ZD ?_|refine ZG rfl ?_|refine ZJ rfl rfl ?_|refine QD rfl ?_|refine Zj rfl rfl rfl rfl ?_|refine Zv rfl rfl ?_|refine ZB rfl ?_|refine ZC ?_|refine JP rfl ?_|refine Qc rfl ?_|refine QP rfl rfl rfl ?_|(refine QL rfl rfl (fun _=>?_) (fun _=>?_)<;>try (exfalso;omega))|(refine Zi rfl rfl (fun _=>?_) (fun _=>?_)<;>try (exfalso;omega))|(refine Zl rfl rfl (fun _=>?_) (fun _=>?_)<;>try (exfalso;omega))|(refine ZhJ rfl rfl (fun _=>?_) (fun _=>?_)<;>try contradiction)|refine ZH rfl ?_|refine Y9 rfl rfl ?_|refine Zq rfl rfl (by omega) ?_|refine Qj rfl rfl (by omega) ?_|refine Qm rfl rfl rfl rfl ?_|refine Zt rfl rfl rfl ?_|refine Qv rfl rfl rfl rfl rfl rfl ?_|refine ZA rfl rfl rfl (hBy _) ?_|refine ZA rfl rfl rfl (hMk) ?_|refine ZA rfl rfl rfl (hPk _) ?_|refine ZA rfl rfl rfl (hNew) ?_|refine ZA rfl rfl rfl (hRd) ?_|refine ZA rfl rfl rfl (hNd) ?_|refine ZI ?_|refine ZQ ?_)
  all_goals try contradiction
  all_goals try (exfalso;omega)
end Go.Q15
namespace Go.QAbs
open Go.ChangeShapes Go.WideShapes Go.RowKit Go.Deep
variable {P:Program}
def rho0:Rho:=⟨fun _ _=>⟨0,0,0⟩,fun _=>(0,[])⟩
theorem ZjC (lv ix:Nat):St.empty.get lv ix=none:=by
 unfold St.empty St.get
 split<;>simp [vis]
theorem Zll {W:World} {b o:Nat} {v:Value} (h:W.cell? ⟨b,o,none⟩=some v):(cx .empty rho0 W 0).im b o v :=
 ⟨h,fun ⟨lv,ix,w,ver,es,hg,_⟩=>by rw [ZjC] at hg;simp at hg⟩
theorem walk_in (hm:P.follows .mixedOrders=true) {T:Tab} (hT:TabOk P T) {f:FuncId} {args:List AV} (h:∃ st',S T f args .empty=some (.bool true,st')) {W:World} {xs:List Value} (hg:KG P W (.of W)) (hx:RL (cx .empty rho0 W 0) args xs) :
 Calls P f xs.toArray W fun e W'=>e=.returned (.bool true)/\Below W.heap.size W W':=by
 obtain ⟨st',h⟩:=h
 refine (Zmo hm hT h hg (ZiM W) hx).mono fun e' W' ⟨x,_,he,g,hv⟩=>?_
 subst he
 exact ⟨by rw [YF hv],g.rel.below.b⟩
theorem ZdZ {W:World} {b off len cap w:Nat} (es:List AV) (g:Nat->Value) (hlen:es.length=len) (hc:len<=cap) (he:∀ (i:Nat) (e:AV),es[i]?=some e->R (cx .empty rho0 W 0).pure e (g i))
 (hg:∀ i,i<len->(g i).cells.size=w/\∀ (j:Nat) (v:Value),(g i).cells[j]?=some v->W.cell? ⟨b,off+i*w+j,none⟩=some v):R (cx .empty rho0 W 0) (.lit es) (.slice (some ⟨b,off,none⟩) len cap):=by
 subst hlen
 exact .lit (w:=w) g he (fun i hi=>⟨(hg i hi).1,fun j v hv=>Zll ((hg i hi).2 j v hv)⟩) hc
section
variable {H:Type} {enc:TypeId × Value->H}
theorem open_strs_arg {W:World} {base:Nat} {t e:TypeId} {v:Value} {d:DataW H} {ps:List MemPlace} (ht:P.underlying t=some (.slice e)) (he:P.underlying e=some .string) (hc:P.cellsOf e=1)
 (hval:Value.okWide P W .any base t v) (h:DataW.Trod enc P W 0 (fun _=>true) true t v d ps) :
 ∃ ss:List (List UInt8),(∀ s∈ss,s.length<=maxLen)/\ss.length<=maxLen/\R (cx .empty rho0 W 0) (.lit (ss.map .str)) v:=by
 obtain ⟨a0,len,cap,rfl⟩:=okWide_slice ht hval;obtain ⟨fuel,hf⟩:=h
 rcases open_strings ht he hc hf with ⟨hcs,hx⟩|⟨a,len',cap',ss,hcs,_,hl,hm,hz,hx,hcell,hsz⟩
 ·refine ⟨[],by simp,by simp,?_⟩
  have:(Value.slice a0 len cap)=.slice none 0 0:=by simpa [Value.cells] using hcs
  rw [this];exact .lit0 _ _
 ·have hv:(Value.slice a0 len cap)=.slice (some a) len' cap':=by simpa [Value.cells] using hcs
  rw [hv];simp only [if_true] at hz
  refine ⟨(ss.take len').map (fun s=>s.data.toList),?_,?_,?_⟩
  ·intro s hs
   obtain ⟨s',hs',rfl⟩:=List.mem_map.1 hs;rw [Array.length_toList];exact hsz s' (List.mem_of_mem_take hs')
  ·rw [List.length_map,List.length_take];omega
  ·cases len' with
   | zero=>exact .lit0 _ _
   | succ n =>
    obtain ⟨b,off,spot⟩:=a
    have hspot:spot=none:=by simpa [Addr.add] using World.cell?_spot (hcell 0 (by omega))
    subst hspot
    refine ZdZ (w:=1) _ (fun i=>.string (ss.getD i ByteArray.empty)) (by simp;omega) hl (fun i e he=>?_) (fun i hi=>⟨rfl,fun j v hv=>?_⟩)
    ·rw [jG,jG,List.getElem?_take] at he
     by_cases hi:i<n+1
     ·rw [if_pos hi] at he
      have hs:ss[i]?=some (ss.getD i ByteArray.empty):=by
       have:i<ss.length:=by omega
       simp [List.getD,this]
      rw [hs] at he;simp only [Option.map_some,oJ] at he;subst he;rw [ZkK (ss.getD i ByteArray.empty)];exact .str _
     ·rw [if_neg hi] at he;simp at he
    ·have hj : j = 0 := by
      have:j<(Value.string (ss.getD i ByteArray.empty)).cells.size:=(Array.getElem?_eq_some_iff.1 hv).1
      simp [Value.cells] at this;omega
     subst hj
     have hv':Value.string (ss.getD i ByteArray.empty)=v:=by simpa [Value.cells] using hv
     rw [<- hv']
     have:=hcell i (by omega)
     simpa [Addr.add_lit] using this
theorem open_ops_arg {W:World} {base:Nat} {t e t0 t1 t2 t3 t4:TypeId} {f0 f1 f2 f3 f4:Field} {v:Value} {d:DataW H} {ps:List MemPlace} (ht:P.underlying t=some (.slice e)) (he:P.underlying e=some (.struct #[f0,f1,f2,f3,f4])) (hc:P.cellsOf e=5)
 (hf0:f0.type=t0/\f0.offset=0/\P.underlying t0=some (.int .u8)/\P.cellsOf t0=1) (hf1:f1.type=t1/\f1.offset=1/\P.underlying t1=some (.int .i64)/\P.cellsOf t1=1) (hf2:f2.type=t2/\f2.offset=2/\P.underlying t2=some (.int .i64)/\P.cellsOf t2=1)
 (hf3:f3.type=t3/\f3.offset=3/\P.underlying t3=some (.int .i64)/\P.cellsOf t3=1) (hf4:f4.type=t4/\f4.offset=4/\P.underlying t4=some .string/\P.cellsOf t4=1) (hval:Value.okWide P W .any base t v) (h:DataW.Trod enc P W 0 (fun _=>true) true t v d ps) :
 ∃ l:List (Nat × Int × Int × Int × List UInt8),(∀ s∈l,s.2.2.2.2.length<=maxLen)/\l.length<=maxLen/\R (cx .empty rho0 W 0) (.lit (l.map fun q=>.agg [.int .u8 q.1,.int .i64 q.2.1,.int .i64 q.2.2.1,.int .i64 q.2.2.2.1,.str q.2.2.2.2])) v:=by
 obtain ⟨a0,len,cap,rfl⟩:=okWide_slice ht hval;obtain ⟨fuel,hf⟩:=h
 rcases open_slice ht hf with ⟨hcs,hx⟩|⟨a,len',cap',m,n,D,Pl,hcs,_,hl,hm,hmm,hx,hall⟩
 ·refine ⟨[],by simp,by simp,?_⟩
  have:(Value.slice a0 len cap)=.slice none 0 0:=by simpa [Value.cells] using hcs
  rw [this];exact .lit0 _ _
 ·have hv:(Value.slice a0 len cap)=.slice (some a) len' cap':=by simpa [Value.cells] using hcs
  rw [hv];simp only [if_true] at hmm;subst hmm;rw [hc] at hall
  have each:∀ i,i<len'->∃ q:Nat × Int × Int × Int × List UInt8,q.2.2.2.2.length<=maxLen/\W.cell? (a.add (i*5))=some (.int .u8 q.1)/\W.cell? (a.add (i*5+1))=some (.int .i64 q.2.1)/\W.cell? (a.add (i*5+2))=some (.int .i64 q.2.2.1)/\W.cell? (a.add (i*5+3))=some (.int .i64 q.2.2.2.1)/\W.cell? (a.add (i*5+4))=some (.string ⟨q.2.2.2.2.toArray⟩):=by
   intro i hi
   obtain ⟨cs',h1,h2⟩:=hall i (by omega)
   obtain ⟨_,hlen,hcell⟩:=World.cells?_some h1;obtain ⟨xs,k,_,_,_,hxl,hfs⟩:=DataW.trod_struct he h2;have g0:=hfs 0 f0 rfl;have g1:=hfs 1 f1 rfl;have g2:=hfs 2 f2 rfl;have g3:=hfs 3 f3 rfl;have g4:=hfs 4 f4 rfl
   match cs',hlen,xs,hxl with
   | [c0,c1,c2,c3,c4],_,[y0,y1,y2,y3,y4],_ =>
    simp only [hf0.1,hf0.2.1,hf0.2.2.2,hf1.1,hf1.2.1,hf1.2.2.2,hf2.1,hf2.2.1,hf2.2.2.2,hf3.1,hf3.2.1,hf3.2.2.2,hf4.1,hf4.2.1,hf4.2.2.2,List.drop,List.take,List.getElem?_cons_zero,List.getElem?_cons_succ] at g0 g1 g2 g3 g4;obtain ⟨n0,e0,_,w0⟩:=DataW.trod_int hf0.2.2.1 g0;obtain ⟨n1,e1,_,_⟩:=DataW.trod_int hf1.2.2.1 g1;obtain ⟨n2,e2,_,_⟩:=DataW.trod_int hf2.2.2.1 g2;obtain ⟨n3,e3,_,_⟩:=DataW.trod_int hf3.2.2.1 g3;obtain ⟨s,e4,_,hs⟩:=DataW.trod_string hf4.2.2.1 g4;simp only [List.cons.injEq,and_true] at e0 e1 e2 e3 e4;subst e0;subst e1;subst e2;subst e3;subst e4
    have hn0:0<=n0:=by
     simp only [Lit.wf,Bool.and_eq_true,decide_eq_true_eq] at w0;exact w0.1
    refine ⟨(n0.toNat,n1,n2,n3,s.data.toList),by simp only [Array.length_toList];exact hs,?_,?_,?_,?_,?_⟩
    ·have:=hcell 0 (by omega)
     simp only [add_add,Nat.add_zero,List.getElem?_cons_zero] at this;rw [this];simp only [Int.toNat_of_nonneg hn0]
    ·have:=hcell 1 (by omega)
     simpa only [add_add,List.getElem?_cons_succ,List.getElem?_cons_zero] using this
    ·have:=hcell 2 (by omega)
     simpa only [add_add,List.getElem?_cons_succ,List.getElem?_cons_zero] using this
    ·have:=hcell 3 (by omega)
     simpa only [add_add,List.getElem?_cons_succ,List.getElem?_cons_zero] using this
    ·have:=hcell 4 (by omega)
     simp only [add_add,List.getElem?_cons_succ,List.getElem?_cons_zero] at this;rw [this,ZkK s]
  obtain ⟨q,hq⟩:=choose_lt each
  refine ⟨(List.range len').map q,?_,by simp;omega,?_⟩
  ·intro s hs
   obtain ⟨i,hi,rfl⟩:=List.mem_map.1 hs;exact (hq i (List.mem_range.1 hi)).1
  ·cases len' with
   | zero=>exact .lit0 _ _
   | succ len' =>
    obtain ⟨b,off,spot⟩:=a
    have hspot:spot=none:=by simpa [Addr.add] using World.cell?_spot (hq 0 (by omega)).2.1
    subst hspot
    refine ZdZ (w:=5) _ (fun i=>.agg #[.int .u8 (q i).1,.int .i64 (q i).2.1,.int .i64 (q i).2.2.1,.int .i64 (q i).2.2.2.1,.string ⟨(q i).2.2.2.2.toArray⟩]) (by simp) hl (fun i e he=>?_) (fun i hi=>⟨by simp [Value.cells],fun j v hv=>?_⟩)
    ·rw [jG,jG] at he
     by_cases hi:i<len'+1
     ·rw [List.getElem?_range hi] at he
      simp only [Option.map_some,oJ] at he;subst he;have hr:=RL.cons (C:=(cx .empty rho0 W 0).pure) (.int .u8 ((q i).1:Int)) (.cons (.int .i64 (q i).2.1) (.cons (.int .i64 (q i).2.2.1) (.cons (.int .i64 (q i).2.2.2.1) (.cons (.str (q i).2.2.2.2) (.nil _)))));exact .agg (xs:=[_,_,_,_,_]) hr.1 hr.2
     ·have:(List.range (len'+1))[i]?=none:=by simp;omega
      rw [this] at he;simp at he
    ·obtain ⟨_,k0,k1,k2,k3,k4⟩:=hq i hi
     have hj:j<5:=by
      have:=(Array.getElem?_eq_some_iff.1 hv).1
      simpa [Value.cells] using this
     simp only [Addr.add_lit] at k0 k1 k2 k3 k4
     match j,hj with
     | 0,_ =>
      have:v=.int .u8 (q i).1:=by simpa [Value.cells] using hv.symm
      subst this;simpa using k0
     | 1,_ =>
      have:v=.int .i64 (q i).2.1:=by simpa [Value.cells] using hv.symm
      subst this;simpa [Nat.add_assoc] using k1
     | 2,_ =>
      have:v=.int .i64 (q i).2.2.1:=by simpa [Value.cells] using hv.symm
      subst this;simpa [Nat.add_assoc] using k2
     | 3,_ =>
      have:v=.int .i64 (q i).2.2.2.1:=by simpa [Value.cells] using hv.symm
      subst this;simpa [Nat.add_assoc] using k3
     | 4,_ =>
      have:v=.string ⟨(q i).2.2.2.2.toArray⟩:=by simpa [Value.cells] using hv.symm
      subst this;simpa [Nat.add_assoc] using k4
end
end Go.QAbs
namespace Go.Proofs
open Go.Shelf
def Tryz.lays156_ren:Go.Shelf.Ren:=⟨fun|156=>21|165=>79|166=>80|169=>81|240=>147|241=>148|276=>209|277=>210|n=>n,fun|31=>22|9=>9|3=>3|4=>4|0=>0|20=>20|72=>134|76=>138|70=>131|37=>132|75=>137|127=>238|164=>296|5=>5|80=>140|n=>n,fun|n=>n⟩
theorem Tryz.lays156:Go.Proofs.Lays.n156 Tryz.prog Tryz.lays156_ren:={
 mixed:=by kernel_rfl
 f156:=Tryz.func21.trans (congrArg some (by kernel_rfl))
 f165:=Tryz.func79.trans (congrArg some (by kernel_rfl))
 f166:=Tryz.func80.trans (congrArg some (by kernel_rfl))
 f169:=Tryz.func81.trans (congrArg some (by kernel_rfl))
 f240:=Tryz.func147.trans (congrArg some (by kernel_rfl))
 f241:=Tryz.func148.trans (congrArg some (by kernel_rfl))
 f276:=Tryz.func209.trans (congrArg some (by kernel_rfl))
 f277:=Tryz.func210.trans (congrArg some (by kernel_rfl))
 t0:=Tryz.underlying0
 a0:=Tryz.isAgg0
 z0:=Tryz.sizeOf0
 v0:=Tryz.zeroValue0
 t3:=Tryz.underlying3
 a3:=Tryz.isAgg3
 z3:=Tryz.sizeOf3
 v3:=Tryz.zeroValue3
 t4:=Tryz.underlying4
 a4:=Tryz.isAgg4
 z4:=Tryz.sizeOf4
 v4:=Tryz.zeroValue4
 t9:=Tryz.underlying9
 a9:=Tryz.isAgg9
 z9:=Tryz.sizeOf9
 v9:=Tryz.zeroValue9
 t20:=Tryz.underlying20
 a20:=Tryz.isAgg20
 z20:=Tryz.sizeOf20
 v20:=Tryz.zeroValue20
 t31:=Tryz.underlying22
 a31:=Tryz.isAgg22
 z31:=Tryz.sizeOf22
 v31:=Tryz.zeroValue22
 t37:=Tryz.underlying132
 a37:=Tryz.isAgg132
 z37:=Tryz.sizeOf132
 v37:=Tryz.zeroValue132
 t70:=Tryz.underlying131
 a70:=Tryz.isAgg131
 z70:=Tryz.sizeOf131
 v70:=Tryz.zeroValue131
 t72:=Tryz.underlying134
 a72:=Tryz.isAgg134
 z72:=Tryz.sizeOf134
 v72:=Tryz.zeroValue134
 t75:=Tryz.underlying137
 a75:=Tryz.isAgg137
 z75:=Tryz.sizeOf137
 v75:=Tryz.zeroValue137
 t76:=Tryz.underlying138
 a76:=Tryz.isAgg138
 z76:=Tryz.sizeOf138
 v76:=Tryz.zeroValue138
 t127:=Tryz.underlying238
 a127:=Tryz.isAgg238
 z127:=Tryz.sizeOf238
 v127:=Tryz.zeroValue238
 t164:=Tryz.underlying296
 a164:=Tryz.isAgg296
 z164:=Tryz.sizeOf296
 v164:=Tryz.zeroValue296 }
theorem Tryz.Builder_Extra_156:Builder.Extra Tryz.prog Tryz.lays156_ren:={
 sizeBuilder:=by kernel_rfl
 liesBuilder:=by kernel_rfl
 t5:=Tryz.underlying5
 a5:=Tryz.isAgg5
 z5:=Tryz.sizeOf5
 v5:=Tryz.zeroValue5
 infoByte:=by kernel_rfl
 cellsByte:=by kernel_rfl
 sizeByte:=by kernel_rfl
 neB5:=by decide }
open Go.RowKit in
theorem Tryz.strings_Join_none (a:Option Addr) (c:Nat) (sep:ByteArray) (w:World) :
 Calls Tryz.prog 21 #[.slice a 0 c,.string sep] w fun e w'=>e=.returned (.string ⟨#[]⟩)/\w'=w:=Any.strings_Join_none Tryz.lays156 Tryz.Builder_Extra_156 a c sep w
open Go.RowKit in
theorem Tryz.strings_Join (bk o c:Nat) (xs:List ByteArray) (sep:ByteArray) (w:World) (hcells:∀ (j:Nat) x,xs[j]?=some x->w.cell? ⟨bk,o+j,none⟩=some (.string x)) (hbk:bk<w.heap.size) (hN:xs.length<=140737488355328) (hcap:xs.length<=c) (hlen:(Lib.join (xs.map (·.data.toList)) sep.data.toList).length<=140737488355328) :
 Calls Tryz.prog 21 #[.slice (some ⟨bk,o,none⟩) xs.length c,.string sep] w fun e w'=>e=.returned (.string ⟨(Lib.join (xs.map (·.data.toList)) sep.data.toList).toArray⟩)/\Below w.heap.size w w':=Any.strings_Join Tryz.lays156 Tryz.Builder_Extra_156 bk o c xs sep w hcells hbk hN hcap hlen
end Go.Proofs
namespace Go.Q15
open Go Go.QAbs
set_option maxRecDepth 100000
open Go.Shelf in
def Zlm:Ren:=⟨fun|41=>179|n=>n,fun|22=>185|23=>191|n=>n,fun n=>n⟩
theorem Zln:Go.Proofs.SlLaysE0.n41 Proofs.Tryz.prog Zlm:={
 mixed:=by kernel_rfl
 f41 := ⟨"slices.Clone[[]quarto/api.Kid,quarto/api.Kid]", by decide, Proofs.Tryz.func179.trans (congrArg some (by kernel_rfl))⟩
 t4:=Proofs.Tryz.underlying4
 a4:=Proofs.Tryz.isAgg4
 z4:=Proofs.Tryz.sizeOf4
 v4:=Proofs.Tryz.zeroValue4
 t22:=Proofs.Tryz.underlying185
 a22:=Proofs.Tryz.isAgg185
 z22:=Proofs.Tryz.sizeOf185
 v22:=Proofs.Tryz.zeroValue185 }
theorem Zlo:∃ i z,Proofs.Tryz.prog.info? 191=some i/\i.zero=some z/\i.size=4/\i.bytes=32/\z.cells.size=4:=⟨_,_,rfl,rfl,rfl,rfl,rfl⟩
theorem Zgt:Zas Proofs.Tryz.prog Z9 (.base (ZK8 4)):=by
 obtain ⟨i,z,h1,h2,h3,h4,h5⟩:=Zlo
 refine ZkL (T:=191) (fun n c W=>Go.Proofs.AnyE.slices_Clone_nil Zln n c W) fun ad n c news W hl hn hc ho=>?_
 exact ZiO Zln i z 4 32 h1 h2 h3 h4 h5 (by decide) Proofs.Tryz.sizeOf191 ad n c news W hl (by unfold maxLen;omega) (by omega) hc ho
theorem Zox:ZeG Proofs.Tryz.prog tl:=⟨⟨Proofs.Tryz.call179,Zgt⟩,⟨Proofs.Tryz.call21,Zmq Proofs.Tryz.strings_Join_none Proofs.Tryz.strings_Join⟩,Zm4⟩
theorem Tb_ok:TabOk Proofs.Tryz.prog Tb:=ZkJ Zox
def mkEd (q:Nat × Int × Int × Int × List UInt8):Ed:=⟨q.1,q.2.1,q.2.2.1,q.2.2.2.1,q.2.2.2.2⟩
end Go.Q15
namespace Go.QAbs
open Go.ChangeShapes Go.WideShapes Go.RowKit Go.Deep
variable {P:Program}
section
variable {H:Type} {enc:TypeId × Value->H}
theorem open_ints_arg {W:World} {base:Nat} {t e:TypeId} {v:Value} {d:DataW H} {ps:List MemPlace} (ht:P.underlying t=some (.slice e)) (he:P.underlying e=some (.int .i64)) (hc:P.cellsOf e=1)
 (hval:Value.okWide P W .any base t v) (h:DataW.Trod enc P W 0 (fun _=>true) true t v d ps) :
 ∃ l:List Int,l.length<=maxLen/\R (cx .empty rho0 W 0) (.lit (l.map (.int .i64))) v:=by
 obtain ⟨a0,len,cap,rfl⟩:=okWide_slice ht hval;obtain ⟨fuel,hf⟩:=h
 rcases open_ints ht he hc hf with ⟨hcs,hx⟩|⟨a,len',cap',zs,hcs,_,hl,hm,hz,hx,hcell,hsz⟩
 ·refine ⟨[],by simp,?_⟩
  have:(Value.slice a0 len cap)=.slice none 0 0:=by simpa [Value.cells] using hcs
  rw [this];exact .lit0 _ _
 ·have hv:(Value.slice a0 len cap)=.slice (some a) len' cap':=by simpa [Value.cells] using hcs
  rw [hv];simp only [if_true] at hz;refine ⟨zs.take len',?_,?_⟩
  ·rw [List.length_take];omega
  ·cases len' with
   | zero=>exact .lit0 _ _
   | succ n =>
    obtain ⟨b,off,spot⟩:=a
    have hspot:spot=none:=by simpa [Addr.add] using World.cell?_spot (hcell 0 (by omega))
    subst hspot
    refine ZdZ (w:=1) _ (fun i=>.int .i64 (zs.getD i 0)) (by simp;omega) hl (fun i e he=>?_) (fun i hi=>⟨rfl,fun j v hv=>?_⟩)
    ·rw [jG,List.getElem?_take] at he
     by_cases hi:i<n+1
     ·rw [if_pos hi] at he
      have hs:zs[i]?=some (zs.getD i 0):=by
       have:i<zs.length:=by omega
       simp [List.getD,this]
      rw [hs] at he;simp only [Option.map_some,oJ] at he;subst he;exact .int _ _
     ·rw [if_neg hi] at he;simp at he
    ·have hj : j = 0 := by
      have:j<(Value.int .i64 (zs.getD i 0)).cells.size:=(Array.getElem?_eq_some_iff.1 hv).1
      simp [Value.cells] at this;omega
     subst hj
     have hv':Value.int .i64 (zs.getD i 0)=v:=by simpa [Value.cells] using hv
     rw [<- hv']
     have:=hcell i (by omega)
     simpa [Addr.add_lit] using this
end
end Go.QAbs
namespace Go.Q15
open Go Go.QAbs
set_option maxRecDepth 100000
theorem cursorVisits_run (ss:List (List UInt8)) (l:List (Nat × Int × Int × Int × List UInt8)) (which:Int) (ns:List Int) (h1:∀ s∈ss,s.length<=maxLen) (h2:ss.length<=maxLen) (h3:∀ s∈l,s.2.2.2.2.length<=maxLen) (h4:l.length<=maxLen) (_h5:(Lit.int .i64 which).wf=true) (h6:ns.length<=maxLen) :
 ∃ st',S Tb Jl [.lit (ss.map .str),.lit (l.map fun q=>.agg [.int .u8 q.1,.int .i64 q.2.1,.int .i64 q.2.2.1,.int .i64 q.2.2.2.1,.str q.2.2.2.2]),.int .i64 which,.lit (ns.map (.int .i64))] .empty=some (.bool true,st'):=by
 have hm:maxLen<9223372036854775808:=by decide +kernel
 have:=ZXw ss (l.map mkEd) which ns (by omega) (fun s hs=>by have:=h1 s hs;omega) (by rw [List.length_map];omega) (fun s hs=>by obtain ⟨q,hq,rfl⟩:=List.mem_map.1 hs;have:=h3 q hq;simp only [mkEd];omega) (by omega) .empty
 rw [List.map_map] at this;exact ⟨_,this⟩
end Go.Q15
