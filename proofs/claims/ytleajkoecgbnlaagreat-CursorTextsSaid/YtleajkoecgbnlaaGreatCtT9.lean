/- A part of the proof: CUc, CUd, CUe, CUf, CUg, CUh, CUb, CUi, CUj, CUk, CUl, SQe, SB, RZ, SD, SE, SF, SG, SI, SJ, SK, SL, SN, SQf, SQg, SSa, SSb, SSc, SSd, SSe, SSf, SSg, SSh, SSi, SSj, SSk, SSl, SQh, SSm, SSn, CUm, SKd, CUo, CVa, CVb, CVc, CVd, CVe, CVf. No condition. -/
import Derived.Test.YtleajkoecgbnlaaGreatCtT8
set_option linter.unusedSectionVars false
set_option linter.unusedVariables false
set_option linter.unusedSimpArgs false
namespace Go.Q15
open Go Go.QAbs
set_option maxRecDepth 100000
set_option maxHeartbeats 8000000
structure RdO (st:St) (la ix:Nat) (N:ZQ) (ks:List (Nat × Nat)):Prop where
 at_:∃ a0 a1 im a3 a4 a5,st.get la ix=some (.arr 6 0 [.agg [a0,a1,.map la im,a3,a4,a5]])/\st.get la im=some (.map (N.map nodeAV))/\(la,ix)∉ks/\(la,im)∉ks
theorem RdO.rd {st:St} {la ix:Nat} {N:ZQ} {ks:List (Nat × Nat)} (h:RdO st la ix N ks):Rd st la ix N:=by
 obtain ⟨a0,a1,im,a3,a4,a5,h1,h2,_⟩:=h;exact ⟨a0,a1,im,a3,a4,a5,h1,h2⟩
theorem RdO.put {A A0:List (Bool × List Blk)} {L L0:List Blk} {ks:List (Nat × Nat)} {b0 bs:List Blk} {la ix:Nat} {N:ZQ} (h:RdO ⟨A0,false,L0⟩ la ix N ks) (H:Cl ⟨A0,false,L0⟩ ks b0) (hst:(⟨A,false,L⟩:St)=Zx ⟨A0,false,L0⟩ ks bs) (hl:bs.length=ks.length) (hn:bs.all noH=true) (T:List Blk):RdO ⟨A,false,L++T⟩ la ix N ks:=by
 obtain ⟨a0,a1,im,a3,a4,a5,h1,h2,h3,h4⟩:=h;exact ⟨a0,a1,im,a3,a4,a5,Zrq H hst hl hn h3 h1 T,Zrq H hst hl hn h4 h2 T,h3,h4⟩
theorem RdO.push {st:St} {A:List (Bool × List Blk)} {L:List Blk} {ks:List (Nat × Nat)} {la ix:Nat} {N:ZQ} (h:RdO st la ix N ks) (hA:A=st.A++[(st.ro,st.L)]):RdO ⟨A,false,L⟩ la ix N ks:=by
 obtain ⟨a0,a1,im,a3,a4,a5,h1,h2,h3,h4⟩:=h;exact ⟨a0,a1,im,a3,a4,a5,ZW hA h1,ZW hA h2,h3,h4⟩
theorem Zop {A:List (Bool × List Blk)} {L:List Blk} {ks:List (Nat × Nat)} {bs:List Blk} (h:Cl ⟨A,false,L⟩ ks bs) (T:List Blk):Cl ⟨A,false,L++T⟩ ks bs :=
 ⟨h.nd,h.len,fun k hk=>Zj1 (h.wr k hk),fun j lv ix b h1 h2=>XE (h.get j lv ix b h1 h2)⟩
theorem ZiT:∀ {ks:List (Nat × Nat)} {A:List (Bool × List Blk)} {L:List Blk} {b0 bs:List Blk} {T:List Blk},Cl ⟨A,false,L⟩ ks b0->bs.length=ks.length->bs.all noH=true->Zx ⟨A,false,L++T⟩ ks bs=⟨(Zx ⟨A,false,L⟩ ks bs).A,false,(Zx ⟨A,false,L⟩ ks bs).L++T⟩
 | [],_,_,_,bs,_,_,_,_=>by cases bs<;>rfl
 | _::_,_,_,_,[],_,_,h,_=>by simp at h
 | k::ks,A,L,[],b::bs,T,H,_,_=>by have:=H.len;simp at this
 | k::ks,A,L,b'::b0,b::bs,T,H,hl,hn=>by
  simp only [List.all_cons,Bool.and_eq_true] at hn;have hg:=H.get 0 k.1 k.2 b' rfl rfl;have ht:=H.tail hn.1;rw [Zx,Zx,Zge hg]
  have e:St.upd ⟨A,false,L⟩ k.1 k.2 b=⟨(St.upd ⟨A,false,L⟩ k.1 k.2 b).A,false,(St.upd ⟨A,false,L⟩ k.1 k.2 b).L⟩:=by
   have:=Zgf (A:=A) (L:=L) (lv:=k.1) (ix:=k.2) (b:=b)
   cases hq:St.upd ⟨A,false,L⟩ k.1 k.2 b with
   | mk a r l=>rw [hq] at this;simp only at this;rw [this]
  rw [e] at ht
  rw [ZiT ht (by simpa using hl) hn.2,<- e]
theorem Zj5 {A A0:List (Bool × List Blk)} {L L0:List Blk} {ks:List (Nat × Nat)} {b0 bs bs':List Blk} (T:List Blk) (H:Cl ⟨A0,false,L0⟩ ks b0) (hst:(⟨A,false,L⟩:St)=Zx ⟨A0,false,L0⟩ ks bs) (hl:bs.length=ks.length) (hn:bs.all noH=true) (hl':bs'.length=ks.length) (hn':bs'.all noH=true) :
 ∃ A2 L2,Zx ⟨A,false,L++T⟩ ks bs'=⟨A2,false,L2++T⟩/\(⟨A2,false,L2⟩:St)=Zx ⟨A0,false,L0⟩ ks bs':=by
 have H1:=H.put hl hn;rw [<- hst] at H1;refine ⟨_,_,ZiT H1 hl' hn',?_⟩;rw [ZiS,hst,ZCw H.nd hl hl']
def Qp (ap:AV) (r:Ro) (lev:AV) (vis at_:Int):Blk:=.arr 9 0 [.agg [ap,.int .u64 r.at_,.int .i64 r.h,.int .i64 r.m.b,.int .i64 r.m.r,.int .i64 r.m.l,lev,.int .i64 vis,.int .i64 at_]]
def CLv.av (N:ZQ) (l:CLv):AV:=.agg [.int .i64 l.n,.str (QQ N l.o).text,.lit ((QQ N l.o).ks.map Kid.av),.int .i64 l.f,.int .i64 l.t]
def Qn (ap:AV) (r:Ro) (lv li ver m:Nat) (es:List AV) (vis at_:Int):List Blk:=[Qp ap r (.ref lv li ver 0 m) vis at_,.arr 5 ver es]
theorem ZrP {A:List (Bool × List Blk)} {L:List Blk} {lv ic li ver m la b:Nat} {r:Ro} {es:List AV} {vis at_:Int} {N:ZQ} (H:Cl ⟨A,false,L⟩ [(lv,ic),(lv,li)] (Qn (.ptr la (b+5) 0 0 0) r lv li ver m es vis at_)) (hm:m<=es.length) (hm2:m<1000) (hv:0<=vis/\vis<1000000000)
 (hla:la<=lv) (hR:Rd ⟨A,false,L⟩ la (b+5) N) {o:Nat} {x:Nd} (hx:lk N o=some x) (hl:x.ks.length<=4) (f t:Int) :
 ∃ A2 L2 bx,S Tb Jo [.ptr lv ic 0 0 0,.int .u64 o,.int .i64 f,.int .i64 t] ⟨A,false,L⟩=some (.int .i64 0,⟨A2,false,L2++[bx]⟩) /\
  (⟨A2,false,L2⟩:St)=Zx ⟨A,false,L⟩ [(lv,ic),(lv,li)] (Qn (.ptr la (b+5) 0 0 0) r lv li (ver+1) (m+1) (es.take m++[CLv.av N ⟨x.h,o,f,t⟩]) (vis+1) at_):=by
 have hG:=ZTi hR hx hl;have hc0:=H.get 0 lv ic _ rfl rfl
 have hc:=fun T=>XE (T:=T) hc0
 have hnd:=J3 hx;have hcp:x.copy.av=.agg [.int .i64 x.h,.str x.text,.lit (x.ks.map Kid.av)]:=rfl;rw [hcp] at hG
 have hav:CLv.av N ⟨x.h,o,f,t⟩=.agg [.int .i64 x.h,.str x.text,.lit (x.ks.map Kid.av),.int .i64 f,.int .i64 t]:=by
  unfold CLv.av;simp only;rw [hnd]
 rw [hav];obtain ⟨A2,L2,e2⟩:∃ A2 L2,(⟨A2,false,L2⟩:St)=Zx ⟨A,false,L⟩ [(lv,ic),(lv,li)] (Qn (.ptr la (b+5) 0 0 0) r lv li (ver+1) (m+1) (es.take m++[.agg [.int .i64 x.h,.str x.text,.lit (x.ks.map Kid.av),.int .i64 f,.int .i64 t]]) (vis+1) at_):=⟨_,_,ZiS⟩;refine ⟨A2,L2,.arr 3 0 [.agg [.int .i64 x.h,.str x.text,.lit (x.ks.map Kid.av)]],XY rfl ?_,e2⟩;unfold Qp at hc0 hc;have hst:(⟨A,false,L⟩:St)=Zx ⟨A,false,L⟩ [(lv,ic),(lv,li)] (Qn (.ptr la (b+5) 0 0 0) r lv li ver m es vis at_):=H.same.symm
 repeat' (first|refine Zz rfl hc0 rfl rfl ?_|refine Zz rfl (hc _) rfl rfl ?_|refine ZWb rfl rfl rfl ?_|refine ZE ?_|refine ZD ?_|refine ZG rfl ?_|refine ZJ rfl rfl ?_|refine Zp rfl rfl ?_|refine ZB rfl ?_|refine ZC ?_|refine Zb rfl rfl ?_|refine Qf rfl rfl rfl ?_|(refine Ze rfl rfl (fun _=>?_) (fun _=>?_)<;>try (exfalso;omega))|refine ZF rfl ?_|refine Zt rfl rfl rfl ?_|refine Zy rfl rfl rfl ?_|refine JE rfl rfl rfl rfl rfl rfl ?_|refine ZA rfl rfl rfl (hG) ?_|refine ZH ?_)
 all_goals try contradiction
 refine ZrG (j:=1) H hst rfl rfl rfl rfl hm rfl rfl rfl rfl rfl (by simp;omega) (by decide) (fun A3 L3 e3 a3 l3=>?_)
 repeat' (first|refine ZJ rfl rfl ?_|refine Zb rfl rfl ?_)
 refine Zj2 (j:=0) H e3 rfl rfl rfl rfl rfl rfl rfl (JN _ (Nat.lt_succ_self _)) rfl (fun A4 L4 e4 a4 l4=>?_)
 have hc4:=Zoi H e4 rfl rfl (j:=0) rfl rfl
 repeat' (first|refine Zz rfl (hc4 _) rfl rfl ?_|refine ZE ?_|refine ZD ?_|refine ZG rfl ?_|refine ZJ rfl rfl ?_|refine ZB rfl ?_|refine ZC ?_|refine Zb rfl rfl ?_|refine Zm rfl rfl (by omega) ?_)
 refine Zj2 (j:=0) H e4 rfl rfl rfl rfl rfl rfl rfl rfl rfl (fun A5 L5 e5 a5 l5=>?_)
 repeat' (first|refine ZE ?_|refine ZD ?_|refine ZG rfl ?_|refine ZB rfl ?_|refine ZC ?_|refine ZO ?_|refine ZL ?_)
 have e52:(⟨A5,false,L5⟩:St)=⟨A2,false,L2⟩:=by
  rw [e5,e2];rfl
 simp only [St.mk.injEq,true_and] at e52;refine (Jj (.inr rfl) rfl rfl rfl rfl).trans ?_;rw [e52.1,e52.2];rfl
theorem ZmX {A:List (Bool × List Blk)} {L:List Blk} {ic la b:Nat} {r:Ro} {vis at_:Int} {N:ZQ} (hc0:L[ic]?=some (Qp (.ptr la (b+5) 0 0 0) r .nils vis at_)) (hv:0<=vis/\vis<1000000000)
 (hR:Rd ⟨A,false,L⟩ la (b+5) N) {o:Nat} {x:Nd} (hx:lk N o=some x) (hl:x.ks.length<=4) (f t:Int) :
 ∃ bx,S Tb Jo [.ptr A.length ic 0 0 0,.int .u64 o,.int .i64 f,.int .i64 t] ⟨A,false,L⟩=some (.int .i64 0,⟨A,false,(L++[bx,Blk.arr 5 0 [CLv.av N ⟨x.h,o,f,t⟩]]).set ic (Qp (.ptr la (b+5) 0 0 0) r (.ref A.length (L.length+1) 0 0 1) (vis+1) at_)⟩):=by
 have hG:=ZTi hR hx hl
 have hc:=fun T=>Xh (T:=T) hc0
 have hlt:=(List.getElem?_eq_some_iff.1 hc0).1;have hnd:=J3 hx;have hcp:x.copy.av=.agg [.int .i64 x.h,.str x.text,.lit (x.ks.map Kid.av)]:=rfl;rw [hcp] at hG
 have hav:CLv.av N ⟨x.h,o,f,t⟩=.agg [.int .i64 x.h,.str x.text,.lit (x.ks.map Kid.av),.int .i64 f,.int .i64 t]:=by
  unfold CLv.av;simp only;rw [hnd]
 rw [hav];refine ⟨.arr 3 0 [.agg [.int .i64 x.h,.str x.text,.lit (x.ks.map Kid.av)]],XY rfl ?_⟩;unfold Qp at hc0 hc ⊢
 repeat' (first|refine ZV rfl hc0 rfl rfl ?_|refine ZV rfl (hc _) rfl rfl ?_|refine ZWb rfl rfl rfl ?_|refine ZE ?_|refine ZD ?_|refine ZG rfl ?_|refine ZJ rfl rfl ?_|refine Zp rfl rfl ?_|refine ZB rfl ?_|refine ZC ?_|refine Zb rfl rfl ?_|refine Qf rfl rfl rfl ?_|(refine Ze rfl rfl (fun _=>?_) (fun _=>?_)<;>try (exfalso;omega))|refine ZF rfl ?_|refine Zt rfl rfl rfl ?_|refine Zy rfl rfl rfl ?_|refine JE rfl rfl rfl rfl rfl rfl ?_|refine ZA rfl rfl rfl (hG) ?_|refine ZH ?_)
 all_goals try contradiction
 refine ZDh rfl rfl rfl (by simp) (by decide) rfl ?_
 repeat' (first|refine ZJ rfl rfl ?_|refine Zb rfl rfl ?_)
 rw [List.append_assoc];refine JD (hc _) rfl rfl rfl (JN _ (Nat.lt_succ_self _)) rfl ?_
 have hc4:∀ c,((L++([Blk.arr 3 0 [.agg [.int .i64 x.h,.str x.text,.lit (x.ks.map Kid.av)]]]++[Blk.arr 5 0 [.agg [.int .i64 x.h,.str x.text,.lit (x.ks.map Kid.av),.int .i64 f,.int .i64 t]]])).set ic c)[ic]?=some c:=fun c=>List.getElem?_set_self (by simp;omega)
 repeat' (first|refine ZV rfl (hc4 _) rfl rfl ?_|refine ZE ?_|refine ZD ?_|refine ZG rfl ?_|refine ZJ rfl rfl ?_|refine ZB rfl ?_|refine ZC ?_|refine Zb rfl rfl ?_|refine Zm rfl rfl (by omega) ?_)
 refine JD (hc4 _) rfl rfl rfl rfl rfl ?_
 repeat' (first|refine ZE ?_|refine ZD ?_|refine ZG rfl ?_|refine ZB rfl ?_|refine ZC ?_|refine ZO ?_|refine ZL ?_)
 refine (Jj (.inr rfl) rfl rfl rfl rfl).trans ?_;rw [List.set_set]
 simp
theorem Zoq {A0 A:List (Bool × List Blk)} {L0 L T:List Blk} {lv ic li ver m la b:Nat} {r:Ro} {b0:List Blk} {es:List AV} {vis at_:Int} {N:ZQ} {s:List UInt8} (H:Cl ⟨A0,false,L0⟩ [(lv,ic),(lv,li)] b0)
 (hst:(⟨A,false,L⟩:St)=Zx ⟨A0,false,L0⟩ [(lv,ic),(lv,li)] (Qn (.ptr la (b+5) 0 0 0) r lv li ver m es vis at_)) (hm:m<=es.length) (hm2:m<1000) (hv:0<=vis/\vis<1000000000) (hla:la<=lv) (hR:RdO ⟨A0,false,L0⟩ la (b+5) N [(lv,ic),(lv,li)]) (hN:GoodN N)
 {l:CLv} {n:Nat} (hl:CLvOk N s l) (hn:l.n=n+1) {a:Int} (h0:l.f<=a) (h1:a<l.t) (hs:s.length<=100000) {k:List Fr} {Q:JV}
 (hQ:∀ A2 L2 T2,(⟨A2,false,L2⟩:St)=Zx ⟨A0,false,L0⟩ [(lv,ic),(lv,li)] (Qn (.ptr la (b+5) 0 0 0) r lv li (ver+1) (m+1) (es.take m++[CLv.av N (l.down N a)]) (vis+1) at_) ->
  Rk (S Tb) k Q .norm [(0,.ptr lv ic 0 0 0),(1,.int .i64 a),(9,.bool true)] ⟨A2,false,L2++T2⟩) :
 Ru (S Tb) p_cursor_path_enter_24.loop (.blk 4::k) Q [(0,.ptr lv ic 0 0 0),(1,.int .i64 a),(8,.int .i64 l.f),(9,.bool false),(97,.lit ((QQ N l.o).ks.map Kid.av)),(98,.int .i64 (QQ N l.o).ks.length),(99,.int .i64 0)] ⟨A,false,L++T⟩:=by
 obtain ⟨d1,d2,d3,d4,d5,kd,hkd,ko,kb⟩:=hl.down hN hn h0 h1;have hlen:=hl.len hN;have hdl:=d1.len hN;obtain ⟨y,y1,y2,y3⟩:=d1.nd;have eo:(l.down N a).o=kd.at_:=ko;have ef:(l.down N a).f=l.f+Qm Mea.b (QQ N l.o).ks (ZA3 N l.o (a-l.f)):=rfl
 have et:(l.down N a).t=l.f+Qm Mea.b (QQ N l.o).ks (ZA3 N l.o (a-l.f))+kd.m.b:=by
  show l.f+X6 N l.o (a-l.f)+ZLP N l.o (a-l.f)=_
  rw [kb];rfl
 have hyl:y.ks.length<=4:=((hN _ y y1).1).len;have hfit:=hl.fit hN
 have hk4:(QQ N l.o).ks.length<=4:=by
  obtain ⟨x,x1,_⟩:=hl.nd;rw [J3 x1];exact ((hN _ x x1).1).len
 have hdown:l.down N a=⟨y.h,kd.at_,(l.down N a).f,(l.down N a).t⟩:=by
  rw [<- eo,y2]
 generalize hI:ZA3 N l.o (a-l.f)=I at *
 have hIl:=(List.getElem?_eq_some_iff.1 hkd).1
 have mono:∀ i,i<=I->0<=Qm Mea.b (QQ N l.o).ks i/\Qm Mea.b (QQ N l.o).ks i<=Qm Mea.b (QQ N l.o).ks I:=by
  intro i
  have key:∀ (l:List Kid),(∀ k∈l,0<=k.m.b)->0<=(Z8 (l.map Kid.m)).b:=by
   intro l
   induction l with
   | nil=>intro _;exact Int.le_of_eq comp_b.zero.symm
   | cons y m ih2 =>
    intro hq;rw [jC,Z8,comp_b.add]
    have:=ih2 (fun q hq2=>hq q (List.mem_cons_of_mem _ hq2))
    have:=hq y (by simp)
    omega
  intro hi
  refine ⟨key _ (fun k hk=>hfit k (List.mem_of_mem_take hk)),?_⟩
  have e:=congrArg (fun l=>(Z8 (l.map Kid.m)).b) (List.take_append_drop i ((QQ N l.o).ks.take I))
  simp only [List.map_append,ZAH,comp_b.add,List.take_take,Nat.min_eq_left hi] at e
  have:=key (((QQ N l.o).ks.take I).drop i) (fun k hk=>hfit k (List.mem_of_mem_take (List.mem_of_mem_drop hk)))
  unfold Qm;omega
 refine Z0 (α:=Nat × List Blk) (fun p=>[(0,.ptr lv ic 0 0 0),(1,.int .i64 a),(8,.int .i64 (l.f+Qm Mea.b (QQ N l.o).ks p.1)),(9,.bool false),(97,.lit ((QQ N l.o).ks.map Kid.av)),(98,.int .i64 (QQ N l.o).ks.length),(99,.int .i64 p.1)])
  (fun p=>⟨A,false,L++p.2⟩) (fun p=>p.1<=I) (fun p=>I-p.1) (0,T) (by simp [Qm,Z8,comp_b.zero]) rfl (Nat.zero_le _) ?_
 rintro ⟨i,G⟩ hi
 replace hi:i<=I:=hi
 simp only
 obtain ⟨k1,hk1⟩:∃ k,(QQ N l.o).ks[i]?=some k:=⟨_,jE (by omega)⟩
 have qk:0<=((i:Nat):Int)/\(QQ N l.o).ks[((i:Nat):Int).toNat]?=some k1:=⟨by omega,by rw [show ((i:Nat):Int).toNat=i by omega];exact hk1⟩
 have hsu:=ZLr comp_b hk1;have hm1:=mono i hi;have hb0:=hfit k1 (jM hk1);have hfr:((l.f+Qm Mea.b (QQ N l.o).ks i:Int))=l.f+Qm Mea.b (QQ N l.o).ks i:=rfl
 have hb1:k1.m.b<=65536:=by
  obtain ⟨x,x1,_⟩:=hl.nd
  have:=(hN _ x x1).1.ksFit
  rw [J3 x1] at hk1;exact (this k1 (jM hk1)).2
 have hfb:0<=l.f+Qm Mea.b (QQ N l.o).ks i/\l.f+Qm Mea.b (QQ N l.o).ks i<=200000:=by omega
 have e8:l.f+Qm Mea.b (QQ N l.o).ks (i+1)=l.f+Qm Mea.b (QQ N l.o).ks i+k1.m.b:=by omega
 rcases Nat.lt_or_ge i I with hlt|hge
 ·have hm2:=mono (i+1) hlt
  have hnot:¬ a<l.f+Qm Mea.b (QQ N l.o).ks i+k1.m.b:=by omega
  have hG:∀ c:Blk,L++G++[c]=L++(G++[c]):=fun c=>List.append_assoc ..
  generalize hL3:L++G=L3 at *
  unfold Kid.av at *
  simp only at *
  clear hsu hm1 hm2 hfr
  generalize l.f+Qm Mea.b (QQ N l.o).ks i=fr at *
  repeat' (first|refine Xr (f:=Kid.av) rfl rfl qk (fun _=>rfl) ?_|refine ZE ?_|refine ZD ?_|refine ZG rfl ?_|refine ZJ rfl rfl ?_|refine ZB rfl ?_|refine ZC ?_|refine Qf rfl rfl rfl ?_|refine Qx rfl rfl ?_|(refine Zg rfl rfl (fun _=>?_) (fun _=>?_)<;>try (exfalso;omega))|refine ZS rfl ?_|refine ZF rfl ?_|refine Zm rfl rfl (by omega) ?_|refine Zy rfl rfl rfl ?_|refine JE rfl rfl rfl rfl rfl rfl ?_|refine ZH ?_|refine ZP ?_|refine Z7 ?_|refine QJ ?_)
  all_goals try contradiction
  all_goals try (exfalso;omega)
  refine ⟨(i+1,G++[.arr 4 0 [Kid.av k1]]),⟨?_,?_⟩,by simp only;omega,by simp only;omega⟩
  ·simp only
   rw [e8];rfl
  ·exact congrArg (St.mk _ false) (hG _)
 ·obtain rfl:i=I:=by omega
  obtain rfl:k1=kd:=Option.some.inj (hk1.symm.trans hkd)
  have hyes:a<l.f+Qm Mea.b (QQ N l.o).ks i+k1.m.b:=by omega
  have hG:∀ c:Blk,L++G++[c]=L++(G++[c]):=fun c=>List.append_assoc ..
  have H1:=H.put (bs':=Qn (.ptr la (b+5) 0 0 0) r lv li ver m es vis at_) rfl rfl;rw [<- hst] at H1;obtain ⟨A2,L2,bx,hV,e2⟩:=ZrP (Zop H1 (G++[.arr 4 0 [k1.av]])) hm hm2 hv hla (hR.put H hst rfl rfl _).rd y1 hyl (l.down N a).f (l.down N a).t;obtain ⟨A3,L3',f1,f2⟩:=Zj5 (bs':=Qn (.ptr la (b+5) 0 0 0) r lv li (ver+1) (m+1) (es.take m++[CLv.av N (l.down N a)]) (vis+1) at_) (G++[.arr 4 0 [k1.av]]) H hst rfl rfl rfl rfl;rw [eo,<- hdown,f1] at e2;simp only [St.mk.injEq,true_and] at e2;obtain ⟨rfl,rfl⟩:=e2;rw [eo,ef,et,<- hG] at hV;have hq:=hQ _ _ ((G++[.arr 4 0 [k1.av]])++[bx]) f2;rw [<- List.append_assoc] at hq;clear hsu hm1 hfr
  generalize hL3:L++G=L3 at *
  unfold Kid.av at *
  generalize l.f+Qm Mea.b (QQ N l.o).ks i=fr at *
  repeat' (first|exact hq|refine Xr (f:=Kid.av) rfl rfl qk (fun _=>rfl) ?_|refine ZE ?_|refine ZD ?_|refine ZG rfl ?_|refine ZJ rfl rfl ?_|refine ZB rfl ?_|refine ZC ?_|refine Qf rfl rfl rfl ?_|refine Qx rfl rfl ?_|(refine Zg rfl rfl (fun _=>?_) (fun _=>?_)<;>try (exfalso;omega))|(refine Ze rfl rfl (fun _=>?_) (fun _=>?_)<;>try (exfalso;omega))|refine ZS rfl ?_|refine ZF rfl ?_|refine Zm rfl rfl (by omega) ?_|refine Zy rfl rfl rfl ?_|refine JE rfl rfl rfl rfl rfl rfl ?_|refine ZA rfl rfl rfl (hV) ?_|refine ZH ?_|refine Zu ?_|refine ZP ?_|refine Zh ?_|refine Zc rfl ?_|refine ZLZ rfl ?_|refine Zs ?_)
  all_goals try contradiction
  all_goals try (exfalso;omega)
structure EnS where
 k:Nat
 ver:Nat
 es:List AV
 A:List (Bool × List Blk)
 L:List Blk
 T:List Blk
 xs:Env
theorem ZC0 {α:Type} {l:List α} {k:Nat} {x:α} (h:l[k]?=some x):l.take (k+1)=l.take k++[x]:=by
 rw [List.take_add_one,h];rfl
theorem Zav {A0 A:List (Bool × List Blk)} {L0 L T:List Blk} {lv ic li ver k0 la b:Nat} {r:Ro} {b0:List Blk} {es:List AV} {vis at_:Int} {N:ZQ} {s:List UInt8} {xs:Env} (H:Cl ⟨A0,false,L0⟩ [(lv,ic),(lv,li)] b0)
 (hst:(⟨A,false,L⟩:St)=Zx ⟨A0,false,L0⟩ [(lv,ic),(lv,li)] (Qn (.ptr la (b+5) 0 0 0) r lv li ver k0 es vis at_)) (hla:la<=lv) (hR:RdO ⟨A0,false,L0⟩ la (b+5) N [(lv,ic),(lv,li)]) (hN:GoodN N)
 {rt:CLv} {n:Nat} (hrt:CLvOk N s rt) (hn:rt.n=n) (hn16:n<=16) {a:Int} (h0:rt.f<=a) (h1:a<rt.t) (hs:s.length<=100000) (hk0:1<=k0/\k0<=n+1) (hv:0<=vis/\vis<900000000) (hke:k0<=es.length) (hes:es.take k0=((QN N a n rt).take k0).map (CLv.av N)) {kf:List Fr} {Q:JV}
 (hQ:∀ A2 L2 T2 ver2 es2,(⟨A2,false,L2⟩:St)=Zx ⟨A0,false,L0⟩ [(lv,ic),(lv,li)] (Qn (.ptr la (b+5) 0 0 0) r lv li ver2 (n+1) es2 (vis+((n+1-k0:Nat):Int)) at_)->n+1<=es2.length->es2.take (n+1)=(QN N a n rt).map (CLv.av N) ->
  Rk (S Tb) kf Q .ret [(4,.int .i64 0)] ⟨A2,false,L2++T2⟩) :
 Ru (S Tb) p_cursor_path_enter_27.loop (.blk 2::kf) Q ((0,.ptr lv ic 0 0 0)::(1,.int .i64 a)::xs) ⟨A,false,L++T⟩:=by
 have hpl:=ZCz N a n rt
 refine Z0 (α:=EnS) (fun q=>(0,.ptr lv ic 0 0 0)::(1,.int .i64 a)::q.xs) (fun q=>⟨q.A,false,q.L++q.T⟩)
  (fun q=>(⟨q.A,false,q.L⟩:St)=Zx ⟨A0,false,L0⟩ [(lv,ic),(lv,li)] (Qn (.ptr la (b+5) 0 0 0) r lv li q.ver q.k q.es (vis+((q.k-k0:Nat):Int)) at_)/\k0<=q.k/\q.k<=n+1/\q.k<=q.es.length/\q.es.take q.k=((QN N a n rt).take q.k).map (CLv.av N)) (fun q=>n+1-q.k) ⟨k0,ver,es,A,L,T,xs⟩ rfl rfl ⟨by simp only [Nat.sub_self];rw [hst];simp,Nat.le_refl _,hk0.2,hke,hes⟩ ?_
 clear hst hes hke
 rintro ⟨k,ver,es,A,L,T,xs⟩ ⟨hst,hk1,hk2,hke,hes⟩
 simp only at hst hk1 hk2 hke hes ⊢
 obtain ⟨l,hl⟩:∃ l,(QN N a n rt)[k-1]?=some l:=⟨_,jE (by rw [hpl];omega)⟩
 obtain ⟨p1,p2,p3,p4,p5,p6⟩:=ZAi hN n rt hn hrt h0 h1 (k-1) l hl;have hll:=p1.len hN
 have hel:es[0+(((k:Nat):Int)-1).toNat]?=some (CLv.av N l):=by
  rw [show 0+(((k:Nat):Int)-1).toNat=k-1 by omega]
  have e1:(es.take k)[k-1]?=es[k-1]?:=List.getElem?_take_of_lt (by omega)
  rw [<- e1,hes,jG,List.getElem?_take_of_lt (by omega),hl];rfl
 have hc:=Zoi H hst rfl rfl (j:=0) rfl rfl;have hlv:=Zoi H hst rfl rfl (j:=1) rfl rfl
 have hwi:∀ T,wIs 5 ver (St.get ⟨A,false,L++T⟩ lv li)=true:=fun T=>by rw [hlv T];simp [wIs]
 have hasc:∀ c:List Blk,L++T++c=L++(T++c):=fun c=>List.append_assoc ..
 have hvis:0<=vis+((k-k0:Nat):Int)/\vis+((k-k0:Nat):Int)<1000000000:=by omega
 cases hln:l.n with
 | zero =>
  have hkn:k=n+1:=by omega
  subst hkn
  have hfull:es.take (n+1)=(QN N a n rt).map (CLv.av N):=by
   rw [hes,List.take_of_length_le (by rw [hpl];exact Nat.le_refl _)]
  have hav:CLv.av N l=.agg [.int .i64 ((0:Nat):Int),.str (QQ N l.o).text,.lit ((QQ N l.o).ks.map Kid.av),.int .i64 l.f,.int .i64 l.t]:=by
   unfold CLv.av;rw [hln]
  rw [hav] at hel;have hq:=hQ A L (T++[.arr 5 0 [.agg [.int .i64 ((0:Nat):Int),.str (QQ N l.o).text,.lit ((QQ N l.o).ks.map Kid.av),.int .i64 l.f,.int .i64 l.t]]]) ver es hst hke hfull;rw [<- hasc] at hq;unfold Qp at hc
  repeat' (first|exact hq|refine Zz rfl (hc _) rfl rfl ?_|refine XW rfl rfl (by omega) (hwi _) ?_|refine Zz rfl (hlv _) hel rfl ?_|refine ZE ?_|refine ZD ?_|refine ZG rfl ?_|refine ZJ rfl rfl ?_|refine ZB rfl ?_|refine ZC ?_|refine Zb rfl rfl ?_|refine Qj rfl ?_|refine Qf rfl rfl rfl ?_|(refine Zi rfl rfl (fun _=>?_) (fun _=>?_)<;>try (exfalso;omega))|refine ZS rfl ?_|refine QS rfl rfl (by omega) ?_|refine Zy rfl rfl rfl ?_|refine JE rfl rfl rfl rfl rfl rfl ?_|refine ZO ?_|refine ZP ?_|refine ZU ?_|refine QF ?_|refine Y0 ?_)
  all_goals try contradiction
  all_goals try (exfalso;omega)
 | succ n' =>
  have hav:CLv.av N l=.agg [.int .i64 ((n'+1:Nat):Int),.str (QQ N l.o).text,.lit ((QQ N l.o).ks.map Kid.av),.int .i64 l.f,.int .i64 l.t]:=by
   unfold CLv.av;rw [hln]
  rw [hav] at hel
  have hnext:=Zaq N a n rt (k-1) l (by omega) hl
  rw [show k-1+1=k by omega] at hnext
  have hck:=fun (T:List Blk) (kf:List Fr) (Q:JV)=>Zoq (T:=T) (k:=kf) (Q:=Q) H hst hke (by omega) hvis hla hR hN p1 hln p3 p4 hs
  have hgo:∀ A2 L2 T2 (x:Nat × AV),(⟨A2,false,L2⟩:St)=Zx ⟨A0,false,L0⟩ [(lv,ic),(lv,li)] (Qn (.ptr la (b+5) 0 0 0) r lv li (ver+1) (k+1) (es.take k++[CLv.av N (l.down N a)]) (vis+((k-k0:Nat):Int)+1) at_) ->
   ∃ q:EnS,((0,AV.ptr lv ic 0 0 0)::(1,AV.int .i64 a)::[x]=(0,AV.ptr lv ic 0 0 0)::(1,AV.int .i64 a)::q.xs/\(⟨A2,false,L2++T2⟩:St)=⟨q.A,false,q.L++q.T⟩) /\
    ((⟨q.A,false,q.L⟩:St)=Zx ⟨A0,false,L0⟩ [(lv,ic),(lv,li)] (Qn (.ptr la (b+5) 0 0 0) r lv li q.ver q.k q.es (vis+((q.k-k0:Nat):Int)) at_)/\k0<=q.k/\q.k<=n+1/\q.k<=q.es.length/\q.es.take q.k=((QN N a n rt).take q.k).map (CLv.av N))/\n+1-q.k<n+1-k:=by
   intro A2 L2 T2 x e2
   refine ⟨⟨k+1,ver+1,es.take k++[CLv.av N (l.down N a)],A2,L2,T2,[x]⟩,⟨rfl,rfl⟩,⟨?_,by simp only;omega,by simp only;omega,by simp only [lL,List.length_take,List.length_singleton];omega,?_⟩,by simp only;omega⟩
   ·simp only
    rw [e2,show vis+((k+1-k0:Nat):Int)=vis+((k-k0:Nat):Int)+1 by omega]
   ·simp only
    rw [List.take_of_length_le (by simp;omega),ZC0 hnext,List.map_append,hes];rfl
  unfold Qp at hc
  repeat' (first|refine Zz rfl (hc _) rfl rfl ?_|refine XW rfl rfl (by omega) (hwi _) ?_|refine Zz rfl (hlv _) hel rfl ?_|refine ZMo rfl ?_|refine ZE ?_|refine ZD ?_|refine ZG rfl ?_|refine ZJ rfl rfl ?_|refine ZB rfl ?_|refine ZC ?_|refine Zb rfl rfl ?_|refine Qj rfl ?_|refine Qf rfl rfl rfl ?_|(refine Zi rfl rfl (fun _=>?_) (fun _=>?_)<;>try (exfalso;omega))|refine ZF rfl ?_|refine QS rfl rfl (by omega) ?_|refine Zy rfl rfl rfl ?_|refine JE rfl rfl rfl rfl rfl rfl ?_|refine ZH ?_|refine ZP ?_)
  all_goals try contradiction
  all_goals try (exfalso;omega)
  rw [hasc]
  refine hck _ _ _ (fun A2 L2 T2 e2=>?_)
  have hg2:=fun x=>hgo A2 L2 T2 x e2
  repeat' (first|exact hg2 _|refine ZE ?_|refine ZD ?_|refine ZG rfl ?_|refine ZB rfl ?_|refine ZC ?_|refine ZF rfl ?_|refine YF rfl rfl ?_|refine ZH ?_|refine Z7 ?_|refine QJ ?_)
  all_goals try contradiction
def EnQ (A0:List (Bool × List Blk)) (L0:List Blk) (lv ic li la b:Nat) (r:Ro) (N:ZQ) (n:Nat) (rt:CLv) (a vis at_:Int) (v:AV) (st':St):Prop :=
 v=.int .i64 0/\∃ A2 L2 T2 ver es,st'=⟨A2,false,L2++T2⟩/\(⟨A2,false,L2⟩:St)=Zx ⟨A0,false,L0⟩ [(lv,ic),(lv,li)] (Qn (.ptr la (b+5) 0 0 0) r lv li ver (n+1) es vis at_)/\n+1<=es.length/\es.take (n+1)=(QN N a n rt).map (CLv.av N)
theorem Zgh {A0:List (Bool × List Blk)} {L0:List Blk} {lv ic li ver la b:Nat} {r:Ro} {es:List AV} {vis at_:Int} {N:ZQ} {s:List UInt8} {rt:CLv} {n:Nat} {p a:Int} (H:Cl ⟨A0,false,L0⟩ [(lv,ic),(lv,li)] (Qn (.ptr la (b+5) 0 0 0) r lv li ver (n+1) es vis at_))
 (hla:la<=lv) (hR:RdO ⟨A0,false,L0⟩ la (b+5) N [(lv,ic),(lv,li)]) (hN:GoodN N) (hrt:CLvOk N s rt) (hn:rt.n=n) (hn16:n<=16) (hp0:rt.f<=p) (hp1:p<rt.t) (h0:rt.f<=a) (h1:a<rt.t) (hs:s.length<=100000) (hv:0<=vis/\vis<800000000)
 (hke:n+1<=es.length) (hes:es.take (n+1)=(QN N p n rt).map (CLv.av N)) :
 Sp Tb QX [.ptr lv ic 0 0 0,.int .i64 a] ⟨A0,false,L0⟩ (EnQ A0 L0 lv ic li la b r N n rt a (vis+((n+1-cmL N p a n rt:Nat):Int)) at_):=by
 refine ZWX (rfl:Tb QX=some (.pf YJ)) ?_;have hcm:=Zar N p a n rt;have hpl:=ZCz N p n rt
 have hcl:∀ k,cmL N p a n rt<=k->k<=n+1->k<=es.length:=fun k _ h=>by omega
 have hst0:(⟨A0,false,L0⟩:St)=Zx ⟨A0,false,L0⟩ [(lv,ic),(lv,li)] (Qn (.ptr la (b+5) 0 0 0) r lv li ver (n+1) es vis at_):=H.same.symm
 have e00:(⟨A0,false,L0⟩:St)=⟨A0,false,L0++[]⟩:=by rw [lN]
 rw [e00]
 repeat' (first|refine ZE ?_|refine ZD ?_|refine ZG rfl ?_|refine ZB rfl ?_|refine ZC ?_|refine ZP ?_)
 refine Z0 (α:=Nat × List (Bool × List Blk) × List Blk × List Blk) (fun q=>[(0,.ptr lv ic 0 0 0),(1,.int .i64 a)]) (fun q=>⟨q.2.1,false,q.2.2.1++q.2.2.2⟩)
  (fun q=>(⟨q.2.1,false,q.2.2.1⟩:St)=Zx ⟨A0,false,L0⟩ [(lv,ic),(lv,li)] (Qn (.ptr la (b+5) 0 0 0) r lv li ver q.1 es vis at_)/\cmL N p a n rt<=q.1/\q.1<=n+1) (fun q=>q.1) (n+1,A0,L0,[]) rfl rfl ⟨hst0,hcm.2,Nat.le_refl _⟩ ?_
 clear hst0 e00
 rintro ⟨k,A,L,T⟩ ⟨hst,hk1,hk2⟩
 simp only at hst hk1 hk2 ⊢
 obtain ⟨l,hl⟩:∃ l,(QN N p n rt)[k-1]?=some l:=⟨_,jE (by rw [hpl];omega)⟩
 obtain ⟨p1,p2,p3,p4,p5,p6⟩:=ZAi hN n rt hn hrt hp0 hp1 (k-1) l hl;have hll:=p1.len hN
 have hel:es[0+(((k:Nat):Int)-1).toNat]?=some (CLv.av N l):=by
  rw [show 0+(((k:Nat):Int)-1).toNat=k-1 by omega]
  have e1:(es.take (n+1))[k-1]?=es[k-1]?:=List.getElem?_take_of_lt (by omega)
  rw [<- e1,hes,jG,hl];rfl
 have hc:=Zoi H hst rfl rfl (j:=0) rfl rfl;have hlv:=Zoi H hst rfl rfl (j:=1) rfl rfl
 have hwi:∀ T,wIs 5 ver (St.get ⟨A,false,L++T⟩ lv li)=true:=fun T=>by rw [hlv T];simp [wIs]
 have hasc:∀ c:List Blk,L++T++c=L++(T++c):=fun c=>List.append_assoc ..
 have hin:(l.f<=a/\a<l.t)↔k=cmL N p a n rt:=by
  constructor
  ·intro q
   rcases Nat.lt_or_ge (k-1) (cmL N p a n rt) with w|w
   ·omega
   ·exact absurd q (ZlA hN n rt hn hrt hp0 hp1 h0 h1 (k-1) l hl w)
  ·intro q
   have e1:((QN N p n rt).take (cmL N p a n rt))[k-1]?=some l:=by rw [List.getElem?_take_of_lt (by omega)];exact hl
   rw [Zas,List.getElem?_take_of_lt (by omega)] at e1
   obtain ⟨_,_,w1,w2,_⟩:=ZAi hN n rt hn hrt h0 h1 (k-1) l e1;exact ⟨w1,w2⟩
 have hav:CLv.av N l=.agg [.int .i64 l.n,.str (QQ N l.o).text,.lit ((QQ N l.o).ks.map Kid.av),.int .i64 l.f,.int .i64 l.t]:=rfl;rw [hav] at hel
 by_cases hka:k=cmL N p a n rt
 ·have hq:=hin.2 hka
  have htail:=fun (T:List Blk) (xs:Env) (kf:List Fr) (Q:JV)=>Zav (T:=T) (xs:=xs) (kf:=kf) (Q:=Q) H hst hla hR hN hrt hn hn16 h0 h1 hs (by omega) (by omega) (hcl k hk1 hk2) (by
   rw [hka]
   have e1:es.take (cmL N p a n rt)=(es.take (n+1)).take (cmL N p a n rt):=by rw [List.take_take,Nat.min_eq_left hcm.2]
   rw [e1,hes,<- List.map_take,Zas])
  rw [hka] at htail;have hq0:=hq.1;have hq1:=hq.2;unfold Qp at hc
  have hc':=fun c:List Blk=>(congrArg (fun X=>St.get ⟨A,false,X⟩ lv ic) (hasc c)).trans (hc (T++c))
  repeat' (first|refine Zz rfl (hc _) rfl rfl ?_|refine Zz rfl (hc' _) rfl rfl ?_|refine XW rfl rfl (by omega) (hwi _) ?_|refine Zz rfl (hlv _) hel rfl ?_|refine ZE ?_|refine ZD ?_|refine ZG rfl ?_|refine ZJ rfl rfl ?_|refine Z2 rfl ?_|refine Zf rfl rfl rfl rfl ?_|refine ZB rfl ?_|refine ZC ?_|refine Zb rfl rfl ?_|refine Qj rfl ?_|refine Qf rfl rfl rfl ?_|(refine Zg rfl rfl (fun _=>?_) (fun _=>?_)<;>try (exfalso;omega))|(refine QD rfl rfl (fun _=>?_) (fun _=>?_)<;>try (exfalso;omega))|(refine JQ rfl rfl (fun _=>?_) (fun _=>?_)<;>try (exfalso;omega))|(refine Zi rfl rfl (fun _=>?_) (fun _=>?_)<;>try (exfalso;omega))|refine ZS rfl ?_|refine ZF rfl ?_|refine QS rfl rfl (by omega) ?_|refine Zy rfl rfl rfl ?_|refine JE rfl rfl rfl rfl rfl rfl ?_|refine ZH ?_|refine Zu ?_|refine ZP ?_|refine Zh ?_|refine Zc rfl ?_|refine ZLZ rfl ?_|refine Zs ?_)
  all_goals try contradiction
  all_goals try (exfalso;omega)
  rw [hasc]
  refine htail _ _ _ _ (fun A2 L2 T2 ver2 es2 e2 f2 f3=>?_)
  repeat' (refine ZL ?_)
  exact ⟨_,_,Jj (.inr rfl) rfl rfl rfl rfl,rfl,A2,L2,T2,ver2,es2,rfl,e2,f2,f3⟩
 ·have hq:¬ (l.f<=a/\a<l.t):=fun w=>hka (hin.1 w)
  have hcE:∀ A2 L2 T2,(⟨A2,false,L2⟩:St)=Zx ⟨A0,false,L0⟩ [(lv,ic),(lv,li)] ((Qn (.ptr la (b+5) 0 0 0) r lv li ver k es vis at_).set 0 (.arr 9 0 ([AV.agg [.ptr la (b+5) 0 0 0,.int .u64 r.at_,.int .i64 r.h,.int .i64 r.m.b,.int .i64 r.m.r,.int .i64 r.m.l,.ref lv li ver 0 k,.int .i64 vis,.int .i64 at_]].set 0 (.agg [.ptr la (b+5) 0 0 0,.int .u64 r.at_,.int .i64 r.h,.int .i64 r.m.b,.int .i64 r.m.r,.int .i64 r.m.l,.ref lv li ver 0 (k-1),.int .i64 vis,.int .i64 at_])))) ->
   ∃ q:Nat × List (Bool × List Blk) × List Blk × List Blk,(([(0,AV.ptr lv ic 0 0 0),(1,AV.int .i64 a)]:Env)=[(0,.ptr lv ic 0 0 0),(1,.int .i64 a)]/\(⟨A2,false,L2++T2⟩:St)=⟨q.2.1,false,q.2.2.1++q.2.2.2⟩) /\
   ((⟨q.2.1,false,q.2.2.1⟩:St)=Zx ⟨A0,false,L0⟩ [(lv,ic),(lv,li)] (Qn (.ptr la (b+5) 0 0 0) r lv li ver q.1 es vis at_)/\cmL N p a n rt<=q.1/\q.1<=n+1)/\q.1<k:=fun A2 L2 T2 e2=>⟨(k-1,A2,L2,T2),⟨rfl,rfl⟩,⟨e2,by simp only;omega,by simp only;omega⟩,by show k-1<k;omega⟩
  unfold Qp at hc
  have hslc:(((k:Nat):Int)-1).toNat=k-1:=by omega
  have hc':=fun c:List Blk=>(congrArg (fun X=>St.get ⟨A,false,X⟩ lv ic) (hasc c)).trans (hc (T++c))
  have hwi':∀ c:List Blk,wIs 5 ver (St.get ⟨A,false,L++T++c⟩ lv li)=true:=fun c=>by rw [hasc];exact hwi _
  repeat' (first|refine Zz rfl (hc _) rfl rfl ?_|refine Zz rfl (hc' _) rfl rfl ?_|refine XW rfl rfl (by omega) (hwi _) ?_|refine Zz rfl (hlv _) hel rfl ?_|refine ZF3 rfl rfl (by omega) (hwi' _) ?_|refine ZE ?_|refine ZD ?_|refine ZG rfl ?_|refine ZJ rfl rfl ?_|refine Z2 rfl ?_|refine Q9 rfl rfl ?_|refine Zf rfl rfl rfl rfl ?_|refine ZB rfl ?_|refine ZC ?_|refine Zb rfl rfl ?_|refine Qj rfl ?_|refine Qf rfl rfl rfl ?_|(refine Zg rfl rfl (fun _=>?_) (fun _=>?_)<;>try (exfalso;omega))|(refine QD rfl rfl (fun _=>?_) (fun _=>?_)<;>try (exfalso;omega))|(refine JQ rfl rfl (fun _=>?_) (fun _=>?_)<;>try (exfalso;omega))|refine ZS rfl ?_|refine ZF rfl ?_|refine QS rfl rfl (by omega) ?_|refine Zy rfl rfl rfl ?_|refine JE rfl rfl rfl rfl rfl rfl ?_|refine ZH ?_|refine ZP ?_)
  all_goals try contradiction
  all_goals try (exfalso;omega)
  all_goals rw [hasc]
  all_goals refine Zj2 (j:=0) H hst rfl rfl rfl rfl rfl rfl rfl (JN _ (Nat.lt_succ_self _)) rfl (fun A2 L2 e2 _ _=>?_)
  all_goals rw [hslc] at e2
  all_goals repeat' (first|refine ZB rfl ?_|refine Z7 ?_|refine QJ ?_)
  all_goals exact hcE A2 L2 _ e2
theorem Zor {st:St} {la b:Nat} {N:ZQ} (hN:GoodN N) (hR:Rd st la (b+5) N) {r:Ro} {s:List UInt8} (h:Rt N r s) (hs:s.length<=100000):S Tb ZDC [.ptr la (b+5) 0 0 0,r.av] st=some (.int .i64 0,st):=by
 refine Z9 rfl (fun A hA=>?_)
 obtain ⟨t,hB⟩:∃ t,∀ L,S Tb Ym [.ptr la (b+5) 0 0 0,r.av,.int .i64 0] ⟨A,false,L⟩=some (.tup [.bool t,.int .i64 0],⟨A,false,L⟩):=by
  match s,h with
  | [],h=>exact ⟨true,fun L=>Zgg hN (hR.push hA) h (by simp)⟩
  | c::s,h=>exact ⟨_,fun L=>Zj4 hN (hR.push hA) h (i:=0) (c:=c) rfl hs⟩
 unfold Ro.av at *
 repeat' (first|refine ZE ?_|refine ZD ?_|refine ZG rfl ?_|refine ZV rfl rfl rfl rfl ?_|refine Zp rfl rfl ?_|refine ZB rfl ?_|refine ZC ?_|refine Zk rfl rfl rfl ?_|refine ZA rfl rfl rfl (hB _) ?_|refine ZO ?_|refine ZL ?_)
 all_goals refine ZX hA (by first|exact .inl rfl|exact .inr rfl) rfl rfl rfl rfl ?_
 all_goals rfl
def QU (r:Ro):CLv:=⟨r.h,r.at_,0,r.m.b⟩
theorem Rt.lv {N:ZQ} (hN:GoodN N) {r:Ro} {s:List UInt8} (h:Rt N r s) (h0:r.at_≠0):CLvOk N s (QU r)/\(QU r).t=s.length/\0<s.length:=by
 obtain ⟨hb1,hb2⟩:=h.b hN
 rcases h.rt with e|⟨_,x,x1,x2,x3,x4⟩
 ·rw [e] at h0;exact absurd rfl h0
 refine ⟨⟨⟨x,x1,x3,by rw [x4];show _=r.m.b-0;omega⟩,[],[],?_,rfl⟩,hb2,?_⟩
 ·have:=h.tx
  unfold ZFk at this;rw [if_neg h0] at this
  simp [QU,this]
 ·have hp : 0 < x.mea.b := by
   rcases x2 with q|⟨n,ks,q⟩
   ·unfold Nd.mea;rw [if_pos q.h];have:=q.lo;show 0<((x.text.length:Nat):Int);omega
   ·have e:=q.eq;subst e
    unfold Nd.mea
    rw [if_neg (by simp)]
    have h1:∀ k∈ks,0<k.m.b:=fun k hk=>by
     have:=(q.kid k hk).lo
     have h2:1<=leastB n:=by unfold leastB;exact Nat.le_trans (by decide) (Nat.mul_le_mul_left 8 Nat.one_le_two_pow)
     omega
    have key:∀ (l:List Kid),(∀ k∈l,0<k.m.b)->0<=(Z8 (l.map Kid.m)).b:=by
     intro l
     induction l with
     | nil=>intro _;exact Int.le_of_eq comp_b.zero.symm
     | cons y m ih2 =>
      intro hq;rw [jC,Z8,comp_b.add]
      have:=ih2 (fun q hq2=>hq q (List.mem_cons_of_mem _ hq2))
      have:=hq y (by simp)
      omega
    match ks,q.lo,h1 with
    | k::l,_,h1 =>
     show 0<(Z8 ((k::l).map Kid.m)).b
     rw [jC,Z8,comp_b.add]
     have:=key l (fun z hz=>h1 z (List.mem_cons_of_mem _ hz))
     have:=h1 k (by simp)
     omega
  rw [x4,hb2] at hp;omega
theorem Zaw:∀ {ks:List (Nat × Nat)} {A:List (Bool × List Blk)} {L:List Blk} {bs:List Blk},(∀ k∈ks,k.1=A.length)->(Zx ⟨A,false,L⟩ ks bs).A=A
 | [],_,_,_,_=>by cases ‹List Blk›<;>rfl
 | _::_,_,_,[],_=>rfl
 | k::ks,A,L,b::bs,h=>by
  rw [Zx]
  have e:St.upd ⟨A,false,L⟩ k.1 k.2 b=⟨A,false,L.set k.2 b⟩:=by
   unfold St.upd
   rw [if_pos (h k (by simp))]
  rw [e]
  exact Zaw (fun q hq=>h q (by simp [hq]))
theorem ZeQ {ks:List (Nat × Nat)}:∀ {A:List (Bool × List Blk)} {L:List Blk} {bs:List Blk},(∀ k∈ks,k.1=A.length)->∀ i,(A.length,i)∉ks->(Zx ⟨A,false,L⟩ ks bs).L[i]?=L[i]?:=by
 induction ks with
 | nil=>intro A L bs _ i _;cases bs<;>rfl
 | cons k ks ih =>
  intro A L bs h i hi
  cases bs with
  | nil=>rfl
  | cons b bs =>
   rw [Zx]
   have hk:=h k (by simp)
   have e:St.upd ⟨A,false,L⟩ k.1 k.2 b=⟨A,false,L.set k.2 b⟩:=by
    unfold St.upd;rw [if_pos hk]
   simp only [List.mem_cons,not_or] at hi
   rw [e,ih (fun q hq=>h q (by simp [hq])) i hi.2,jS]
   intro q
   exact hi.1 (by rw [<- hk,<- q])
theorem ZmY {A:List (Bool × List Blk)} {L:List Blk} {ic la b:Nat} {r:Ro} {N:ZQ} {s:List UInt8} (hN:GoodN N) (h:Rt N r s) (h0:r.at_≠0) (hs:s.length<=100000) (hc:L[ic]?=some (Qp (.ptr la (b+5) 0 0 0) r .nils 0 0)) (hla:la<=A.length)
 (hR:∃ a0 a1 im a3 a4 a5,St.get ⟨A,false,L⟩ la (b+5)=some (.arr 6 0 [.agg [a0,a1,.map la im,a3,a4,a5]])/\St.get ⟨A,false,L⟩ la im=some (.map (N.map nodeAV))) :
 Sp Tb QX [.ptr A.length ic 0 0 0,.int .i64 0] ⟨A,false,L⟩ (fun v st'=>v=.int .i64 0/\∃ X ver es,st'=⟨A,false,X⟩/\Cl ⟨A,false,X⟩ [(A.length,ic),(A.length,L.length+1)] (Qn (.ptr la (b+5) 0 0 0) r A.length (L.length+1) ver (r.h+1) es ((r.h+1:Nat):Int) 0) /\
  r.h+1<=es.length/\es.take (r.h+1)=(QN N 0 r.h (QU r)).map (CLv.av N)/\L.length<=X.length/\∀ i,i<L.length->i≠ic->X[i]?=L[i]?):=by
 refine ZWX (rfl:Tb QX=some (.pf YJ)) ?_;obtain ⟨hlv,ht,hpos⟩:=h.lv hN h0;have hh:=h.rt.h13 hN;obtain ⟨⟨x,x1,x2,x3⟩,_⟩:=id hlv;have hx1:lk N r.at_=some x:=x1;have hx2:x.h=r.h:=x2;have hxl:x.ks.length<=4:=((hN _ x x1).1).len
 have hRd:Rd ⟨A,false,L⟩ la (b+5) N:=by
  obtain ⟨a0,a1,im,a3,a4,a5,g1,g2⟩:=hR;exact ⟨a0,a1,im,a3,a4,a5,g1,g2⟩
 have hic:=(List.getElem?_eq_some_iff.1 hc).1
 obtain ⟨bx,hV⟩:=ZmX hc (by decide) hRd hx1 hxl 0 r.m.b
 rw [hx2] at hV
 -- the store behind the first visit
 generalize hL1:(L++[bx,.arr 5 0 [CLv.av N ⟨r.h,r.at_,0,r.m.b⟩]]).set ic (Qp (.ptr la (b+5) 0 0 0) r (.ref A.length (L.length+1) 0 0 1) (0+1) 0)=L1 at hV
 have hl1:L1.length=L.length+2:=by rw [<- hL1];simp
 have g0:L1[ic]?=some (Qp (.ptr la (b+5) 0 0 0) r (.ref A.length (L.length+1) 0 0 1) (0+1) 0):=by rw [<- hL1];exact List.getElem?_set_self (by simp;omega)
 have g1:L1[L.length+1]?=some (.arr 5 0 [CLv.av N (QU r)]):=by
  rw [<- hL1,jS (by omega),List.getElem?_append_right (by omega),show L.length+1-L.length=1 by omega];rfl
 have gst:∀ i,i<L.length->i≠ic->L1[i]?=L[i]?:=fun i hi hn=>by
  rw [<- hL1,jS (fun q=>hn q.symm),jL hi]
 have H:Cl ⟨A,false,L1⟩ [(A.length,ic),(A.length,L.length+1)] (Qn (.ptr la (b+5) 0 0 0) r A.length (L.length+1) 0 1 [CLv.av N (QU r)] 1 0):=by
  refine ⟨by simp;omega,rfl,fun k hk=>?_,fun j lv ix c q1 q2=>?_⟩
  ·simp only [List.mem_cons,List.not_mem_nil,or_false] at hk
   rcases hk with rfl|rfl<;>simp [St.wr]
  ·match j,q1,q2 with
   | 0,q1,q2=>obtain ⟨rfl,rfl⟩:=Prod.mk.inj (Option.some.inj q1);obtain rfl:=Option.some.inj q2;rw [St.get_cur,g0];rfl
   | 1,q1,q2=>obtain ⟨rfl,rfl⟩:=Prod.mk.inj (Option.some.inj q1);obtain rfl:=Option.some.inj q2;rw [St.get_cur,g1];rfl
   | n+2,q1,q2=>simp at q1
 have hget:∀ lv ix c,St.get ⟨A,false,L⟩ lv ix=some c->¬ (lv=A.length/\ix=ic)->St.get ⟨A,false,L1⟩ lv ix=some c/\¬ (lv=A.length/\ix=L.length+1):=by
  intro lv ix c q hn;rw [St.get] at q ⊢
  simp only at q ⊢
  by_cases w:lv=A.length
  ·rw [if_pos w] at q ⊢
   have hlt:=ZDA q
   rw [gst ix hlt (fun e=>hn ⟨w,e⟩)]
   exact ⟨q,fun e=>by omega⟩
  ·rw [if_neg w] at q ⊢
   exact ⟨q,fun e=>w e.1⟩
 have hRO:RdO ⟨A,false,L1⟩ la (b+5) N [(A.length,ic),(A.length,L.length+1)]:=by
  obtain ⟨a0,a1,im,a3,a4,a5,q1,q2⟩:=hR
  have n1:¬ (la=A.length/\b+5=ic):=by
   rintro ⟨rfl,rfl⟩
   rw [St.get_cur,hc] at q1
   simp [Qp,vis] at q1
  have n2:¬ (la=A.length/\im=ic):=by
   rintro ⟨rfl,rfl⟩
   rw [St.get_cur,hc] at q2
   simp [Qp,vis] at q2
  obtain ⟨w1,w2⟩:=hget _ _ _ q1 n1;obtain ⟨w3,w4⟩:=hget _ _ _ q2 n2
  exact ⟨a0,a1,im,a3,a4,a5,w1,w3,by simp only [List.mem_cons,jP,List.not_mem_nil,or_false,not_or];exact ⟨n1,w2⟩,by simp only [List.mem_cons,jP,List.not_mem_nil,or_false,not_or];exact ⟨n2,w4⟩⟩
 have hpl:=ZCz N 0 r.h (QU r);have hp0:=Zk9 N 0 r.h (QU r)
 have e00:(⟨A,false,L1⟩:St)=⟨A,false,L1++[]⟩:=by rw [lN]
 have htail:=fun (xs:Env) (kf:List Fr) (Q:JV)=>Zav (n:=r.h) (T:=[]) (xs:=xs) (kf:=kf) (Q:=Q) H H.same.symm hla hRO hN hlv rfl (by show r.h<=16;omega) (a:=0) (by show (0:Int)<=0;omega) (by rw [ht];omega) hs ⟨Nat.le_refl _,by omega⟩ (by decide) (Nat.le_refl _) (by
  rw [show (1:Nat)=0+1 from rfl,ZC0 hp0];rfl)
 have hc':=hc;unfold Qp at hc g0;rw [e00] at hV
 repeat' (first|refine ZE ?_|refine ZD ?_|refine ZG rfl ?_|refine ZB rfl ?_|refine ZC ?_|refine ZP ?_)
 refine Z0 (α:=Unit) (fun _=>[(0,.ptr A.length ic 0 0 0),(1,.int .i64 0)]) (fun _=>⟨A,false,L⟩) (fun _=>True) (fun _=>0) () rfl rfl trivial ?_
 intro _ _
 repeat' (first|refine ZV rfl hc rfl rfl ?_|refine htail _ _ _ (fun A2 L2 T2 ver2 es2 e2 f2 f3=>?_)|refine ZE ?_|refine ZD ?_|refine ZG rfl ?_|refine ZJ rfl rfl ?_|refine ZB rfl ?_|refine ZC ?_|refine Zb rfl rfl ?_|refine YC rfl ?_|(refine QD rfl rfl (fun _=>?_) (fun _=>?_)<;>try (exfalso;omega))|(refine Zi rfl rfl (fun _=>?_) (fun _=>?_)<;>try (exfalso;omega))|(refine Ze rfl rfl (fun _=>?_) (fun _=>?_)<;>try (exfalso;omega))|refine ZS rfl ?_|refine ZF rfl ?_|refine ZA rfl rfl rfl (hV) ?_|refine ZH ?_|refine Zu ?_|refine ZP ?_|refine ZL ?_|refine Zh ?_|refine Zc rfl ?_|refine Zs ?_)
 all_goals try contradiction
 all_goals try (exfalso;omega)
 have eA:A2=A:=by
  have:=congrArg St.A e2
  rw [Zaw (by simp)] at this
  exact this
 subst eA
 have hstay:=ZeQ (ks:=[(A2.length,ic),(A2.length,L.length+1)]) (A:=A2) (L:=L1) (bs:=Qn (.ptr la (b+5) 0 0 0) r A2.length (L.length+1) ver2 (r.h+1) es2 (1+((r.h+1-1:Nat):Int)) 0) (by simp)
 rw [<- e2] at hstay;have hLL:=(ZQY e2).2
 refine ⟨_,_,Jj (.inr rfl) rfl rfl rfl rfl,rfl,L2++T2,ver2,es2,rfl,?_,f2,f3,by rw [lL];omega,fun i hi hn=>?_⟩
 ·have:=(H.put (bs':=Qn (.ptr la (b+5) 0 0 0) r A2.length (L.length+1) ver2 (r.h+1) es2 (1+((r.h+1-1:Nat):Int)) 0) rfl rfl)
  rw [<- e2] at this
  have:=Zop this T2
  rw [show (1:Int)+((r.h+1-1:Nat):Int)=((r.h+1:Nat):Int) by omega] at this
  exact this
 ·rw [jL (by omega),hstay i (by simp;omega),gst i hi hn]
theorem ZeR {st:St} {lv ic li ver m:Nat} {ap:AV} {r:Ro} {es:List AV} {vis at_:Int} {N:ZQ} {l:CLv} (h0:st.get lv ic=some (Qp ap r (.ref lv li ver 0 m) vis at_)) (h1:st.get lv li=some (.arr 5 ver es)) (hm:1<=m/\m<1000) (hl:es[m-1]?=some (CLv.av N l)) :
 S Tb Ye [.ptr lv ic 0 0 0] st=some (.tup [.str (QQ N l.o).text,.int .i64 l.f,.int .i64 l.t],st):=by
 refine Z9 rfl (fun A hA=>?_)
 have g0:=fun L=>ZW hA (ro:=false) (L:=L) h0
 have g1:=fun L=>ZW hA (ro:=false) (L:=L) h1
 have hel:es[0+(((m:Nat):Int)-1).toNat]?=some (CLv.av N l):=by
  rw [show 0+(((m:Nat):Int)-1).toNat=m-1 by omega];exact hl
 have hwi:∀ L,wIs 5 ver (St.get ⟨A,false,L⟩ lv li)=true:=fun L=>by rw [g1 L];simp [wIs]
 unfold Qp at g0;unfold CLv.av at hel
 repeat' (first|refine Zz rfl (g0 _) rfl rfl ?_|refine XW rfl rfl (by omega) (hwi _) ?_|refine Zz rfl (g1 _) hel rfl ?_|refine ZE ?_|refine ZD ?_|refine ZG rfl ?_|refine ZJ rfl rfl ?_|refine ZV rfl rfl rfl rfl ?_|refine ZB rfl ?_|refine ZC ?_|refine Zb rfl rfl ?_|refine Qj rfl ?_|(refine Zi rfl rfl (fun _=>?_) (fun _=>?_)<;>try (exfalso;omega))|refine ZF rfl ?_|refine QS rfl rfl (by omega) ?_|refine Zk rfl rfl rfl ?_|refine QE rfl rfl rfl rfl rfl rfl ?_|refine ZH ?_|refine ZO ?_|refine ZL ?_)
 all_goals try contradiction
 all_goals try (exfalso;omega)
 refine ZX hA (by first|exact .inl rfl|exact .inr rfl) rfl rfl rfl rfl ?_
 rfl
theorem Zos {O:Orc} {k:List Fr} {Q:JV} {e:Env} {A:List (Bool × List Blk)} {keep:List Nat} {is:List QAbs.PI} {d j w:Nat} {x:Opd} {v v':AV} (hx:Zj e x=some v) (hw:v.wide=some w) (hv:YN v=some v') (h:Is O is keep k Q ((d,.ptr A.length 0 0 0 0)::e) ⟨A,false,[Blk.arr w 0 [v']]⟩) :
 Is O (⟨some d,none,false,.w (.here j) (.box x)⟩::is) keep k Q e ⟨A,false,[Blk.hole j]⟩:=by
 rw [<- Y1 hv] at h;refine Z6 (v:=.ptr A.length 0 0 0 0) (st':=⟨A,false,[Blk.arr w 0 [v]]⟩) ?_ h;simp only [Zl,QI,newOf,ZI hx,hw,oS,ZWj,Zgs,and_self,if_true,findH,ZWi];rfl
theorem Yi {st:St} {lv ic la b:Nat} {r:Ro} {lev:AV} {vis at_:Int} {N:ZQ} {s:List UInt8} (hN:GoodN N) (h:Rt N r s) (h0:st.get lv ic=some (Qp (.ptr la (b+5) 0 0 0) r lev vis at_)) (hR:Rd st la (b+5) N) :
 S Tb Qv [.ptr lv ic 0 0 0] st=some (.int .i64 0,st):=by
 refine Z9 rfl (fun A hA=>?_)
 have g0:=fun L=>ZW hA (ro:=false) (L:=L) h0
 unfold Qp at g0
 by_cases hz:r.at_=0
 ·have hzi:((r.at_:Nat):Int)=0:=by omega
  repeat' (first|refine Zz rfl (g0 _) rfl rfl ?_|refine ZE ?_|refine ZD ?_|refine ZG rfl ?_|refine ZJ rfl rfl ?_|refine ZB rfl ?_|refine ZC ?_|refine Zb rfl rfl ?_|(refine Ze rfl rfl (fun _=>?_) (fun _=>?_)<;>try (exfalso;omega))|refine ZF rfl ?_|refine Q5 rfl rfl rfl rfl ?_|refine ZH ?_|refine ZO ?_|refine ZL ?_)
  all_goals try contradiction
  all_goals refine ZX hA (by first|exact .inl rfl|exact .inr rfl) rfl rfl rfl rfl ?_
  all_goals rfl
 ·have hzi:((r.at_:Nat):Int)≠0:=by omega
  obtain ⟨x,x1,x2,x3,x4⟩:∃ x,lk N r.at_=some x/\NdOk x/\x.h=r.h/\x.mea=r.m:=by
   rcases h.rt with rfl|w
   ·exact absurd rfl hz
   ·exact w.2
  have hG:=ZTi ((hR.push hA (ro:=false) (L:=[.hole 15])).push (st:=⟨A,false,[.hole 15]⟩) rfl (ro:=false) (L:=[])) x1 x2.len;have hcp:x.copy.av=.agg [.int .i64 x.h,.str x.text,.lit (x.ks.map Kid.av)]:=rfl;rw [hcp] at hG;have hI:Q8 (S Tb) .inner Qc [.ptr la (b+5) 0 0 0,.int .u64 r.at_] ⟨A,false,[.hole 15]⟩=some (.tup [.agg [.int .i64 x.h,.str x.text,.lit (x.ks.map Kid.av)],.int .i64 0],⟨A,false,[.hole 15]⟩):=Zns (st:=⟨A,false,[.hole 15]⟩) hG rfl
  repeat' (first|refine Zz rfl (g0 _) rfl rfl ?_|refine ZE ?_|refine ZD ?_|refine ZG rfl ?_|refine ZJ rfl rfl ?_|refine ZB rfl ?_|refine ZC ?_|refine Zb rfl rfl ?_|(refine Ze rfl rfl (fun _=>?_) (fun _=>?_)<;>try (exfalso;omega))|refine ZS rfl ?_|refine ZF rfl ?_|refine Q5 rfl rfl rfl rfl ?_|refine ZH ?_)
  all_goals try contradiction
  refine Zkv ?_
  repeat' (first|refine Zz rfl (g0 _) rfl rfl ?_|refine Znr rfl rfl rfl hI ?_|refine Zos rfl rfl rfl ?_|refine ZE ?_|refine ZD ?_|refine ZG rfl ?_|refine ZJ rfl rfl ?_|refine Zp rfl rfl ?_|refine ZB rfl ?_|refine ZC ?_|refine Zb rfl rfl ?_|(refine Ze rfl rfl (fun _=>?_) (fun _=>?_)<;>try (exfalso;omega))|refine ZF rfl ?_|refine QE rfl rfl rfl rfl rfl rfl ?_|refine ZH ?_|refine ZO ?_|refine ZL ?_)
  all_goals try contradiction
  all_goals refine ZX hA (by first|exact .inl rfl|exact .inr rfl) rfl rfl rfl rfl ?_
  all_goals rfl
theorem ZQa (l:List UInt8) (c:UInt8):ZY (l++[c])=ZY l++[.int .u8 c.toNat]:=by simp [ZY]
theorem ZsZ {A:List (Bool × List Blk)} {T:List Blk} {v:Nat} {l:List UInt8} (hl:l.length<4000000000) (c:UInt8) :
 S Tb QK [.int .u8 c.toNat,.ptr A.length 1 0 0 0] ⟨A,false,.arr 1 v (ZY l)::.arr 1 0 [.ref A.length 0 v 0 l.length]::T⟩ =
  some (.tup [],⟨A,false,.arr 1 (v+1) (ZY (l++[c]))::.arr 1 0 [.ref A.length 0 (v+1) 0 (l.length+1)]::T⟩):=by
 have H:Cl ⟨A,false,.arr 1 v (ZY l)::.arr 1 0 [.ref A.length 0 v 0 l.length]::T⟩ [(A.length,0),(A.length,1)] [.arr 1 v (ZY l),.arr 1 0 [.ref A.length 0 v 0 l.length]]:=by
  refine ⟨by simp,rfl,fun k hk=>?_,fun j lv ix b q1 q2=>?_⟩
  ·simp only [List.mem_cons,List.not_mem_nil,or_false] at hk
   rcases hk with rfl|rfl<;>simp [St.wr]
  ·match j,q1,q2 with
   | 0,q1,q2=>obtain ⟨rfl,rfl⟩:=Prod.mk.inj (Option.some.inj q1);obtain rfl:=Option.some.inj q2;rw [St.get_cur];rfl
   | 1,q1,q2=>obtain ⟨rfl,rfl⟩:=Prod.mk.inj (Option.some.inj q1);obtain rfl:=Option.some.inj q2;rw [St.get_cur];rfl
   | n+2,q1,q2=>simp at q1
 have hlen:(ZY l).length=l.length:=by simp [ZY]
 have hfin:Zx ⟨A,false,.arr 1 v (ZY l)::.arr 1 0 [.ref A.length 0 v 0 l.length]::T⟩ [(A.length,0),(A.length,1)] [.arr 1 (v+1) (ZY (l++[c])),.arr 1 0 [.ref A.length 0 (v+1) 0 (l.length+1)]]=⟨A,false,.arr 1 (v+1) (ZY (l++[c]))::.arr 1 0 [.ref A.length 0 (v+1) 0 (l.length+1)]::T⟩:=by
  simp [Zx,St.upd]
 rw [<- hfin];have h0:=H.get 1 _ _ _ rfl rfl;rw [ZQa]
 generalize hst:(⟨A,false,.arr 1 v (ZY l)::.arr 1 0 [.ref A.length 0 v 0 l.length]::T⟩:St)=st at *
 generalize hn:A.length=nA at *
 have hnA:st.A.length=nA:=by rw [<- hst];exact hn
 refine Yo rfl (fun B hB=>?_)
 have g0:=fun L=>ZW hB (ro:=false) (L:=L) h0
 have hs0:B=(Zx st [(nA,0),(nA,1)] [.arr 1 v (ZY l),.arr 1 0 [.ref nA 0 v 0 l.length]]).ps:=by rw [H.same];exact hB
 rw [<- hlen] at g0
 repeat' (first|refine Zz rfl (g0 _) rfl rfl ?_|refine ZD ?_|refine ZG rfl ?_|refine JJ rfl rfl rfl rfl ?_)
 refine Zko (j:=0) H hs0 rfl rfl rfl rfl rfl rfl rfl rfl rfl (by rw [hlen];simp;omega) (by decide) (fun B1 hB1 e1=>?_)
 refine ZNt (j:=1) H hB1 rfl rfl rfl rfl rfl rfl rfl (JN _ (Nat.lt_succ_self _)) rfl (fun B2 hB2 e2=>?_)
 rw [hlen] at hB2
 repeat' (first|refine ZB rfl ?_|refine ZL ?_)
 exact ZX hB2 (.inl rfl) rfl rfl rfl rfl rfl
theorem Zj6:∀ h,1<=leastB h:=by
 intro h;unfold leastB
 have:∀ n,1<=2 ^ n:=fun n=>Nat.one_le_two_pow
 first|exact Nat.le_trans (by decide) (Nat.mul_le_mul_left 8 (this h))|(split<;>first|omega|exact Nat.le_trans (by decide) (Nat.mul_le_mul_left 8 (this _)))
theorem CLvOk.kids {N:ZQ} (hN:GoodN N) {s:List UInt8} {l:CLv} {n:Nat} (h:CLvOk N s l) (hn:l.n=n+1):2<=(QQ N l.o).ks.length/\(∀ k∈(QQ N l.o).ks,0<k.m.b)/\Qm Mea.b (QQ N l.o).ks (QQ N l.o).ks.length=l.t-l.f:=by
 obtain ⟨⟨x,x1,x2,x3⟩,_⟩:=h
 have hm:x.mea=Z8 (x.ks.map Kid.m):=by unfold Nd.mea;rw [if_neg (by omega)]
 rw [J3 x1];have hx:=(hN l.o x x1).1;refine ⟨?_,?_,?_⟩
 ·rcases hx with q|⟨m,ks,q⟩
  ·have:=q.h;omega
  ·have e:=q.eq;subst e;exact q.lo
 ·rcases hx with q|⟨m,ks,q⟩
  ·have:=q.h;omega
  ·have e:=q.eq;subst e
   intro k hk;have h1:=(q.kid k hk).lo;have h2:=Zj6 m;omega
 ·unfold Qm
  rw [List.take_length,<- hm];exact x3
theorem CLvOk.at {N:ZQ} (hN:GoodN N) {s:List UInt8} {l:CLv} (h:CLvOk N s l) {i:Nat} {k:Kid} (hk:(QQ N l.o).ks[i]?=some k) {a:Int} (h0:l.f+Qm Mea.b (QQ N l.o).ks i<=a) (h1:a<l.f+Qm Mea.b (QQ N l.o).ks i+k.m.b) :
 ZA3 N l.o (a-l.f)=i/\l.down N a=⟨l.n-1,k.at_,l.f+Qm Mea.b (QQ N l.o).ks i,l.f+Qm Mea.b (QQ N l.o).ks i+k.m.b⟩:=by
 have e:ZA3 N l.o (a-l.f)=i:=ZQX (h.fit hN) hk (by omega) (by omega)
 refine ⟨e,?_⟩;unfold CLv.down X6 Zap ZLP;rw [e,hk];rfl
theorem Zgi {ks:List Kid} (h:∀ k∈ks,0<k.m.b) {i:Nat} (hi:i<=ks.length):0<=Qm Mea.b ks i/\Qm Mea.b ks i<=Qm Mea.b ks ks.length:=by
 have key:∀ (l:List Kid),(∀ k∈l,0<k.m.b)->0<=(Z8 (l.map Kid.m)).b:=by
  intro l
  induction l with
  | nil=>intro _;exact Int.le_of_eq comp_b.zero.symm
  | cons y m ih2 =>
   intro hq;rw [jC,Z8,comp_b.add]
   have:=ih2 (fun q hq2=>hq q (List.mem_cons_of_mem _ hq2))
   have:=hq y (by simp)
   omega
 refine ⟨key _ (fun k hk=>h k (List.mem_of_mem_take hk)),?_⟩
 unfold Qm;rw [List.take_length]
 have e:=congrArg (fun l=>(Z8 (l.map Kid.m)).b) (List.take_append_drop i ks)
 simp only [List.map_append,ZAH,comp_b.add] at e
 have:=key _ (fun k hk=>h k (List.mem_of_mem_drop (i:=i) hk))
 omega
theorem Zot {l:List Kid} (h:∀ k∈l,0<k.m.b) (hl:0<l.length):0<(Z8 (l.map Kid.m)).b:=by
 match l,hl with
 | k::l,_ =>
  have h1:=Zgi (ks:=l) (fun z hz=>h z (List.mem_cons_of_mem _ hz)) (Nat.zero_le _)
  have h2:=h k (by simp)
  rw [jC,Z8,comp_b.add];unfold Qm at h1;rw [List.take_length] at h1
  have:(Z8 ((l.take 0).map Kid.m)).b=0:=comp_b.zero
  omega
theorem Zax {N:ZQ} (hN:GoodN N) {s:List UInt8}:∀ (n:Nat) (l:CLv),l.n=n->CLvOk N s l->ZCr N l.f n l=n+1
 | 0,_,_,_=>rfl
 | n+1,l,hn,h=>by
  obtain ⟨k1,k2,k3⟩:=h.kids hN hn
  obtain ⟨k,hk⟩:∃ k,(QQ N l.o).ks[0]?=some k:=⟨_,jE (by omega)⟩
  have hkb:=k2 k (jM hk);have e0:Qm Mea.b (QQ N l.o).ks 0=0:=comp_b.zero
  obtain ⟨e1,e2⟩:=h.at hN hk (a:=l.f) (by omega) (by omega)
  have hp:=Zgi k2 (Nat.le_refl _)
  have hpos:0<l.t-l.f:=by
   rw [<- k3];unfold Qm;rw [List.take_length];exact Zot k2 (by omega)
  obtain ⟨d1,_⟩:=h.down hN hn (a:=l.f) (by omega) (by omega)
  have ih:=Zax hN n (l.down N l.f) (by show l.n-1=n;omega) d1
  have ef:(l.down N l.f).f=l.f:=by rw [e2,e0];simp
  rw [ZCr,e1];rw [ef] at ih;rw [ih]
  simp
  omega
theorem ZiU {N:ZQ} {n:Nat} {ks:List Kid} {i:Nat} {k:Kid} (hk:ks[i]?=some k):((ks.take (i+1)).map fun k=>szN N n k.at_).sum=((ks.take i).map fun k=>szN N n k.at_).sum+szN N n k.at_:=by
 rw [Zq hk];simp
theorem ZeS {N:ZQ} (hN:GoodN N) {s:List UInt8}:∀ (n:Nat) (l:CLv),l.n=n->CLvOk N s l->ZCr N (l.t-1) n l=szN N n l.o
 | 0,_,_,_=>rfl
 | n+1,l,hn,h=>by
  obtain ⟨k1,k2,k3⟩:=h.kids hN hn
  obtain ⟨m,hm⟩:∃ m,(QQ N l.o).ks.length=m+1:=⟨_,(Nat.sub_add_cancel (by omega:1<=_)).symm⟩
  obtain ⟨k,hk⟩:∃ k,(QQ N l.o).ks[m]?=some k:=⟨_,jE (by omega)⟩
  have hkb:=k2 k (jM hk);have hs:=ZLr comp_b hk;rw [<- hm,k3] at hs
  have h0:=(Zgi k2 (i:=m) (by omega)).1
  obtain ⟨e1,e2⟩:=h.at hN hk (a:=l.t-1) (by omega) (by omega)
  obtain ⟨d1,_⟩:=h.down hN hn (a:=l.t-1) (by omega) (by omega)
  have ih:=ZeS hN n (l.down N (l.t-1)) (by show l.n-1=n;omega) d1
  have et:(l.down N (l.t-1)).t=l.t:=by rw [e2];show l.f+Qm Mea.b (QQ N l.o).ks m+k.m.b=l.t;omega
  have eo:(l.down N (l.t-1)).o=k.at_:=by rw [e2]
  rw [et,eo] at ih;rw [ZCr,e1,ih,szN,Nat.add_assoc,<- ZiU hk,<- hm,List.take_length]
theorem ZeT {N:ZQ} (hN:GoodN N) {s:List UInt8}:∀ (n:Nat) (l:CLv),l.n=n->CLvOk N s l->∀ p:Int,l.f<=p->p+1<l.t->ZCr N (p+1) n l+cmL N p (p+1) n l=ZCr N p n l+(n+1)
 | 0,_,_,_,_,_,_=>rfl
 | n+1,l,hn,h,p,p0,p1=>by
  obtain ⟨k1,k2,k3⟩:=h.kids hN hn
  obtain ⟨d1,d2,d3,d4,d5,k,hk,ko,kb⟩:=h.down hN hn (a:=p) p0 (by omega)
  have dn:(l.down N p).n=n:=by show l.n-1=n;omega
  rw [ZCr,ZCr,cmL]
  rcases Int.lt_or_le (p+1) (l.down N p).t with q|q
  ·have e:=h.same hN hn p0 (by omega) (a:=p+1) (by omega) q
   have ei:ZA3 N l.o (p+1-l.f)=ZA3 N l.o (p-l.f):=by
    refine ZQX (h.fit hN) hk (show X6 N l.o (p-l.f)<=_ from ?_) (show _<X6 N l.o (p-l.f)+_ from ?_)
    ·have:l.f+X6 N l.o (p-l.f)<=p:=d2;omega
    ·have:p+1<l.f+X6 N l.o (p-l.f)+ZLP N l.o (p-l.f):=q;omega
   rw [if_pos e,ei,<- e];have ih:=ZeT hN n (l.down N p) dn d1 p d2 q;omega
  ·have ht:(l.down N p).t=l.f+X6 N l.o (p-l.f)+ZLP N l.o (p-l.f):=rfl
   have hf:X6 N l.o (p-l.f)=Qm Mea.b (QQ N l.o).ks (ZA3 N l.o (p-l.f)):=rfl;have hs:=ZLr comp_b hk
   generalize hI:ZA3 N l.o (p-l.f)=I at *
   have hIl:=(List.getElem?_eq_some_iff.1 hk).1
   have hI2:I+1<(QQ N l.o).ks.length:=by
    rcases Nat.lt_or_ge (I+1) (QQ N l.o).ks.length with w|w
    ·exact w
    ·have e:I+1=(QQ N l.o).ks.length:=by omega
     rw [e,k3] at hs;omega
   obtain ⟨k',hk'⟩:∃ k,(QQ N l.o).ks[I+1]?=some k:=⟨_,jE hI2⟩;have hkb':=k2 k' (jM hk')
   have hp1:p+1=l.f+Qm Mea.b (QQ N l.o).ks (I+1):=by omega
   obtain ⟨e1,e2⟩:=h.at hN hk' (a:=p+1) (by omega) (by omega)
   obtain ⟨c1,c2,c3,_⟩:=h.down hN hn (a:=p+1) (by omega) (by omega)
   have cf:(l.down N (p+1)).f=p+1:=by rw [e2];exact hp1.symm
   have v1:=Zax hN n (l.down N (p+1)) (by show l.n-1=n;omega) c1
   rw [cf] at v1;have v2:=ZeS hN n (l.down N p) dn d1
   rw [show (l.down N p).t-1=p by omega] at v2
   have eo:(l.down N p).o=k.at_:=ko
   have hne:l.down N p≠l.down N (p+1):=fun e=>by
    have:=congrArg CLv.t e
    omega
   rw [if_neg hne,e1,v1,v2,eo,ZiU hk];omega
theorem CLvOk.sameI {N:ZQ} (hN:GoodN N) {s:List UInt8} {l:CLv} {n:Nat} (h:CLvOk N s l) (hn:l.n=n+1) {p a:Int} (h0:l.f<=p) (h1:p<l.t) (ha0:(l.down N p).f<=a) (ha1:a<(l.down N p).t):ZA3 N l.o (a-l.f)=ZA3 N l.o (p-l.f):=by
 obtain ⟨_,_,_,_,_,k,k1,k2,k3⟩:=h.down hN hn h0 h1;have q0:l.f+X6 N l.o (p-l.f)<=a:=ha0;have q1:a<l.f+X6 N l.o (p-l.f)+ZLP N l.o (p-l.f):=ha1;rw [k3] at q1
 exact ZQX (h.fit hN) k1 (by show X6 N l.o (p-l.f)<=_;omega) (by show _<X6 N l.o (p-l.f)+_;omega)
theorem ZTG {N:ZQ} (hN:GoodN N) {s:List UInt8} {p a:Int}:∀ (n:Nat) (l lf:CLv),l.n=n->CLvOk N s l->l.f<=p->p<l.t->(QN N p n l)[n]?=some lf->lf.f<=a->a<lf.t->QN N a n l=QN N p n l/\ZCr N a n l=ZCr N p n l
 | 0,l,lf,_,_,_,_,_,_,_=>⟨rfl,rfl⟩
 | n+1,l,lf,hn,h,p0,p1,hf,a0,a1=>by
  obtain ⟨d1,d2,d3,d4,d5,_⟩:=h.down hN hn p0 p1
  have dn:(l.down N p).n=n:=by show l.n-1=n;omega
  rw [QN,List.getElem?_cons_succ] at hf;obtain ⟨_,_,_,_,e5,e6⟩:=ZAi hN n _ dn d1 d2 d3 n lf hf
  have e:=h.same hN hn p0 p1 (a:=a) (by omega) (by omega)
  have ei:=h.sameI hN hn p0 p1 (a:=a) (by omega) (by omega)
  obtain ⟨i1,i2⟩:=ZTG hN n _ lf dn d1 d2 d3 hf a0 a1;rw [QN,QN,ZCr,ZCr,<- e,i1,i2,ei];exact ⟨rfl,rfl⟩
theorem ZlC {N:ZQ} (hN:GoodN N) {s:List UInt8} {l:CLv} (h:CLvOk N s l) (hn:l.n=0):((QQ N l.o).text.length:Int)=l.t-l.f/\∀ a:Int,l.f<=a->a<l.t->(QQ N l.o).text[(a-l.f).toNat]?=s[a.toNat]?:=by
 have hl:=h.len hN;obtain ⟨⟨x,x1,x2,x3⟩,pre,post,e,e2⟩:=h
 have ht:QO N l.n l.o=(QQ N l.o).text:=by
  rw [hn,QO,x1,J3 x1];simp
 rw [ht] at e hl
 refine ⟨hl.1,fun a a0 a1=>?_⟩
 rw [e,List.append_assoc,List.getElem?_append_right (by omega),jL (by omega)]
 congr 1
 omega
def J2 (P:Nat->UInt8->Bool):Nat->List UInt8->Nat
 | _,[]=>0
 | n,b::l=>if P n b=true then 1+J2 P (n+1) l else 0
theorem ZQb (P:Nat->UInt8->Bool):∀ (l:List UInt8) (n:Nat),J2 P n l<=l.length
 | [],_=>Nat.le_refl _
 | b::l,n=>by
  rw [J2]
  have:=ZQb P l (n+1)
  split
  ·simp;omega
  ·simp
theorem ZBU {s:List UInt8} {i:Nat} {b:UInt8} (h:s[i]?=some b):s.drop i=b::s.drop (i+1):=by
 obtain ⟨hi,rfl⟩:=List.getElem?_eq_some_iff.1 h;exact List.drop_eq_getElem_cons hi
structure More (st:St) (ks:List (Nat × Nat)) (g:FuncId) (caps:List AV) (P:Nat->UInt8->Bool):Prop where
 call:∀ (bs:List Blk) (B:List (Bool × List Blk)) (L:List Blk) (i:Nat) (c:UInt8),B=(Zx st ks bs).ps->bs.length=ks.length->bs.all noH=true->i<=100000->S Tb g ([.int .i64 i,.int .u8 c.toNat]++caps) ⟨B,false,L⟩=some (.bool (P i c),⟨B,false,L⟩)
 wk:∀ (i:Nat) (c:UInt8),ZZ (Zn ([]++[.int .i64 i,.int .u8 c.toNat]++caps))=some ([.int .i64 i,.int .u8 c.toNat]++caps)
structure FwS where
 i:Nat
 p:Int
 ver:Nat
 es:List AV
 vis:Int
 B:List (Bool × List Blk)
 v:Nat
 T:List Blk
 xs:Env
structure FwI (st:St) (lv ic li la b:Nat) (r:Ro) (N:ZQ) (s:List UInt8) (n:Nat) (rt:CLv) (P:Nat->UInt8->Bool) (a0:Nat) (vis0:Int) (p0:Int) (q:FwS):Prop where
 hB:q.B=(Zx st [(lv,ic),(lv,li)] (Qn (.ptr la (b+5) 0 0 0) r lv li q.ver (n+1) q.es q.vis ((a0:Int)+q.i))).ps
 le:n+1<=q.es.length
 es:q.es.take (n+1)=(QN N q.p n rt).map (CLv.av N)
 ai:a0+q.i<=s.length
 p1:0<=q.p/\q.p<s.length
 pa:q.p=(a0:Int)+q.i\/(q.p+1=(a0:Int)+q.i/\∀ lf,(QN N q.p n rt)[n]?=some lf->lf.t=(a0:Int)+q.i)
 fw:J2 P 0 (s.drop a0)=q.i+J2 P q.i (s.drop (a0+q.i))
 vs:q.vis+ZCr N p0 n rt=vis0+ZCr N q.p n rt
 v0:vis0<=q.vis/\q.vis<=vis0+20*q.i+20/\(q.p≠(a0:Int)+q.i->q.vis<=vis0+20*q.i)
theorem ZlD {B:List (Bool × List Blk)} {v:Nat} {l:List UInt8} {x:Blk} {T:List Blk} {m:Nat} (hm:m=l.length):b2sV ⟨B,false,.arr 1 v (ZY l)::x::T⟩ (.ref B.length 0 v 0 m)=some (.str l):=by
 subst hm
 have:elems ⟨B,false,.arr 1 v (ZY l)::x::T⟩ (.ref B.length 0 v 0 l.length)=some (ZY l):=by
  simp only [elems,St.get_cur,List.getElem?_cons_zero,vis,ZBV,true_and,Nat.zero_add]
  rw [if_pos (by simp [ZY]),List.drop_zero,List.take_of_length_le (by simp [ZY])]
 simp only [b2sV,this,oS,ZDi]
theorem ZeU {st:St} {lv ic li ver la b:Nat} {r:Ro} {es:List AV} {vis0:Int} {N:ZQ} {s:List UInt8} {a0:Nat} (H:Cl st [(lv,ic),(lv,li)] (Qn (.ptr la (b+5) 0 0 0) r lv li ver (r.h+1) es vis0 a0))
 (hla:la<=lv) (hR:RdO st la (b+5) N [(lv,ic),(lv,li)]) (hN:GoodN N) (h:Rt N r s) (h0:r.at_≠0) (hs:s.length<=100000) (ha:a0<=s.length) (hv:0<=vis0/\vis0<700000000)
 (hke:r.h+1<=es.length) (hes:es.take (r.h+1)=(QN N (min (a0:Int) (s.length-1)) r.h (QU r)).map (CLv.av N)) {g:FuncId} {caps:List AV} {P:Nat->UInt8->Bool} (hM:More st [(lv,ic),(lv,li)] g caps P) :
 ∃ ver2 es2 vis2,S Tb QZ [.ptr lv ic 0 0 0,.func (.func g) [] caps] st=some (.tup [.str ((s.drop a0).take (J2 P 0 (s.drop a0))),.int .i64 0],Zx st [(lv,ic),(lv,li)] (Qn (.ptr la (b+5) 0 0 0) r lv li ver2 (r.h+1) es2 vis2 ((a0+J2 P 0 (s.drop a0):Nat):Int))) /\
  r.h+1<=es2.length/\es2.take (r.h+1)=(QN N (min ((a0+J2 P 0 (s.drop a0):Nat):Int) (s.length-1)) r.h (QU r)).map (CLv.av N) /\
  vis2+ZCr N (min (a0:Int) (s.length-1)) r.h (QU r)=vis0+ZCr N (min ((a0+J2 P 0 (s.drop a0):Nat):Int) (s.length-1)) r.h (QU r)/\vis0<=vis2/\vis2<=vis0+20*J2 P 0 (s.drop a0)+20:=by
 obtain ⟨hlv,ht,hpos⟩:=h.lv hN h0;have h13:=h.rt.h13 hN;have hmb:r.m.b=s.length:=(h.b hN).2;have hrf:(QU r).f=0:=rfl;have hrn:(QU r).n=r.h:=rfl;have hfl:=ZQb P (s.drop a0) 0;rw [List.length_drop] at hfl
 -- the leaf of the path
 have hleaf:∀ p:Int,0<=p->p<s.length->∃ lf,(QN N p r.h (QU r))[r.h]?=some lf/\CLvOk N s lf/\lf.n=0/\lf.f<=p/\p<lf.t/\lf.t<=s.length/\0<=lf.f:=by
  intro p p0 p1
  obtain ⟨lf,hlf⟩:∃ lf,(QN N p r.h (QU r))[r.h]?=some lf:=⟨_,jE (by rw [ZCz];omega)⟩
  obtain ⟨e1,e2,e3,e4,e5,e6⟩:=ZAi hN r.h (QU r) rfl hlv (by omega) (by omega) r.h lf hlf
  exact ⟨lf,hlf,e1,by omega,e3,e4,by omega,by omega⟩
 suffices hmain:Sp Tb QZ [.ptr lv ic 0 0 0,.func (.func g) [] caps] st (fun w st'=>∃ q:FwS,q.i=J2 P 0 (s.drop a0)/\q.p=min ((a0:Int)+q.i) (s.length-1)/\FwI st lv ic li la b r N s r.h (QU r) P a0 vis0 (min (a0:Int) (s.length-1)) q /\
  w=.tup [.str ((s.drop a0).take q.i),.int .i64 0]/\st'=Zx st [(lv,ic),(lv,li)] (Qn (.ptr la (b+5) 0 0 0) r lv li q.ver (r.h+1) q.es q.vis ((a0:Int)+q.i))) by
  obtain ⟨w,st',hS,q,q1,q2,qI,rfl,rfl⟩:=hmain
  refine ⟨q.ver,q.es,q.vis,?_,qI.le,?_,?_,qI.v0.1,by rw [<- q1];exact qI.v0.2.1⟩
  ·rw [hS,q1];simp
  ·rw [qI.es,q2,q1];simp
  ·rw [qI.vs,q2,q1];simp
 refine ZXR (rfl:Tb QZ=some (.pf YS)) ?_;obtain ⟨B0,hB0⟩:∃ B0,B0=st.ps:=⟨_,rfl⟩
 show Ru _ _ _ _ _ ⟨st.ps,false,[]⟩
 rw [<- hB0]
 repeat' (first|refine ZE ?_|refine ZD ?_|refine ZG rfl ?_|refine ZB rfl ?_|refine ZC ?_|refine ZAK rfl rfl ?_|refine ZCv rfl ?_|refine ZP ?_)
 refine Z0 (α:=FwS) (fun q=>(0,.ptr lv ic 0 0 0)::(1,.func (.func g) [] caps)::(6,.ptr q.B.length 1 0 0 0)::(7,.func (.func QK) [] [.ptr q.B.length 1 0 0 0])::q.xs)
  (fun q=>⟨q.B,false,.arr 1 q.v (ZY ((s.drop a0).take q.i))::.arr 1 0 [.ref q.B.length 0 q.v 0 q.i]::q.T⟩) (FwI st lv ic li la b r N s r.h (QU r) P a0 vis0 (min (a0:Int) (s.length-1)))
  (fun q=>2*(s.length-(a0+q.i))+(if q.p=(a0:Int)+q.i then 0 else 1)) ⟨0,min (a0:Int) (s.length-1),ver,es,vis0,B0,0,[],[]⟩ rfl rfl ?_ ?_
 ·refine ⟨by simp only;rw [hB0];simp only [Int.add_zero,Int.natCast_zero];rw [H.same],hke,hes,by simp only;omega,by simp only;omega,?_,by simp,rfl,by simp only;omega⟩
  simp only
  rcases Nat.lt_or_ge a0 s.length with w|w
  ·left;omega
  ·right
   refine ⟨by omega,fun lf hlf=>?_⟩
   obtain ⟨lf',g1,g2,g3,g4,g5,g6,g7⟩:=hleaf (min (a0:Int) (s.length-1)) (by omega) (by omega)
   obtain rfl:lf'=lf:=Option.some.inj (g1.symm.trans hlf);omega
 rintro ⟨i,p,ver,es,vis,B,v,T,xs⟩ hI
 obtain ⟨hB,hle,hes,hai,⟨p0,p1⟩,pa,fw,vs,v0⟩:=id hI
 simp only at hB hle hes hai p0 p1 pa fw vs v0 ⊢
 obtain ⟨lf,g1,g2,g3,g4,g5,g6,g7⟩:=hleaf p p0 p1;obtain ⟨x1,x2⟩:=ZlC hN g2 g3
 have hc:=fun L=>Cl.old (L:=L) (ro:=false) H hB rfl rfl (j:=0) rfl rfl
 have hcl:=fun L=>Cl.old (L:=L) (ro:=false) H hB rfl rfl (j:=1) rfl rfl
 have htl:((s.drop a0).take i).length=i:=by rw [List.length_take,List.length_drop];omega
 have hb2:=fun T=>ZlD (B:=B) (v:=v) (l:=(s.drop a0).take i) (x:=.arr 1 0 [.ref B.length 0 v 0 i]) (T:=T) htl.symm
 have hel:es[r.h+1-1]?=some (CLv.av N lf):=by
  have e1:(es.take (r.h+1))[r.h]?=es[r.h]?:=List.getElem?_take_of_lt (by omega)
  rw [Nat.add_sub_cancel,<- e1,hes,jG,g1];rfl
 have hLf:=fun L=>ZeR (hc L) (hcl L) (by omega) hel
 rcases Nat.eq_or_lt_of_le hai with hend|hlt
 ·-- the end of the text
  have hfin:∀ (w:AV) (st':St),w=.tup [.str ((s.drop a0).take i),.int .i64 0]->st'=Zx st [(lv,ic),(lv,li)] (Qn (.ptr la (b+5) 0 0 0) r lv li ver (r.h+1) es vis ((a0:Int)+i))->∃ q:FwS,q.i=J2 P 0 (s.drop a0)/\q.p=min ((a0:Int)+q.i) (s.length-1)/\FwI st lv ic li la b r N s r.h (QU r) P a0 vis0 (min (a0:Int) (s.length-1)) q /\
   w=.tup [.str ((s.drop a0).take q.i),.int .i64 0]/\st'=Zx st [(lv,ic),(lv,li)] (Qn (.ptr la (b+5) 0 0 0) r lv li q.ver (r.h+1) q.es q.vis ((a0:Int)+q.i)):=by
   intro w st' e1 e2;refine ⟨_,?_,?_,hI,e1,e2⟩
   ·show i=_
    rw [fw,List.drop_of_length_le (by omega)];rfl
   ·show p=min ((a0:Int)+i) (s.length-1);omega
  have hat:¬ ((a0:Int)+i)<r.m.b:=by omega
  unfold Qp at hc
  repeat' (first|refine Zz rfl (hc _) rfl rfl ?_|refine ZXP rfl (hb2 _) ?_|refine ZE ?_|refine ZD ?_|refine ZG rfl ?_|refine ZJ rfl rfl ?_|refine ZV rfl rfl rfl rfl ?_|refine ZB rfl ?_|refine ZC ?_|refine Zb rfl rfl ?_|(refine Zg rfl rfl (fun _=>?_) (fun _=>?_)<;>try (exfalso;omega))|refine ZF rfl ?_|refine ZO ?_|refine Zu ?_|refine ZL ?_|refine Zh ?_|refine Zc rfl ?_|refine Zs ?_)
  all_goals try contradiction
  all_goals try (exfalso;omega)
  exact ⟨_,_,ZX hB (.inr rfl) rfl rfl rfl rfl rfl,hfin _ _ rfl rfl⟩
 ·have hat:((a0:Int)+i)<r.m.b:=by omega
  rcases Int.lt_or_le ((a0:Int)+i) lf.t with hin|hout
  ·-- within the leaf
   have hpe:p=(a0:Int)+i:=by
    rcases pa with w|⟨_,w⟩
    ·exact w
    ·have:=w lf g1;omega
   obtain ⟨c,hcb⟩:∃ c,s[a0+i]?=some c:=⟨_,jE hlt⟩
   have hix:(QQ N lf.o).text[((a0:Int)+i-lf.f).toNat]?=some c:=by
    rw [x2 _ (by omega) hin,show ((a0:Int)+i).toNat=a0+i by omega];exact hcb
   have hdrop:=ZBU hcb
   have hMo:=fun L=>hM.call _ B L i c hB rfl rfl (by omega)
   have hwk:=hM.wk i c
   have hnge:¬ ((QQ N lf.o).text.length:Int)<=(a0:Int)+i-lf.f:=by omega
   cases hP:P i c with
   | false =>
    have hfin:∀ (w:AV) (st':St),w=.tup [.str ((s.drop a0).take i),.int .i64 0]->st'=Zx st [(lv,ic),(lv,li)] (Qn (.ptr la (b+5) 0 0 0) r lv li ver (r.h+1) es vis ((a0:Int)+i))->∃ q:FwS,q.i=J2 P 0 (s.drop a0)/\q.p=min ((a0:Int)+q.i) (s.length-1)/\FwI st lv ic li la b r N s r.h (QU r) P a0 vis0 (min (a0:Int) (s.length-1)) q /\
     w=.tup [.str ((s.drop a0).take q.i),.int .i64 0]/\st'=Zx st [(lv,ic),(lv,li)] (Qn (.ptr la (b+5) 0 0 0) r lv li q.ver (r.h+1) q.es q.vis ((a0:Int)+q.i)):=by
     intro w st' e1 e2;refine ⟨_,?_,?_,hI,e1,e2⟩
     ·show i=_
      rw [fw,hdrop,J2,hP];simp
     ·show p=min ((a0:Int)+i) (s.length-1);omega
    rw [hP] at hMo;unfold Qp at hc
    repeat' (first|refine Zz rfl (hc _) rfl rfl ?_|refine ZXP rfl (hb2 _) ?_|refine Yl rfl rfl (by omega) hix ?_|refine ZA rfl rfl hwk (hMo _) ?_|refine ZE ?_|refine ZD ?_|refine ZG rfl ?_|refine ZJ rfl rfl ?_|refine ZV rfl rfl rfl rfl ?_|refine Zp rfl rfl ?_|refine ZB rfl ?_|refine ZC ?_|refine Zb rfl rfl ?_|refine Qg rfl ?_|refine Qj rfl ?_|(refine Zg rfl rfl (fun _=>?_) (fun _=>?_)<;>try (exfalso;omega))|(refine JQ rfl rfl (fun _=>?_) (fun _=>?_)<;>try (exfalso;omega))|refine ZS rfl ?_|refine ZF rfl ?_|refine YF rfl rfl ?_|refine QS rfl rfl (by omega) ?_|refine ZA rfl rfl rfl (hLf _) ?_|refine ZH ?_|refine ZO ?_|refine Zu ?_|refine ZP ?_|refine ZL ?_|refine Zh ?_|refine Zc rfl ?_|refine ZLZ rfl ?_|refine Zs ?_)
    all_goals try contradiction
    all_goals try (exfalso;omega)
    exact ⟨_,_,ZX hB (.inr rfl) rfl rfl rfl rfl rfl,hfin _ _ rfl rfl⟩
   | true =>
    have hTk:=fun T=>ZsZ (A:=B) (T:=T) (v:=v) (l:=(s.drop a0).take i) (by omega) c
    rw [htl] at hTk
    have htake:(s.drop a0).take i++[c]=(s.drop a0).take (i+1):=by
     rw [ZC0 (k:=i) (x:=c)];rw [List.getElem?_drop];exact hcb
    rw [htake] at hTk;rw [hP] at hMo
    have hnext:∀ B2 T2,B2=(Zx st [(lv,ic),(lv,li)] (Qn (.ptr la (b+5) 0 0 0) r lv li ver (r.h+1) es vis ((a0:Int)+i+1))).ps->B2.length=B.length->∃ q:FwS,([(0,AV.ptr lv ic 0 0 0),(1,.func (.func g) [] caps),(6,.ptr B.length 1 0 0 0),(7,.func (.func QK) [] [.ptr B.length 1 0 0 0])]=(0,AV.ptr lv ic 0 0 0)::(1,.func (.func g) [] caps)::(6,.ptr q.B.length 1 0 0 0)::(7,.func (.func QK) [] [.ptr q.B.length 1 0 0 0])::q.xs /\
     (⟨B2,false,.arr 1 (v+1) (ZY ((s.drop a0).take (i+1)))::.arr 1 0 [.ref B.length 0 (v+1) 0 (i+1)]::T2⟩:St)=⟨q.B,false,.arr 1 q.v (ZY ((s.drop a0).take q.i))::.arr 1 0 [.ref q.B.length 0 q.v 0 q.i]::q.T⟩)/\FwI st lv ic li la b r N s r.h (QU r) P a0 vis0 (min (a0:Int) (s.length-1)) q /\
     2*(s.length-(a0+q.i))+(if q.p=(a0:Int)+q.i then 0 else 1)<2*(s.length-(a0+i))+(if p=(a0:Int)+i then 0 else 1):=by
     intro B2 T2 e1 e2
     obtain ⟨p',hp',hps,hpv,hp0,hp1⟩:∃ p':Int,(p'=(a0:Int)+(i+1:Nat)\/(p'+1=(a0:Int)+(i+1:Nat)/\∀ lf,(QN N p' r.h (QU r))[r.h]?=some lf->lf.t=(a0:Int)+(i+1:Nat)))/\QN N p' r.h (QU r)=QN N p r.h (QU r)/\ZCr N p' r.h (QU r)=ZCr N p r.h (QU r)/\0<=p'/\p'<s.length:=by
      rcases Int.lt_or_le ((a0:Int)+i+1) lf.t with w|w
      ·obtain ⟨y1,y2⟩:=ZTG hN r.h (QU r) lf rfl hlv (by omega) (by omega) g1 (a:=(a0:Int)+i+1) (by omega) w
       exact ⟨_,.inl (by omega),y1,y2,by omega,by omega⟩
      ·refine ⟨p,.inr ⟨by omega,fun lf' hlf'=>?_⟩,rfl,rfl,p0,p1⟩
       obtain rfl:lf=lf':=Option.some.inj (g1.symm.trans hlf');omega
     refine ⟨⟨i+1,p',ver,es,vis,B2,v+1,T2,[]⟩,⟨by simp only;rw [e2],by simp only;rw [e2]⟩,⟨?_,hle,by simp only;rw [hps];exact hes,by simp only;omega,⟨hp0,hp1⟩,hp',?_,by simp only;rw [hpv];exact vs,by simp only;omega⟩,?_⟩
     ·simp only
      rw [e1,show (a0:Int)+i+1=(a0:Int)+(i+1:Nat) by omega]
     ·simp only
      rw [fw,hdrop,J2,hP,if_pos rfl,Nat.add_assoc i 1,Nat.add_assoc a0 i 1]
     ·simp only
      split<;>first|omega|(split<;>omega)
    unfold Qp at hc
    repeat' (first|refine Zz rfl (hc _) rfl rfl ?_|refine Yl rfl rfl (by omega) hix ?_|refine ZA rfl rfl hwk (hMo _) ?_|refine ZE ?_|refine ZD ?_|refine ZG rfl ?_|refine ZJ rfl rfl ?_|refine ZV rfl rfl rfl rfl ?_|refine Zp rfl rfl ?_|refine ZB rfl ?_|refine ZC ?_|refine Zb rfl rfl ?_|refine Qg rfl ?_|refine Qj rfl ?_|(refine Zg rfl rfl (fun _=>?_) (fun _=>?_)<;>try (exfalso;omega))|(refine JQ rfl rfl (fun _=>?_) (fun _=>?_)<;>try (exfalso;omega))|refine ZS rfl ?_|refine ZF rfl ?_|refine YF rfl rfl ?_|refine Zm rfl rfl (by omega) ?_|refine QS rfl rfl (by omega) ?_|refine ZA rfl rfl rfl (hLf _) ?_|refine ZA rfl rfl rfl (hTk _) ?_|refine ZH ?_|refine ZP ?_)
    all_goals try contradiction
    all_goals try (exfalso;omega)
    refine ZNt (j:=0) H hB rfl rfl rfl rfl rfl rfl rfl rfl rfl (fun B2 hB2 e2=>?_)
    have hn2:=fun T2=>hnext B2 T2 hB2 e2
    repeat' (first|exact hn2 _|refine ZB rfl ?_|refine Z7 ?_|refine QJ ?_)
  ·-- behind the leaf
   have hpe:p+1=(a0:Int)+i/\lf.t=(a0:Int)+i:=by
    rcases pa with w|⟨w1,w⟩
    ·omega
    ·exact ⟨w1,w lf g1⟩
   have Hc:∀ L,Cl ⟨B,false,L⟩ [(lv,ic),(lv,li)] (Qn (.ptr la (b+5) 0 0 0) r lv li ver (r.h+1) es vis ((a0:Int)+i)):=fun L=>(H.put rfl rfl).push hB
   have hRc:∀ L,RdO ⟨B,false,L⟩ la (b+5) N [(lv,ic),(lv,li)]:=fun L=>by
    obtain ⟨a0',a1,im,a3,a4,a5,q1,q2,q3,q4⟩:=hR;exact ⟨a0',a1,im,a3,a4,a5,ZW hB ((H.out rfl rfl q3).trans q1),ZW hB ((H.out rfl rfl q4).trans q2),q3,q4⟩
   obtain ⟨w,st',hE,rfl,A2,L2,T2,ver2,es2,rfl,e2,f2,f3⟩:=Zgh (n:=r.h) (p:=p) (a:=(a0:Int)+i) (Hc (.arr 1 v (ZY ((s.drop a0).take i))::.arr 1 0 [.ref B.length 0 v 0 i]::T)) hla (hRc _) hN hlv rfl (by omega) (by omega) (by omega) (by omega) (by omega) hs (by omega) hle hes
   have hlek:∀ k∈[(lv,ic),(lv,li)],k.1<=(Zx st [(lv,ic),(lv,li)] (Qn (.ptr la (b+5) 0 0 0) r lv li ver (r.h+1) es vis ((a0:Int)+i))).A.length:=by rw [ZDd];exact H.le
   rw [Jy hB hlek,ZCw H.nd rfl rfl] at e2;simp only [St.mk.injEq,true_and] at e2;obtain ⟨e2a,rfl⟩:=e2
   have hst:=ZeT hN r.h (QU r) rfl hlv p (by omega) (by omega)
   have hcm:=Zar N p (p+1) r.h (QU r)
   have hBl:A2.length=B.length:=by rw [e2a,hB];simp [ZDd]
   rw [hpe.1] at hst hcm
   have hnext:∀ x y:AV,∃ q:FwS,([(0,AV.ptr lv ic 0 0 0),(1,.func (.func g) [] caps),(6,.ptr B.length 1 0 0 0),(7,.func (.func QK) [] [.ptr B.length 1 0 0 0]),(11,x),(49,y)]=(0,AV.ptr lv ic 0 0 0)::(1,.func (.func g) [] caps)::(6,.ptr q.B.length 1 0 0 0)::(7,.func (.func QK) [] [.ptr q.B.length 1 0 0 0])::q.xs /\
    (⟨A2,false,(.arr 1 v (ZY ((s.drop a0).take i))::.arr 1 0 [.ref B.length 0 v 0 i]::T)++T2⟩:St)=⟨q.B,false,.arr 1 q.v (ZY ((s.drop a0).take q.i))::.arr 1 0 [.ref q.B.length 0 q.v 0 q.i]::q.T⟩)/\FwI st lv ic li la b r N s r.h (QU r) P a0 vis0 (min (a0:Int) (s.length-1)) q /\
    2*(s.length-(a0+q.i))+(if q.p=(a0:Int)+q.i then 0 else 1)<2*(s.length-(a0+i))+(if p=(a0:Int)+i then 0 else 1):=by
    intro x y
    refine ⟨⟨i,(a0:Int)+i,ver2,es2,_,A2,v,T++T2,[(11,x),(49,y)]⟩,⟨by simp only;rw [hBl],by simp only;rw [hBl];rfl⟩,⟨e2a,f2,f3,hai,by simp only;omega,.inl rfl,fw,by simp only;omega,by simp only;omega⟩,?_⟩
    simp only
    rw [if_pos trivial,if_neg (by omega)]
    omega
   unfold Qp at hc
   repeat' (first|exact hnext _ _|refine Zz rfl (hc _) rfl rfl ?_|refine ZE ?_|refine ZD ?_|refine ZG rfl ?_|refine ZJ rfl rfl ?_|refine Zp rfl rfl ?_|refine ZB rfl ?_|refine ZC ?_|refine Zb rfl rfl ?_|(refine Zg rfl rfl (fun _=>?_) (fun _=>?_)<;>try (exfalso;omega))|(refine JQ rfl rfl (fun _=>?_) (fun _=>?_)<;>try (exfalso;omega))|(refine Ze rfl rfl (fun _=>?_) (fun _=>?_)<;>try (exfalso;omega))|refine ZS rfl ?_|refine ZF rfl ?_|refine ZA rfl rfl rfl (hLf _) ?_|refine ZA rfl rfl rfl (hE) ?_|refine ZH ?_|refine Zu ?_|refine ZP ?_|refine Zh ?_|refine Zc rfl ?_|refine QJ ?_)
   all_goals try contradiction
   all_goals try (exfalso;omega)
theorem RdO.putS {st:St} {ks:List (Nat × Nat)} {b0 bs:List Blk} {la ix:Nat} {N:ZQ} (h:RdO st la ix N ks) (H:Cl st ks b0) (hl:bs.length=ks.length) (hn:bs.all noH=true):RdO (Zx st ks bs) la ix N ks:=by
 obtain ⟨a0,a1,im,a3,a4,a5,h1,h2,h3,h4⟩:=h;exact ⟨a0,a1,im,a3,a4,a5,(H.out hl hn h3).trans h1,(H.out hl hn h4).trans h2,h3,h4⟩
structure CurN (st:St) (lv ic li la b:Nat) (r:Ro) (N:ZQ) (s:List UInt8) (a:Nat) (vis:Int) (ver:Nat) (es:List AV):Prop where
 cl:Cl st [(lv,ic),(lv,li)] (Qn (.ptr la (b+5) 0 0 0) r lv li ver (r.h+1) es vis a)
 le:r.h+1<=es.length
 es:es.take (r.h+1)=(QN N (min (a:Int) (s.length-1)) r.h (QU r)).map (CLv.av N)
def visA (N:ZQ) (r:Ro) (s:List UInt8) (a:Nat):Nat:=ZCr N (min (a:Int) (s.length-1)) r.h (QU r)
section
variable {st:St} {lv ic li ver la b:Nat} {r:Ro} {es:List AV} {vis:Int} {N:ZQ} {s:List UInt8} {a:Nat}
theorem Zou (H:CurN st lv ic li la b r N s a vis ver es) (hla:la<=lv) (hR:RdO st la (b+5) N [(lv,ic),(lv,li)]) (hN:GoodN N) (h:Rt N r s) (h0:r.at_≠0) (hs:s.length<=100000) (ha:a<=s.length) (hv:0<=vis/\vis<700000000) (n:Int) (hn:0<=n) :
 ∃ ver2 es2 vis2 k,k=J2 (fun i _=>decide ((i:Int)<n)) 0 (s.drop a)/\S Tb Qe [.ptr lv ic 0 0 0,.int .i64 n] st=some (.tup [.str ((s.drop a).take k),.int .i64 0],Zx st [(lv,ic),(lv,li)] (Qn (.ptr la (b+5) 0 0 0) r lv li ver2 (r.h+1) es2 vis2 ((a+k:Nat):Int))) /\
  CurN (Zx st [(lv,ic),(lv,li)] (Qn (.ptr la (b+5) 0 0 0) r lv li ver2 (r.h+1) es2 vis2 ((a+k:Nat):Int))) lv ic li la b r N s (a+k) vis2 ver2 es2/\vis2+visA N r s a=vis+visA N r s (a+k)/\vis<=vis2/\vis2<=vis+20*k+20:=by
 obtain ⟨A,hA⟩:∃ A,A=st.ps:=⟨_,rfl⟩;have H1:Cl ⟨A,false,[.arr 1 0 [.int .i64 n]]⟩ [(lv,ic),(lv,li)] _:=H.cl.push hA;have hR1:=hR.push (L:=[.arr 1 0 [.int .i64 n]]) hA;have hlt:∀ k∈[(lv,ic),(lv,li)],k.1<=st.A.length:=H.cl.le
 have hAl:A.length=st.A.length+1:=by rw [hA];simp
 have hlv:lv<=st.A.length:=hlt (lv,ic) (by simp)
 have hM:More ⟨A,false,[.arr 1 0 [.int .i64 n]]⟩ [(lv,ic),(lv,li)] Yc [.ptr A.length 0 0 0 0] (fun i _=>decide ((i:Int)<n)):=by
  refine ⟨fun bs B L i c hB hl hno hi=>?_,fun i c=>rfl⟩
  have hg:St.get ⟨B,false,L⟩ A.length 0=some (.arr 1 0 [.int .i64 n]):=ZW hB ((H1.out hl hno (by simp;omega)).trans (by rw [St.get_cur];rfl))
  refine Z9 rfl (fun B1 hA=>?_)
  have g0:=fun L=>ZW hA (ro:=false) (L:=L) hg
  repeat' (first|refine Zz rfl (g0 _) rfl rfl ?_|refine ZE ?_|refine ZD ?_|refine ZG rfl ?_|refine ZB rfl ?_|refine ZC ?_|(refine Zg rfl rfl (fun _=>?_) (fun _=>?_)<;>try (exfalso;omega))|refine ZO ?_|refine ZL ?_)
  all_goals refine ZX hA (by first|exact .inl rfl|exact .inr rfl) rfl rfl rfl rfl ?_
  ·rw [decide_eq_true (by assumption)]
  ·rw [decide_eq_false (by omega)]
 obtain ⟨ver2,es2,vis2,hF,f1,f2,f3,f4,f5⟩:=ZeU H1 hla hR1 hN h h0 hs ha hv H.le H.es hM;refine ⟨ver2,es2,vis2,_,rfl,?_,⟨H.cl.put rfl rfl,f1,f2⟩,f3,f4,f5⟩
 generalize J2 (fun i _=>decide ((i:Int)<n)) 0 (s.drop a)=k at *
 rw [Jy hA hlt] at hF;have hRe:=Yi hN h ((H.cl.push hA (ro:=false) (L:=[.arr 1 0 [.int .i64 n]])).get 0 lv ic _ rfl rfl) (hR.push hA (L:=[.arr 1 0 [.int .i64 n]])).rd
 refine Yo rfl (fun A' hA'=>?_)
 obtain rfl:A'=A:=hA'.trans hA.symm
 have hBl:(Zx st [(lv,ic),(lv,li)] (Qn (.ptr la (b+5) 0 0 0) r lv li ver2 (r.h+1) es2 vis2 ((a+k:Nat):Int))).ps.length=A'.length:=by simp [ZDd,hA]
 obtain ⟨B,hB⟩:∃ B,B=(Zx st [(lv,ic),(lv,li)] (Qn (.ptr la (b+5) 0 0 0) r lv li ver2 (r.h+1) es2 vis2 ((a+k:Nat):Int))).ps:=⟨_,rfl⟩;rw [<- hB] at hF
 repeat' (first|refine ZE ?_|refine ZD ?_|refine ZG rfl ?_|refine ZV rfl rfl rfl rfl ?_|refine Zp rfl rfl ?_|refine ZB rfl ?_|refine ZC ?_|(refine Zg rfl rfl (fun _=>?_) (fun _=>?_)<;>try (exfalso;omega))|(refine Ze rfl rfl (fun _=>?_) (fun _=>?_)<;>try (exfalso;omega))|refine ZF rfl ?_|refine ZAK rfl rfl ?_|refine Zk rfl rfl rfl ?_|refine ZA rfl rfl rfl (hRe) ?_|refine ZA rfl rfl rfl (hF) ?_|refine ZH ?_|refine ZO ?_|refine ZL ?_)
 all_goals try contradiction
 all_goals try (exfalso;omega)
 exact ZX hB (.inr rfl) rfl rfl rfl rfl rfl
def XU (c:UInt8):Bool:=decide (128<=c.toNat/\c.toNat<192)
theorem Zov (c:UInt8) (st:St):S Tb ZA8 [.int .u8 c.toNat] st=some (.bool (XU c),st):=by
 refine Z9 rfl (fun A hA=>?_)
 unfold XU
 repeat' (first|refine ZE ?_|refine ZD ?_|refine ZG rfl ?_|refine Z2 rfl ?_|refine Q9 rfl rfl ?_|refine Zf rfl rfl rfl rfl ?_|refine ZB rfl ?_|refine ZC ?_|(refine Zg rfl rfl (fun _=>?_) (fun _=>?_)<;>try (exfalso;omega))|(refine JQ rfl rfl (fun _=>?_) (fun _=>?_)<;>try (exfalso;omega))|refine ZO ?_|refine ZL ?_)
 all_goals refine ZX hA (by first|exact .inl rfl|exact .inr rfl) rfl rfl rfl rfl ?_
 ·rw [decide_eq_true (by omega)]
 ·rw [decide_eq_false (by omega)]
 ·rw [decide_eq_false (by omega)]
def YH (i:Nat) (c:UInt8):Bool:=decide (i=0) || XU c
theorem Zow (H:CurN st lv ic li la b r N s a vis ver es) (hla:la<=lv) (hR:RdO st la (b+5) N [(lv,ic),(lv,li)]) (hN:GoodN N) (h:Rt N r s) (h0:r.at_≠0) (hs:s.length<=100000) (ha:a<s.length) (hv:0<=vis/\vis<700000000) :
 ∃ ver2 es2 vis2 k,k=J2 YH 0 (s.drop a)/\S Tb QH [.ptr lv ic 0 0 0] st=some (.tup [.str ((s.drop a).take k),.int .i64 0],Zx st [(lv,ic),(lv,li)] (Qn (.ptr la (b+5) 0 0 0) r lv li ver2 (r.h+1) es2 vis2 ((a+k:Nat):Int))) /\
  CurN (Zx st [(lv,ic),(lv,li)] (Qn (.ptr la (b+5) 0 0 0) r lv li ver2 (r.h+1) es2 vis2 ((a+k:Nat):Int))) lv ic li la b r N s (a+k) vis2 ver2 es2/\vis2+visA N r s a=vis+visA N r s (a+k)/\vis<=vis2/\vis2<=vis+20*k+20:=by
 obtain ⟨A,hA⟩:∃ A,A=st.ps:=⟨_,rfl⟩;have H1:Cl ⟨A,false,[]⟩ [(lv,ic),(lv,li)] _:=H.cl.push hA;have hR1:=hR.push (L:=[]) hA;have hlt:∀ k∈[(lv,ic),(lv,li)],k.1<=st.A.length:=H.cl.le;have hmb:r.m.b=s.length:=(h.b hN).2
 have hM:More ⟨A,false,[]⟩ [(lv,ic),(lv,li)] Yd [] YH:=by
  refine ⟨fun bs B L i c hB hl hno hi=>?_,fun i c=>rfl⟩
  refine Z9 rfl (fun B1 hA=>?_)
  have hC:=fun st=>Zov c st
  unfold YH
  by_cases hi0:i=0
  ·subst hi0
   repeat' (first|refine ZE ?_|refine ZD ?_|refine ZG rfl ?_|refine Q9 rfl rfl ?_|refine Zf rfl rfl rfl rfl ?_|refine ZB rfl ?_|refine ZC ?_|(refine Zi rfl rfl (fun _=>?_) (fun _=>?_)<;>try (exfalso;omega))|refine ZO ?_|refine ZL ?_)
   all_goals try contradiction
   all_goals try (exfalso;omega)
   all_goals refine ZX hA (by first|exact .inl rfl|exact .inr rfl) rfl rfl rfl rfl ?_
   all_goals rfl
  ·have:((i:Nat):Int)≠0:=by omega
   repeat' (first|refine ZE ?_|refine ZD ?_|refine ZG rfl ?_|refine Z2 rfl ?_|refine Zf rfl rfl rfl rfl ?_|refine ZB rfl ?_|refine ZC ?_|(refine Zi rfl rfl (fun _=>?_) (fun _=>?_)<;>try (exfalso;omega))|refine ZA rfl rfl rfl (hC _) ?_|refine ZO ?_|refine ZL ?_)
   all_goals try contradiction
   all_goals try (exfalso;omega)
   all_goals refine ZX hA (by first|exact .inl rfl|exact .inr rfl) rfl rfl rfl rfl ?_
   all_goals simp [hi0]
 obtain ⟨ver2,es2,vis2,hF,f1,f2,f3,f4,f5⟩:=ZeU H1 hla hR1 hN h h0 hs (Nat.le_of_lt ha) hv H.le H.es hM;refine ⟨ver2,es2,vis2,_,rfl,?_,⟨H.cl.put rfl rfl,f1,f2⟩,f3,f4,f5⟩
 generalize J2 YH 0 (s.drop a)=k at *
 rw [Jy hA hlt] at hF;have hRe:=Yi hN h ((H.cl.push hA (ro:=false) (L:=[])).get 0 lv ic _ rfl rfl) (hR.push hA (L:=[])).rd;have hg:=(H.cl.push hA (ro:=false) (L:=[])).get 0 lv ic _ rfl rfl
 refine Yo rfl (fun A' hA'=>?_)
 obtain rfl:A'=A:=hA'.trans hA.symm;obtain ⟨B,hB⟩:∃ B,B=(Zx st [(lv,ic),(lv,li)] (Qn (.ptr la (b+5) 0 0 0) r lv li ver2 (r.h+1) es2 vis2 ((a+k:Nat):Int))).ps:=⟨_,rfl⟩;rw [<- hB] at hF;unfold Qp at hg
 have hne:((a:Nat):Int)≠r.m.b:=by omega
 repeat' (first|refine Zz rfl hg rfl rfl ?_|refine ZE ?_|refine ZD ?_|refine ZG rfl ?_|refine ZJ rfl rfl ?_|refine Zp rfl rfl ?_|refine ZB rfl ?_|refine ZC ?_|refine Zb rfl rfl ?_|(refine Zi rfl rfl (fun _=>?_) (fun _=>?_)<;>try (exfalso;omega))|(refine Ze rfl rfl (fun _=>?_) (fun _=>?_)<;>try (exfalso;omega))|refine ZF rfl ?_|refine ZA rfl rfl rfl (hRe) ?_|refine ZA rfl rfl rfl (hF) ?_|refine ZH ?_|refine ZO ?_|refine ZL ?_)
 all_goals try contradiction
 all_goals try (exfalso;omega)
 exact ZX hB (.inr rfl) rfl rfl rfl rfl rfl
theorem Zox {lev:AV} {at_:Int} (h0:st.get lv ic=some (Qp (.ptr la (b+5) 0 0 0) r lev vis at_)) (hb:0<=r.m.b/\r.m.b<=100000) (x:Int):S Tb Y7 [.ptr lv ic 0 0 0,.int .i64 x] st=some (.int .i64 (min x (r.m.b-1)),st):=by
 refine Z9 rfl (fun A hA=>?_)
 have g0:=fun L=>ZW hA (ro:=false) (L:=L) h0
 unfold Qp at g0
 repeat' (first|refine Zz rfl (g0 _) rfl rfl ?_|refine ZQu rfl rfl ?_|refine ZE ?_|refine ZD ?_|refine ZG rfl ?_|refine ZJ rfl rfl ?_|refine ZB rfl ?_|refine ZC ?_|refine Zb rfl rfl ?_|refine QS rfl rfl (by omega) ?_|refine ZO ?_|refine ZL ?_)
 refine ZX hA (by first|exact .inl rfl|exact .inr rfl) rfl rfl rfl rfl ?_
 rfl
theorem Zgj (H:CurN st lv ic li la b r N s a vis ver es) (hla:la<=lv) (hR:RdO st la (b+5) N [(lv,ic),(lv,li)]) (hN:GoodN N) (h:Rt N r s) (h0:r.at_≠0) (hs:s.length<=100000) (ha:a<=s.length) (hv:0<=vis/\vis<700000000) (x:Nat) (hx:x<=s.length) :
 ∃ ver2 es2 vis2,S Tb Qo [.ptr lv ic 0 0 0,.int .i64 x] st=some (.int .i64 0,Zx st [(lv,ic),(lv,li)] (Qn (.ptr la (b+5) 0 0 0) r lv li ver2 (r.h+1) es2 vis2 x)) /\
  CurN (Zx st [(lv,ic),(lv,li)] (Qn (.ptr la (b+5) 0 0 0) r lv li ver2 (r.h+1) es2 vis2 x)) lv ic li la b r N s x vis2 ver2 es2/\vis2=vis+((r.h+1-cmL N (min (a:Int) (s.length-1)) (min (x:Int) (s.length-1)) r.h (QU r):Nat):Int):=by
 obtain ⟨hlv,ht,hpos⟩:=h.lv hN h0;have h13:=h.rt.h13 hN;have hmb:r.m.b=s.length:=(h.b hN).2;have hrf:(QU r).f=0:=rfl;have hlt:∀ k∈[(lv,ic),(lv,li)],k.1<=st.A.length:=H.cl.le
 suffices hm:Sp Tb Qo [.ptr lv ic 0 0 0,.int .i64 x] st (fun v st'=>v=.int .i64 0/\∃ ver2 es2,st'=Zx st [(lv,ic),(lv,li)] (Qn (.ptr la (b+5) 0 0 0) r lv li ver2 (r.h+1) es2 (vis+((r.h+1-cmL N (min (a:Int) (s.length-1)) (min (x:Int) (s.length-1)) r.h (QU r):Nat):Int)) x)/\r.h+1<=es2.length/\es2.take (r.h+1)=(QN N (min (x:Int) (s.length-1)) r.h (QU r)).map (CLv.av N)) by
  obtain ⟨v,st',hS,rfl,ver2,es2,rfl,f1,f2⟩:=hm;exact ⟨ver2,es2,_,hS,⟨H.cl.put rfl rfl,f1,f2⟩,rfl⟩
 refine ZXR (rfl:Tb Qo=some (.pf XA)) ?_;obtain ⟨A,hA⟩:∃ A,A=st.ps:=⟨_,rfl⟩
 show Ru _ _ _ _ _ ⟨st.ps,false,[]⟩
 rw [<- hA]
 have hA0:A=(Zx st [(lv,ic),(lv,li)] (Qn (.ptr la (b+5) 0 0 0) r lv li ver (r.h+1) es vis a)).ps:=by rw [H.cl.same];exact hA
 repeat' (first|refine ZE ?_|refine ZD ?_|refine ZG rfl ?_|refine ZJ rfl rfl ?_|refine ZB rfl ?_|refine ZC ?_|refine Zb rfl rfl ?_)
 refine ZNt (j:=0) H.cl hA0 rfl rfl rfl rfl rfl rfl rfl rfl rfl (fun B hB e1=>?_)
 have hB':B=(Zx st [(lv,ic),(lv,li)] (Qn (.ptr la (b+5) 0 0 0) r lv li ver (r.h+1) es vis x)).ps:=hB;have Hc:=(H.cl.put (bs':=Qn (.ptr la (b+5) 0 0 0) r lv li ver (r.h+1) es vis x) rfl rfl).push hB' (ro:=false) (L:=[]);have hg:=Hc.get 0 lv ic _ rfl rfl
 have hSt:=Zox hg (by omega) (x:Int)
 rw [hmb] at hSt
 obtain ⟨v,st',hE,rfl,A2,L2,T2,ver2,es2,rfl,e2,f2,f3⟩:=Zgh (n:=r.h) (p:=min (a:Int) (s.length-1)) (a:=min (x:Int) (s.length-1)) Hc hla ((hR.putS H.cl rfl rfl).push hB') hN hlv rfl (by omega) (by omega) (by omega) (by omega) (by omega) hs (by omega) H.le H.es
 have hlek:∀ k∈[(lv,ic),(lv,li)],k.1<=(Zx st [(lv,ic),(lv,li)] (Qn (.ptr la (b+5) 0 0 0) r lv li ver (r.h+1) es vis x)).A.length:=by rw [ZDd];exact hlt
 rw [Jy hB' hlek,ZCw H.cl.nd rfl rfl] at e2;simp only [St.mk.injEq,true_and] at e2;obtain ⟨e2a,rfl⟩:=e2
 have hzi:((r.at_:Nat):Int)≠0:=by omega
 unfold Qp at hg
 repeat' (first|refine Zz rfl hg rfl rfl ?_|refine ZE ?_|refine ZD ?_|refine ZG rfl ?_|refine ZJ rfl rfl ?_|refine ZB rfl ?_|refine ZC ?_|refine Zb rfl rfl ?_|(refine Zi rfl rfl (fun _=>?_) (fun _=>?_)<;>try (exfalso;omega))|refine ZF rfl ?_|refine ZA rfl rfl rfl (hSt) ?_|refine ZA rfl rfl rfl (hE) ?_|refine ZH ?_|refine ZO ?_|refine ZL ?_)
 all_goals try contradiction
 all_goals try (exfalso;omega)
 exact ⟨_,_,ZX e2a (.inr rfl) rfl rfl rfl rfl rfl,rfl,ver2,es2,rfl,f2,f3⟩
theorem Zoy (H:CurN st lv ic li la b r N s a vis ver es) (hla:la<=lv) (hR:RdO st la (b+5) N [(lv,ic),(lv,li)]) (hN:GoodN N) (h:Rt N r s) (h0:r.at_≠0) (hs:s.length<=100000) (ha:a<=s.length) (hv:0<=vis/\vis<700000000) (x:Nat) (hx:x<=s.length) :
 ∃ ver2 es2 vis2,S Tb QG [.ptr lv ic 0 0 0,.int .i64 x] st=some (.int .i64 0,Zx st [(lv,ic),(lv,li)] (Qn (.ptr la (b+5) 0 0 0) r lv li ver2 (r.h+1) es2 vis2 x)) /\
  CurN (Zx st [(lv,ic),(lv,li)] (Qn (.ptr la (b+5) 0 0 0) r lv li ver2 (r.h+1) es2 vis2 x)) lv ic li la b r N s x vis2 ver2 es2/\vis2=vis+((r.h+1-cmL N (min (a:Int) (s.length-1)) (min (x:Int) (s.length-1)) r.h (QU r):Nat):Int):=by
 obtain ⟨A,hA⟩:∃ A,A=st.ps:=⟨_,rfl⟩;have hlt:∀ k∈[(lv,ic),(lv,li)],k.1<=st.A.length:=H.cl.le;have hmb:r.m.b=s.length:=(h.b hN).2;have H1:CurN ⟨A,false,[]⟩ lv ic li la b r N s a vis ver es:=⟨H.cl.push hA,H.le,H.es⟩;obtain ⟨ver2,es2,vis2,hJ,hC,hvis⟩:=Zgj H1 hla (hR.push hA) hN h h0 hs ha hv x hx;refine ⟨ver2,es2,vis2,?_,⟨H.cl.put rfl rfl,hC.le,hC.es⟩,hvis⟩;rw [Jy hA hlt] at hJ;have hg:=H1.cl.get 0 lv ic _ rfl rfl;have hRe:=Yi hN h hg (hR.push hA (L:=[])).rd
 refine Yo rfl (fun A' hA'=>?_)
 obtain rfl:A'=A:=hA'.trans hA.symm;obtain ⟨B,hB⟩:∃ B,B=(Zx st [(lv,ic),(lv,li)] (Qn (.ptr la (b+5) 0 0 0) r lv li ver2 (r.h+1) es2 vis2 x)).ps:=⟨_,rfl⟩;rw [<- hB] at hJ;unfold Qp at hg
 repeat' (first|refine Zz rfl hg rfl rfl ?_|refine ZE ?_|refine ZD ?_|refine ZG rfl ?_|refine ZJ rfl rfl ?_|refine Z2 rfl ?_|refine Zf rfl rfl rfl rfl ?_|refine ZB rfl ?_|refine ZC ?_|refine Zb rfl rfl ?_|(refine Zg rfl rfl (fun _=>?_) (fun _=>?_)<;>try (exfalso;omega))|(refine QD rfl rfl (fun _=>?_) (fun _=>?_)<;>try (exfalso;omega))|(refine Ze rfl rfl (fun _=>?_) (fun _=>?_)<;>try (exfalso;omega))|refine ZF rfl ?_|refine ZA rfl rfl rfl (hRe) ?_|refine ZA rfl rfl rfl (hJ) ?_|refine ZH ?_|refine ZO ?_|refine ZL ?_)
 all_goals try contradiction
 all_goals try (exfalso;omega)
 exact ZX hB (.inr rfl) rfl rfl rfl rfl rfl
theorem at_c {ap lev:AV} {at_:Int} (h0:st.get lv ic=some (Qp ap r lev vis at_)):S Tb QM [.ptr lv ic 0 0 0] st=some (.int .i64 at_,st):=by
 refine Z9 rfl (fun A hA=>?_)
 have g0:=fun L=>ZW hA (ro:=false) (L:=L) h0
 unfold Qp at g0
 repeat' (first|refine Zz rfl (g0 _) rfl rfl ?_|refine ZE ?_|refine ZD ?_|refine ZG rfl ?_|refine ZJ rfl rfl ?_|refine ZB rfl ?_|refine ZC ?_|refine Zb rfl rfl ?_|refine ZF rfl ?_|refine Q5 rfl rfl rfl rfl ?_|refine ZH ?_|refine ZO ?_|refine ZL ?_)
 all_goals refine ZX hA (by first|exact .inl rfl|exact .inr rfl) rfl rfl rfl rfl ?_
 all_goals rfl
theorem visited_c {ap lev:AV} {at_:Int} (h0:st.get lv ic=some (Qp ap r lev vis at_)):S Tb JA [.ptr lv ic 0 0 0] st=some (.int .i64 vis,st):=by
 refine Z9 rfl (fun A hA=>?_)
 have g0:=fun L=>ZW hA (ro:=false) (L:=L) h0
 unfold Qp at g0
 repeat' (first|refine Zz rfl (g0 _) rfl rfl ?_|refine ZE ?_|refine ZD ?_|refine ZG rfl ?_|refine ZJ rfl rfl ?_|refine ZB rfl ?_|refine ZC ?_|refine Zb rfl rfl ?_|refine ZF rfl ?_|refine Q5 rfl rfl rfl rfl ?_|refine ZH ?_|refine ZO ?_|refine ZL ?_)
 all_goals refine ZX hA (by first|exact .inl rfl|exact .inr rfl) rfl rfl rfl rfl ?_
 all_goals rfl
end
def RdM (st:St) (la ix im:Nat) (N:ZQ):Prop:=∃ a0 a1 a3 a4 a5,st.get la ix=some (.arr 6 0 [.agg [a0,a1,.map la im,a3,a4,a5]])/\st.get la im=some (.map (N.map nodeAV))
theorem RdM.rd {st:St} {la ix im:Nat} {N:ZQ} (h:RdM st la ix im N):Rd st la ix N:=by
 obtain ⟨a0,a1,a3,a4,a5,h1,h2⟩:=h;exact ⟨a0,a1,im,a3,a4,a5,h1,h2⟩
theorem RdM.app {A:List (Bool × List Blk)} {L:List Blk} {la ix im:Nat} {N:ZQ} (h:RdM ⟨A,false,L⟩ la ix im N) (T:List Blk):RdM ⟨A,false,L++T⟩ la ix im N:=by
 obtain ⟨a0,a1,a3,a4,a5,h1,h2⟩:=h;exact ⟨a0,a1,a3,a4,a5,XE h1,XE h2⟩
structure Stay (X X':List Blk) (ic li:Nat):Prop where
 len:X'.length=X.length
 get:∀ i,i≠ic->i≠li->X'[i]?=X[i]?
structure CurL (A:List (Bool × List Blk)) (X:List Blk) (ic li la b im:Nat) (r:Ro) (N:ZQ) (s:List UInt8) (a:Nat) (vis:Int):Prop where
 ex:∃ ver es,CurN ⟨A,false,X⟩ A.length ic li la b r N s a vis ver es
 rd:RdM ⟨A,false,X⟩ la (b+5) im N
 n5:¬ (la=A.length/\(b+5=ic\/b+5=li))
 nm:¬ (la=A.length/\(im=ic\/im=li))
 la:la<=A.length
section
variable {A:List (Bool × List Blk)} {X:List Blk} {ic li la b im:Nat} {r:Ro} {N:ZQ} {s:List UInt8} {a:Nat} {vis:Int}
theorem CurL.rdo (h:CurL A X ic li la b im r N s a vis):RdO ⟨A,false,X⟩ la (b+5) N [(A.length,ic),(A.length,li)]:=by
 obtain ⟨a0,a1,a3,a4,a5,h1,h2⟩:=h.rd;have n5:=h.n5;have nm:=h.nm
 refine ⟨a0,a1,im,a3,a4,a5,h1,h2,?_,?_⟩<;>simp only [List.mem_cons,jP,List.not_mem_nil,or_false]<;>omega
theorem Zo0 (X:List Blk) (b0 b1:Blk):Zx ⟨A,false,X⟩ [(A.length,ic),(A.length,li)] [b0,b1]=⟨A,false,(X.set ic b0).set li b1⟩:=by
 simp [Zx,St.upd]
theorem ZtB (X:List Blk) (b0 b1:Blk):Stay X ((X.set ic b0).set li b1) ic li :=
 ⟨by simp,fun i h1 h2=>by rw [jS (fun q=>h2 q.symm),jS (fun q=>h1 q.symm)]⟩
theorem CurL.to (h:CurL A X ic li la b im r N s a vis) {a2:Nat} {vis2:Int} {ver2:Nat} {es2:List AV} (q:CurN (Zx ⟨A,false,X⟩ [(A.length,ic),(A.length,li)] (Qn (.ptr la (b+5) 0 0 0) r A.length li ver2 (r.h+1) es2 vis2 a2)) A.length ic li la b r N s a2 vis2 ver2 es2) :
 ∃ X',Zx ⟨A,false,X⟩ [(A.length,ic),(A.length,li)] (Qn (.ptr la (b+5) 0 0 0) r A.length li ver2 (r.h+1) es2 vis2 a2)=⟨A,false,X'⟩/\CurL A X' ic li la b im r N s a2 vis2/\Stay X X' ic li:=by
 obtain ⟨ver,es,w⟩:=h.ex
 refine ⟨_,Zo0 X _ _,⟨⟨ver2,es2,by rw [<- Zo0];exact q⟩,?_,h.n5,h.nm,h.la⟩,ZtB X _ _⟩
 obtain ⟨a0,a1,im',a3,a4,a5,h1,h2,h3,h4⟩:=h.rdo;obtain ⟨c0,c1,c3,c4,c5,g1,g2⟩:=h.rd;rw [<- Zo0];have n5:=h.n5;have nm:=h.nm
 refine ⟨c0,c1,c3,c4,c5,(w.cl.out rfl rfl ?_).trans g1,(w.cl.out rfl rfl ?_).trans g2⟩<;>simp only [List.mem_cons,jP,List.not_mem_nil,or_false]<;>omega
theorem CurL.at_c (h:CurL A X ic li la b im r N s a vis):S Tb QM [.ptr A.length ic 0 0 0] ⟨A,false,X⟩=some (.int .i64 a,⟨A,false,X⟩):=by
 obtain ⟨ver,es,w⟩:=h.ex;exact Go.Q15.at_c (w.cl.get 0 _ _ _ rfl rfl)
theorem CurL.visited_c (h:CurL A X ic li la b im r N s a vis):S Tb JA [.ptr A.length ic 0 0 0] ⟨A,false,X⟩=some (.int .i64 vis,⟨A,false,X⟩):=by
 obtain ⟨ver,es,w⟩:=h.ex;exact Go.Q15.visited_c (w.cl.get 0 _ _ _ rfl rfl)
section
variable (hN:GoodN N) (h:Rt N r s) (h0:r.at_≠0) (hs:s.length<=100000)
include hN h h0 hs
theorem CurL.read (hc:CurL A X ic li la b im r N s a vis) (ha:a<=s.length) (hv:0<=vis/\vis<700000000) (n:Int) (hn:0<=n) :
 ∃ X' vis2 k,k=J2 (fun i _=>decide ((i:Int)<n)) 0 (s.drop a)/\S Tb Qe [.ptr A.length ic 0 0 0,.int .i64 n] ⟨A,false,X⟩=some (.tup [.str ((s.drop a).take k),.int .i64 0],⟨A,false,X'⟩)/\CurL A X' ic li la b im r N s (a+k) vis2/\Stay X X' ic li/\vis2+visA N r s a=vis+visA N r s (a+k)/\vis<=vis2/\vis2<=vis+20*k+20:=by
 obtain ⟨ver,es,w⟩:=hc.ex;obtain ⟨ver2,es2,vis2,k,hk,f1,f2,f3,f4,f5⟩:=Zou w hc.la hc.rdo hN h h0 hs ha hv n hn;obtain ⟨X',e1,e2,e3⟩:=hc.to f2;rw [e1] at f1;exact ⟨X',vis2,k,hk,f1,e2,e3,f3,f4,f5⟩
theorem CurL.next (hc:CurL A X ic li la b im r N s a vis) (ha:a<s.length) (hv:0<=vis/\vis<700000000) :
 ∃ X' vis2 k,k=J2 YH 0 (s.drop a)/\S Tb QH [.ptr A.length ic 0 0 0] ⟨A,false,X⟩=some (.tup [.str ((s.drop a).take k),.int .i64 0],⟨A,false,X'⟩)/\CurL A X' ic li la b im r N s (a+k) vis2/\Stay X X' ic li/\vis2+visA N r s a=vis+visA N r s (a+k)/\vis<=vis2/\vis2<=vis+20*k+20:=by
 obtain ⟨ver,es,w⟩:=hc.ex;obtain ⟨ver2,es2,vis2,k,hk,f1,f2,f3,f4,f5⟩:=Zow w hc.la hc.rdo hN h h0 hs ha hv;obtain ⟨X',e1,e2,e3⟩:=hc.to f2;rw [e1] at f1;exact ⟨X',vis2,k,hk,f1,e2,e3,f3,f4,f5⟩
theorem CurL.seek (hc:CurL A X ic li la b im r N s a vis) (ha:a<=s.length) (hv:0<=vis/\vis<700000000) (x:Nat) (hx:x<=s.length) :
 ∃ X' vis2,S Tb QG [.ptr A.length ic 0 0 0,.int .i64 x] ⟨A,false,X⟩=some (.int .i64 0,⟨A,false,X'⟩)/\CurL A X' ic li la b im r N s x vis2/\Stay X X' ic li/\vis2=vis+((r.h+1-cmL N (min (a:Int) (s.length-1)) (min (x:Int) (s.length-1)) r.h (QU r):Nat):Int):=by
 obtain ⟨ver,es,w⟩:=hc.ex;obtain ⟨ver2,es2,vis2,f1,f2,f3⟩:=Zoy w hc.la hc.rdo hN h h0 hs ha hv x hx;obtain ⟨X',e1,e2,e3⟩:=hc.to f2;rw [e1] at f1;exact ⟨X',vis2,f1,e2,e3,f3⟩
end
theorem ZiV (hN:GoodN N) (h:Rt N r s) (hs:s.length<=100000) (hR:RdM ⟨A,false,X⟩ la (b+5) im N) (hla:la<=A.length) :
 ∃ X' ic,S Tb ZAL [.ptr la (b+5) 0 0 0,r.av] ⟨A,false,X⟩=some (.tup [.ptr A.length ic 0 0 0,.int .i64 0],⟨A,false,X'⟩)/\X.length<=ic/\X.length<=X'.length/\(∀ i,i<X.length->X'[i]?=X[i]?) /\
  ((r.at_=0/\X'[ic]?=some (Qp (.ptr la (b+5) 0 0 0) r .nils 0 0))\/(r.at_≠0/\∃ li,X.length<=li/\CurL A X' ic li la b im r N s 0 ((r.h+1:Nat):Int))):=by
 have hCk:=fun T=>Zor hN (hR.app T).rd h hs
 have hroot:∀ c:Blk,(X++[Blk.arr 5 0 [r.av]]++[c])[X.length]?=some (.arr 5 0 [r.av]):=fun c=>by rw [List.append_assoc,List.getElem?_append_right (Nat.le_refl _),Nat.sub_self];rfl
 by_cases h0:r.at_=0
 ·have hz:((r.at_:Nat):Int)=0:=by omega
  refine ⟨X++[.arr 5 0 [r.av]]++[Qp (.ptr la (b+5) 0 0 0) r .nils 0 0],(X++[Blk.arr 5 0 [r.av]]).length,XY rfl ?_,by simp only [lL,List.length_singleton];omega,by simp only [lL,List.length_singleton];omega,fun i hi=>by rw [List.append_assoc,jL hi],.inl ⟨h0,by rw [List.getElem?_append_right (Nat.le_refl _),Nat.sub_self];rfl⟩⟩
  unfold Ro.av Qp at *
  repeat' (first|refine ZV rfl (hroot _) rfl rfl ?_|refine ZE ?_|refine ZD ?_|refine ZG rfl ?_|refine ZJ rfl rfl ?_|refine ZB rfl ?_|refine ZC ?_|refine Qf rfl rfl rfl ?_|(refine Ze rfl rfl (fun _=>?_) (fun _=>?_)<;>try (exfalso;omega))|refine ZF rfl ?_|refine Zt rfl rfl rfl ?_|refine Zy rfl rfl rfl ?_|refine ZA rfl rfl rfl (hCk _) ?_|refine ZH ?_|refine ZO ?_|refine ZL ?_)
  all_goals try contradiction
  all_goals exact Jj (.inr rfl) rfl rfl rfl rfl
 ·have hz:((r.at_:Nat):Int)≠0:=by omega
  have hci:(X++[Blk.arr 5 0 [r.av]]++[Qp (.ptr la (b+5) 0 0 0) r .nils 0 0])[(X++[Blk.arr 5 0 [r.av]]).length]?=some (Qp (.ptr la (b+5) 0 0 0) r .nils 0 0):=by rw [List.getElem?_append_right (Nat.le_refl _),Nat.sub_self];rfl
  obtain ⟨a0,a1,a3,a4,a5,g1,g2⟩:=(hR.app [Blk.arr 5 0 [r.av]]).app [Qp (.ptr la (b+5) 0 0 0) r .nils 0 0];obtain ⟨v,st',hE,rfl,X',ver,es,rfl,f1,f2,f3,f4,f5⟩:=ZmY hN h h0 hs hci hla ⟨a0,a1,im,a3,a4,a5,g1,g2⟩
  have hst:∀ i,i<X.length->X'[i]?=X[i]?:=fun i hi=>by
   rw [f5 i (by simp;omega) (by simp;omega),List.append_assoc,jL hi]
  have hin:∀ lv ix c,St.get ⟨A,false,X⟩ lv ix=some c->St.get ⟨A,false,X'⟩ lv ix=some c/\¬ (lv=A.length/\X.length<=ix):=by
   intro lv ix c q;rw [St.get] at q ⊢
   simp only at q ⊢
   by_cases w:lv=A.length
   ·rw [if_pos w] at q ⊢
    have hlt:=ZDA q;rw [hst ix hlt]
    exact ⟨q,fun e=>by omega⟩
   ·rw [if_neg w] at q ⊢
    exact ⟨q,fun e=>w e.1⟩
  obtain ⟨b0,b1,b3,b4,b5,k1,k2⟩:=hR;obtain ⟨k1',k1n⟩:=hin _ _ _ k1;obtain ⟨k2',k2n⟩:=hin _ _ _ k2
  refine ⟨X',(X++[Blk.arr 5 0 [r.av]]).length,XY rfl ?_,by simp,by simp at f4;omega,hst,.inr ⟨h0,(X++[Blk.arr 5 0 [r.av]]++[Qp (.ptr la (b+5) 0 0 0) r .nils 0 0]).length+1,by simp;omega,⟨ver,es,⟨f1,f2,by
   rw [f3];obtain ⟨_,_,hp⟩:=h.lv hN h0
   rw [show min ((0:Nat):Int) (s.length-1)=0 by omega]⟩⟩,⟨b0,b1,b3,b4,b5,k1',k2'⟩,?_,?_,hla⟩⟩
  ·unfold Ro.av Qp at *
   repeat' (first|refine ZV rfl (hroot _) rfl rfl ?_|refine ZE ?_|refine ZD ?_|refine ZG rfl ?_|refine ZJ rfl rfl ?_|refine ZB rfl ?_|refine ZC ?_|refine Zb rfl rfl ?_|refine Qf rfl rfl rfl ?_|(refine Ze rfl rfl (fun _=>?_) (fun _=>?_)<;>try (exfalso;omega))|refine ZS rfl ?_|refine ZF rfl ?_|refine Zt rfl rfl rfl ?_|refine Zy rfl rfl rfl ?_|refine ZA rfl rfl rfl (hCk _) ?_|refine ZA rfl rfl rfl (hE) ?_|refine ZH ?_|refine ZO ?_|refine ZL ?_)
   all_goals try contradiction
   all_goals exact Jj (.inr rfl) rfl rfl rfl rfl
  ·simp only [lL,List.length_singleton]
   omega
  ·simp only [lL,List.length_singleton]
   omega
end
theorem ZmZ (A:List (Bool × List Blk)):S Tb Xb [] ⟨A,false,[]⟩=some (.tup [.ptr A.length 6 0 0 0,exRo.av,.bool true],⟨A,false,[.arr 5 0 [exRo.av]]++(arB A.length 1 exR++[.arr 5 0 [exRo.av]])⟩):=by
 have hN:=Zkx 8 4 (by omega) (by omega) A [.arr 5 0 [Ro.zero.av]]
 have h1:=Zk7 (ZHz A [.arr 5 0 [Ro.zero.av]] [] (JP 8 4)) (Zai 8 4 (by omega) (by omega)) ZQP exS (by decide) (by rw [Zrp];decide)
 rw [Zah,Zro] at h1
 change S Tb ZDB [.ptr A.length 6 0 0 0,.str exS] ⟨A,false,_⟩=some (_,⟨A,false,[.arr 5 0 [Ro.zero.av]]++(arB A.length 1 exR++[])⟩) at h1
 refine XY rfl ?_
 repeat' (first|refine ZE ?_|refine ZD ?_|refine ZG rfl ?_|refine Z2 rfl ?_|refine Zf rfl rfl rfl rfl ?_|refine Zp rfl rfl ?_|refine ZB rfl ?_|refine ZC ?_|(refine Ze rfl rfl (fun _=>?_) (fun _=>?_)<;>try (exfalso;omega))|refine ZF rfl ?_|refine Q5 rfl rfl rfl rfl ?_|refine Zk rfl rfl rfl ?_|refine ZA rfl rfl rfl (hN) ?_|refine ZH ?_)
 all_goals try contradiction
 all_goals try (exfalso;omega)
 unfold exS at h1;refine ZA rfl rfl rfl h1 ?_
 change Is _ _ _ _ _ _ ⟨A,false,[.arr 5 0 [Ro.zero.av],exR.b0,exR.b1,exR.b2,exR.b3 A.length 1,exR.b4,exR.b5 A.length 1]⟩
 generalize hb0:exR.b0=b0 at *
 generalize hb1:exR.b1=b1 at *
 generalize hb2:exR.b2=b2 at *
 generalize hb3:exR.b3 A.length 1=b3 at *
 generalize hb4:exR.b4=b4 at *
 generalize hb5:exR.b5 A.length 1=b5 at *
 repeat' (first|refine ZFh rfl rfl rfl rfl rfl rfl ?_|refine ZHv rfl rfl rfl rfl rfl rfl rfl ?_|refine ZE ?_|refine ZD ?_|refine ZG rfl ?_|refine ZJ rfl rfl ?_|refine ZV rfl rfl rfl rfl ?_|refine Z2 rfl ?_|refine Zf rfl rfl rfl rfl ?_|refine Zp rfl rfl ?_|refine ZB rfl ?_|refine ZC ?_|(refine Zi rfl rfl (fun _=>?_) (fun _=>?_)<;>try (exfalso;omega))|refine Zk rfl rfl rfl ?_|refine QE rfl rfl rfl rfl rfl rfl ?_|refine ZO ?_|refine ZL ?_)
 all_goals first|exact absurd rfl ‹_›|(refine (Zr6 (.inr rfl) rfl rfl rfl rfl rfl).trans ?_;subst hb0 hb1 hb2 hb3 hb4 hb5;rfl)
theorem Zsa:visA exR.nodes exRo exS 0=visA exR.nodes exRo exS 1:=by decide +kernel
theorem Zma (st:St):S Tb Jn [] st=some (.bool true,st):=by
 refine Z9 rfl (fun A hA=>?_)
 obtain ⟨o1,o2,o3⟩:=Zs9;have hS:=ZmZ A;generalize hX0:[Blk.arr 5 0 [exRo.av]]++(arB A.length 1 exR++[.arr 5 0 [exRo.av]])=X0 at hS
 have hHas:Has ⟨A,false,X0++[.arr 5 0 [exRo.av]]⟩ A.length 1 exR:=by
  rw [<- hX0]
  have:=ZHz A [.arr 5 0 [exRo.av]] ([.arr 5 0 [exRo.av]]++[.arr 5 0 [exRo.av]]) exR
  simpa [List.append_assoc] using this
 have hRM:RdM ⟨A,false,X0++[.arr 5 0 [exRo.av]]⟩ A.length (1+5) (1+4) exR.nodes:=⟨_,_,_,_,_,hHas.h5,hHas.h4⟩
 obtain ⟨X1,ic,hNew,c1,c2,c3,c4⟩:=ZiV (r:=exRo) o2 o3 (by decide) hRM (Nat.le_refl _)
 rcases c4 with ⟨z,_⟩|⟨z,li,c5,hc⟩
 ·exact absurd z (by decide)
 obtain ⟨X2,vis2,k,hk,hNx,hc2,_,hv2,_,_⟩:=hc.next o2 o3 z (by decide) (by decide) (by decide)
 have hk1:k=1:=by rw [hk];decide
 subst hk1
 have hvv:vis2=2:=by
  rw [Nat.zero_add,Zsa] at hv2
  have:exRo.h=1:=rfl
  rw [this] at hv2;omega
 subst hvv;have hAt:=hc2.at_c;have hVi:=hc2.visited_c;have hstr:(exS.drop 0).take 1=[97]:=rfl;rw [hstr] at hNx
 repeat' (first|refine ZE ?_|refine ZD ?_|refine ZG rfl ?_|refine Z2 rfl ?_|refine Zf rfl rfl rfl rfl ?_|refine Zp rfl rfl ?_|refine ZB rfl ?_|refine ZC ?_|refine Qf rfl rfl rfl ?_|(refine Zi rfl rfl (fun _=>?_) (fun _=>?_)<;>try (exfalso;omega))|(refine Ze rfl rfl (fun _=>?_) (fun _=>?_)<;>try (exfalso;omega))|(refine YY rfl rfl (fun _=>?_) (fun _=>?_)<;>try contradiction)|refine ZF rfl ?_|refine YF rfl rfl ?_|refine Q5 rfl rfl rfl rfl ?_|refine Zy rfl rfl rfl ?_|refine JE rfl rfl rfl rfl rfl rfl ?_|refine ZA rfl rfl rfl (hS) ?_|refine ZA rfl rfl rfl (hNew) ?_|refine ZA rfl rfl rfl (hNx) ?_|refine ZA rfl rfl rfl (hAt) ?_|refine ZA rfl rfl rfl (hVi) ?_|refine ZH ?_|refine ZO ?_|refine ZL ?_)
 all_goals try contradiction
 all_goals try (exfalso;omega)
 refine ZX hA (by first|exact .inl rfl|exact .inr rfl) rfl rfl rfl rfl ?_
 rfl
set_option maxHeartbeats 16000000
def ltL (n:Nat) (r:AR) (v:Nat) (ros:List Ro) (G0:List Blk) (w:Nat) (ss:List (List UInt8)) (G1:List Blk):List Blk :=
 r.b0::r.b1::r.b2::r.b3 n 0::r.b4::r.b5 n 0::.arr 5 v (ros.map Ro.av)::(G0++.arr 1 w (ss.map .str)::G1)
section
variable {A:List (Bool × List Blk)} {r:AR} {v:Nat} {ros:List Ro} {G0:List Blk} {w:Nat} {ss:List (List UInt8)} {G1:List Blk}
theorem Zay:Has ⟨A,false,ltL A.length r v ros G0 w ss G1⟩ A.length 0 r:=ZHz A [] (.arr 5 v (ros.map Ro.av)::(G0++.arr 1 w (ss.map .str)::G1)) r
theorem Zrr:Rd ⟨A,false,ltL A.length r v ros G0 w ss G1⟩ A.length 5 r.nodes:=(Zay).r.rd
theorem Zsb (r':AR):Q7 ⟨A,false,ltL A.length r v ros G0 w ss G1⟩ A.length 0 r'=⟨A,false,ltL A.length r' v ros G0 w ss G1⟩:=Zah A [] (.arr 5 v (ros.map Ro.av)::(G0++.arr 1 w (ss.map .str)::G1)) r r'
theorem Zsc {n:Nat}:(ltL n r v ros G0 w ss G1)[6]?=some (.arr 5 v (ros.map Ro.av)):=rfl
theorem lt_7 {n:Nat}:(ltL n r v ros G0 w ss G1)[7+G0.length]?=some (.arr 1 w (ss.map .str)):=by
 rw [show 7+G0.length=G0.length+7 by omega]
 show (G0++.arr 1 w (ss.map .str)::G1)[G0.length]?=_
 exact ZS7 _ _ _
theorem Zo1 {n:Nat} (b:Blk):ltL n r v ros G0 w ss G1++[b]=ltL n r v ros G0 w ss (G1++[b]):=by simp [ltL]
theorem ZrQ {n:Nat} (v':Nat) (x:Ro):(ltL n r v ros G0 w ss G1).set 6 (.arr 5 v' (ros.map Ro.av++[x.av]))=ltL n r v' (ros++[x]) G0 w ss G1:=by
 unfold ltL;rw [List.map_append];rfl
theorem ZrR {n:Nat} (w':Nat) (s:List UInt8):(ltL n r v ros G0 w ss G1).set (7+G0.length) (.arr 1 w' (ss.map .str++[.str s]))=ltL n r v ros G0 w' (ss++[s]) G1:=by
 rw [show 7+G0.length=G0.length+7 by omega]
 unfold ltL;simp only [List.set_cons_succ,List.map_append]
 rw [show (G0++Blk.arr 1 w (ss.map .str)::G1).set G0.length (Blk.arr 1 w' (ss.map .str++[AV.str s]))=G0++Blk.arr 1 w' (ss.map .str++[AV.str s])::G1 by simp]
 rfl
end
theorem Zj7 {ys:List Ed} {i:Nat} {y:Ed} (h:ys[i]?=some y):((ys.map Ed.av).drop i).take (i+1-i)=[y].map Ed.av:=by
 rw [<- List.map_drop,<- List.map_take,show i+1-i=1 by omega]
 obtain ⟨h1,h2⟩:=List.getElem?_eq_some_iff.1 h;rw [List.drop_eq_getElem_cons h1,h2];rfl
theorem Zo2 (ys:List Ed):JH 5 (ys.map Ed.av)=true:=by
 induction ys with
 | nil=>rfl
 | cons b s ih=>rw [jC,JH,List.all_cons];exact Bool.and_eq_true_iff.2 ⟨rfl,ih⟩
theorem ZlE {O:Orc} {k:List Fr} {Q:JV} {e:Env} {st:St} {keep:List Nat} {is:List QAbs.PI} {d:Nat} {ys:List Ed} {i:Nat} {y:Ed} {x a b:Opd} {z:Int} (hx:Zj e x=some (.lit (ys.map Ed.av))) (ha:Zj e a=some (.int .i64 i)) (hb:Zj e b=some (.int .i64 z)) (hz:z=i+1) (hy:ys[i]?=some y)
 (h:Is O is keep k Q ((d,.lit ([y].map Ed.av))::e) st):Is O (⟨some d,none,false,.slc 5 x (some a) (some b)⟩::is) keep k Q e st:=by
 have hlt:=(List.getElem?_eq_some_iff.1 hy).1;refine Zez (r:=i+1) (l:=i) hx ?_ ?_ (Zo2 _) ?_
 ·simp only [ZCT,ZI hb,JW,List.length_map]
  rw [if_pos (by omega)];congr 1;omega
 ·simp only [ZCT,ZI ha,JW]
  rw [if_pos (by omega)];rfl
 ·rw [Zj7 hy];exact h
theorem Zsd {texts:List (List UInt8)} {ys:List Ed} (hl:¬ ZTn texts) (hm:¬ Zal ys):(texts.flatten.length<=900/\texts.length<=4)/\ys.length<=60/\∀ y∈ys,y.text.length<=200:=by
 refine ⟨?_,Zod hm⟩
 have:=Zoe hl
 rw [List.length_flatten];omega
theorem Zj8 {texts:List (List UInt8)} (h9:texts.flatten.length<=900):∀ s∈texts,s.length<=900:=by
 intro s hs;obtain ⟨i,hi,rfl⟩:=List.getElem_of_mem hs;have h1:=ZiM (l:=texts) (jE hi);have h2:=ZWc texts (i+1);rw [h1,lL] at h2;omega
theorem Zo3 (texts:List (List UInt8)) (hl:texts.flatten.length<=900):∀ i,i<=texts.length->(XT (texts.take i)).1.nodes.length+(XT (texts.take i)).1.n=1500:=by
 intro i
 induction i with
 | zero=>intro _;simp [XT,JP]
 | succ i ih =>
  intro hi
  obtain ⟨s,hs⟩:∃ s,texts[i]?=some s:=⟨texts[i]'(by omega),by simp [show i<texts.length by omega]⟩
  have hl2:=ZWc texts (i+1)
  have h:=Zak texts hl i (by omega)
  obtain ⟨hn,_⟩:=Zaj (s:=s) h (by rw [<- Zq hs];omega)
  have hfl:=ZiM hs
  have hs2:s.length<=900:=by rw [hfl,lL] at hl2;omega
  obtain ⟨b1,b2,b3⟩:=ZAI h.good (show s.length<=65536 by omega)
  obtain ⟨w1,_⟩:=Zk6 (ZHz [] [] [] _) h.ok h.good b1 (by rw [b3];omega) hn
  have h1:=w1.n;have h2:=w1.nl
  have h3:=ih (by omega)
  rw [Zq hs,ZNz]
  show (wrV (Q6 s) _).1.nodes.length+(wrV (Q6 s) _).1.n=1500
  omega
theorem Zo4 {N:ZQ} (hN:GoodN N) {ros:List Ro} (h:PlanOk N ros) {y:Ed} (hy:y.text.length<=200) {B:Int} (hB:0<=B) (hr:∀ r∈ros,r.m.b<=B):(ZDk N ros y).bytes<=B+200:=by
 unfold ZDk
 match hq:ZeO ros y.n with
 | none =>
  obtain ⟨b1,b2,b3⟩:=ZAI hN (s:=y.text) (by omega)
  show (Q6 y.text).bytes<=_;omega
 | some r =>
  have hm:=jM (show ros[_]?=some r from hq)
  obtain ⟨h1,h2,h3,h4⟩:=h.rt r hm;have h5:=hr r hm;have p1:=JL (x:=y.at_) h3
  have p2:=JL (x:=y.len) (n:=r.m.b-Jc y.at_ r.m.b) (by omega)
  have:=ZQO hN (s:=y.text) h1.keep (a:=Jc y.at_ r.m.b) (n:=Jc y.len (r.m.b-Jc y.at_ r.m.b)) p1.1 p2.1 (by omega) (by omega) (by omega)
  show (Tr.own _).bytes<=_
  rw [ZLp,this.bytes];omega
structure MkInv (r:AR) (ros:List Ro) (ss:List (List UInt8)) (n:Nat) (B:Nat):Prop where
 ok:AROk r
 good:GoodN r.nodes
 rts:Rts r.nodes ros ss
 len:ros.length=n
 n20:n<=20
 small:∀ s∈ss,s.length<=B
 nl:r.nodes.length+r.n=1500
theorem MkInv.plan {r:AR} {ros:List Ro} {ss:List (List UInt8)} {n B:Nat} (h:MkInv r ros ss n B) (hB:B<=60000):PlanOk r.nodes ros:=h.rts.plan h.good (by have:=h.len;have:=h.n20;omega) (fun s hs=>by have:=h.small s hs;omega)
theorem MkInv.mb {r:AR} {ros:List Ro} {ss:List (List UInt8)} {n B:Nat} (h:MkInv r ros ss n B):∀ ro∈ros,ro.m.b<=(B:Int):=by
 intro ro hr;obtain ⟨i,hi,rfl⟩:=List.getElem_of_mem hr
 have hi2:i<ss.length:=by rw [<- h.rts.1];exact hi
 have g:=h.rts.2 i _ _ (jE hi) (jE hi2)
 have:=(g.b h.good).2
 have:=h.small _ (List.getElem_mem hi2)
 omega
theorem Zse (texts:List (List UInt8)) (ys:List Ed) (h9:texts.flatten.length<=900/\texts.length<=4) (hy12:ys.length<=12) (hys:∀ y∈ys,y.text.length<=200) (A:List (Bool × List Blk)) :
 Sp Tb YZ [.lit (texts.map .str),.lit (ys.map Ed.av)] ⟨A,false,[]⟩ (fun v st'=>∃ r c ros ss G0 G1 n,v=.tup [.ptr A.length 5 0 0 0,.ref A.length 6 n 0 n,.ref A.length (7+G0.length) c 0 n,.bool true]/\st'=⟨A,false,ltL A.length r n ros G0 c ss G1⟩/\MkInv r ros ss n 3300):=by
 refine ZWX (rfl:Tb YZ=some (.pf Xz)) ?_;have hLd:=ZsN texts h9.1 h9.2 A [];have hLok:=Zak texts h9.1 texts.length (Nat.le_refl _);have hnl0:=Zo3 texts h9.1 texts.length (Nat.le_refl _);rw [List.take_length] at hLok hnl0;have hrl:=hLok.rts.1;obtain ⟨r0,ros0,hV⟩:∃ r0 ros0,XT texts=(r0,ros0):=⟨_,_,rfl⟩;rw [hV] at hLd hLok hrl hnl0
 simp only at hLd hLok hrl hnl0
 have hG:(ZEj ros0).length=texts.length:=by unfold ZEj;rw [List.length_map,hrl]
 generalize ZEj ros0=G0 at *
 change S Tb Yb [.lit (texts.map .str)] ⟨A,false,[]⟩=some (.tup [.ptr A.length 5 0 0 0,.ref A.length 6 texts.length 0 texts.length,.bool true],⟨A,false,r0.b0::r0.b1::r0.b2::r0.b3 A.length 0::r0.b4::r0.b5 A.length 0::.arr 5 texts.length (ros0.map Ro.av)::G0⟩) at hLd
 repeat' (first|refine ZE ?_|refine ZD ?_|refine ZG rfl ?_|refine Zp rfl rfl ?_|refine ZB rfl ?_|refine ZC ?_|refine ZF rfl ?_|refine YF rfl rfl ?_|refine JJ rfl rfl rfl rfl ?_|refine ZA rfl rfl rfl (hLd) ?_|refine ZH ?_)
 all_goals try contradiction
 refine ZDh (vx:=.lit (texts.map .str)) (ys:=texts.map .str) (bytes:=16) rfl rfl rfl (by rw [List.length_map];omega) (by decide) (ZmO _) ?_
 repeat' (first|refine ZE ?_|refine ZD ?_|refine ZG rfl ?_|refine ZB rfl ?_|refine ZC ?_|refine ZP ?_)
 have hl7:(r0.b0::r0.b1::r0.b2::r0.b3 A.length 0::r0.b4::r0.b5 A.length 0::Blk.arr 5 texts.length (ros0.map Ro.av)::G0).length=7+G0.length:=by simp;omega
 rw [hl7,List.length_map]
 refine Z0 (α:=Nat × Nat × AR × List Ro × List (List UInt8) × List Blk) (fun q=>[(1,.lit (ys.map Ed.av)),(8,.ptr A.length 5 0 0 0),(9,.ref A.length 6 (texts.length+q.2.1) 0 (texts.length+q.2.1)),(11,.ref A.length (7+G0.length) q.2.1 0 (texts.length+q.2.1)),(12,.int .i64 q.1)])
  (fun q=>⟨A,false,ltL A.length q.2.2.1 (texts.length+q.2.1) q.2.2.2.1 G0 q.2.1 q.2.2.2.2.1 q.2.2.2.2.2⟩) (fun q=>q.1<=ys.length/\q.2.1<=q.1/\MkInv q.2.2.1 q.2.2.2.1 q.2.2.2.2.1 (texts.length+q.2.1) (900+200*q.1)) (fun q=>ys.length-q.1) (0,0,r0,ros0,texts,[]) rfl rfl ⟨Nat.zero_le _,Nat.zero_le _,hLok.ok,hLok.good,hLok.rts,hrl,by simp only;omega,Zj8 h9.1,hnl0⟩ ?_
 rintro ⟨i,c,r,ros,ss,G1⟩ ⟨hi,hci,hI⟩
 simp only at hi hci hI ⊢
 have hsl:=hI.rts.1;have hrs:=hI.len
 rcases Nat.lt_or_ge i ys.length with hlt|hge
 ·obtain ⟨y,hyi⟩:∃ y,ys[i]?=some y:=⟨ys[i]'(by omega),by simp [hlt]⟩
  have hy2:=hys y (jM hyi)
  have hP:PlanOk r.nodes ros:=hI.plan (by omega)
  obtain ⟨hv,hvb⟩:=Zob hI.good hP hy2
  have hvs:=Zo4 hI.good hP hy2 (B:=((900+200*i:Nat):Int)) (by omega) hI.mb
  have hPl:=fun L (hR:Rd ⟨A,false,L⟩ A.length 5 r.nodes) (hg:St.get ⟨A,false,L⟩ A.length 6=some (.arr 5 (texts.length+c) (ros.map Ro.av)))=>ZrC (b:=0) hI.good hR hg hP (ys:=[y]) (by simp) (fun z hz=>by rw [List.mem_singleton] at hz;rw [hz];exact hy2)
  have hPl:=hPl _ Zrr (Zga (Zsc (r:=r) (v:=texts.length+c) (G0:=G0) (w:=c) (ss:=ss) (G1:=G1)) rfl)
  have hTx:=ZsG hI.good (Zrr (A:=A) (r:=r) (v:=texts.length+c) (ros:=ros) (G0:=G0) (w:=c) (ss:=ss) (G1:=G1)) hv (by omega)
  have hln:=hv.len hI.good;simp only [jC,List.map_nil] at hPl;rw [hrs] at hPl
  generalize hT:ZDk r.nodes ros y=t at *
  rcases Nat.lt_or_ge r.n (nw t) with hfull|hroom
  ·have hWr:=Zjw (Zay (A:=A) (r:=r) (v:=texts.length+c) (ros:=ros) (G0:=G0) (w:=c) (ss:=ss) (G1:=G1)) hI.ok hI.good hv (by omega) hfull
   have eb:=Zo1 (n:=A.length) (r:=r) (v:=texts.length+c) (ros:=ros) (G0:=G0) (w:=c) (ss:=ss) (G1:=G1) (.arr 5 0 [Ro.zero.av])
   generalize ltL A.length r (texts.length+c) ros G0 c ss G1=L1 at *
   repeat' (first|refine ZMo rfl ?_|refine ZlE rfl rfl rfl rfl hyi ?_|refine Xr (f:=Tr.av) (l:=[t]) rfl rfl ⟨by decide,rfl⟩ QB ?_|refine ZE ?_|refine ZD ?_|refine ZG rfl ?_|refine Zp rfl rfl ?_|refine ZB rfl ?_|refine ZC ?_|(refine Zg rfl rfl (fun _=>?_) (fun _=>?_)<;>try (exfalso;omega))|(refine Zi rfl rfl (fun _=>?_) (fun _=>?_)<;>try (exfalso;omega))|(refine Ze rfl rfl (fun _=>?_) (fun _=>?_)<;>try (exfalso;omega))|refine ZS rfl ?_|refine ZF rfl ?_|refine YF rfl rfl ?_|refine Zm rfl rfl (by omega) ?_|refine Zy rfl rfl rfl ?_|refine JE rfl rfl rfl rfl rfl rfl ?_|refine Qx rfl (Zw _) ?_|refine ZA rfl rfl (by first|rfl|(simp only [lE,lN,lC,Zn,Za,ZZ];first|done|rfl)) (hPl) ?_|refine ZA rfl rfl (by first|rfl|(simp only [lE,lN,lC,Zn,Za,ZZ];first|done|rfl)) (hTx) ?_|refine ZA rfl rfl (by first|rfl|(simp only [lE,lN,lC,Zn,Za,ZZ];first|done|rfl)) (hWr) ?_|refine ZH ?_|refine Zu ?_|refine ZP ?_|refine Zh ?_|refine Zc rfl ?_|refine QJ ?_)
   all_goals try contradiction
   all_goals try (exfalso;omega)
   refine ⟨(i+1,c,r,ros,ss,G1++[Blk.arr 5 0 [Ro.zero.av]]),⟨rfl,?_⟩,⟨by simp only;omega,by simp only;omega,hI.ok,hI.good,hI.rts,hrs,hI.n20,fun s hs=>by have:=hI.small s hs;simp only;omega,hI.nl⟩,by simp only;omega⟩
   exact congrArg (St.mk A false) eb
  ·have hWr:=Zk5 (Zay (A:=A) (r:=r) (v:=texts.length+c) (ros:=ros) (G0:=G0) (w:=c) (ss:=ss) (G1:=G1)) hI.ok hI.good hv (by omega) hroom
   rw [Zsb] at hWr
   obtain ⟨w1,w2⟩:=Zk6 (Zay (A:=A) (r:=r) (v:=texts.length+c) (ros:=ros) (G0:=G0) (w:=c) (ss:=ss) (G1:=G1)) hI.ok hI.good hv (by omega) hroom
   have f6:(ltL A.length (wrV t r).1 (texts.length+c) ros G0 c ss G1)[6]?=_:=Zsc;have f7:(ltL A.length (wrV t r).1 (texts.length+c) ros G0 c ss G1)[7+G0.length]?=_:=lt_7;have n1:=w1.n;have n2:=w1.nl;have n3:=hI.nl;have n4:=hI.n20
   generalize hL2:ltL A.length (wrV t r).1 (texts.length+c) ros G0 c ss G1=L2 at *
   generalize ltL A.length r (texts.length+c) ros G0 c ss G1=L1 at *
   generalize (wrV t r).1=r2 at *
   generalize (wrV t r).2.1=ro at *
   generalize (wrV t r).2.2=hh at *
   generalize hTT:t.txt r.nodes=T at *
   have hl6:=(List.getElem?_eq_some_iff.1 f6).1;have hl7':=(List.getElem?_eq_some_iff.1 f7).1
   repeat' (first|refine ZMo rfl ?_|refine ZlE rfl rfl rfl rfl hyi ?_|refine Xr (f:=Tr.av) (l:=[t]) rfl rfl ⟨by decide,rfl⟩ QB ?_|refine ZE ?_|refine ZD ?_|refine ZG rfl ?_|refine Zp rfl rfl ?_|refine ZB rfl ?_|refine ZC ?_|refine Qf rfl rfl rfl ?_|(refine Zg rfl rfl (fun _=>?_) (fun _=>?_)<;>try (exfalso;omega))|(refine Zi rfl rfl (fun _=>?_) (fun _=>?_)<;>try (exfalso;omega))|(refine Ze rfl rfl (fun _=>?_) (fun _=>?_)<;>try (exfalso;omega))|refine ZS rfl ?_|refine ZF rfl ?_|refine YF rfl rfl ?_|refine Zm rfl rfl (by omega) ?_|refine Zy rfl rfl rfl ?_|refine JE rfl rfl rfl rfl rfl rfl ?_|refine JJ rfl rfl rfl rfl ?_|refine Qx rfl (Zw _) ?_|refine ZA rfl rfl (by first|rfl|(simp only [lE,lN,lC,Zn,Za,ZZ];first|done|rfl)) (hPl) ?_|refine ZA rfl rfl (by first|rfl|(simp only [lE,lN,lC,Zn,Za,ZZ];first|done|rfl)) (hTx) ?_|refine ZA rfl rfl (by first|rfl|(simp only [lE,lN,lC,Zn,Za,ZZ];first|done|rfl)) (hWr) ?_|refine ZH ?_|refine ZP ?_)
   all_goals try contradiction
   all_goals try (exfalso;omega)
   refine ZCq (es:=ros.map Ro.av) (ys:=[ro.av]) rfl rfl (Xh f6) (by rw [List.length_map];omega) rfl rfl (by rw [List.length_map,List.length_singleton];omega) (by decide) ?_
   repeat' (first|refine ZD ?_|refine ZG rfl ?_|refine ZB rfl ?_|refine ZC ?_|refine JJ rfl rfl rfl rfl ?_)
   refine ZCq (es:=ss.map .str) (ys:=[.str T]) rfl rfl ((jS (by omega)).trans (Xh f7)) (by rw [List.length_map];omega) rfl rfl (by rw [List.length_map,List.length_singleton];omega) (by decide) ?_
   repeat' (first|refine ZD ?_|refine ZG rfl ?_|refine ZB rfl ?_|refine ZC ?_|refine Zm rfl rfl (by omega) ?_|refine Z7 ?_|refine QJ ?_)
   refine ⟨(i+1,c+1,r2,ros++[ro],ss++[T],G1++[.arr 5 0 [ro.av]]),⟨rfl,?_⟩,⟨by simp only;omega,by simp only;omega,w1.ok,w1.good,(hI.rts.ext hI.good w1.ext).snoc w2,by simp only [lL,List.length_singleton];omega,by simp only;omega,fun s hs=>?_,by simp only;omega⟩,by simp only;omega⟩
   ·show (⟨A,false,((L2++[Blk.arr 5 0 [ro.av]]).set 6 (Blk.arr 5 (texts.length+c+1) (ros.map Ro.av++[ro.av]))).set (7+G0.length) (Blk.arr 1 (c+1) (ss.map AV.str++[AV.str T]))⟩:St)=_
    rw [<- hL2,Zo1,ZrQ,ZrR];rfl
   ·rcases List.mem_append.1 hs with q|q
    ·have:=hI.small s q;simp only;omega
    ·rw [List.mem_singleton.1 q];simp only;omega
 ·obtain rfl:i=ys.length:=by omega
  repeat' (first|refine ZMo rfl ?_|refine ZE ?_|refine ZD ?_|refine ZG rfl ?_|refine ZB rfl ?_|refine ZC ?_|(refine Zg rfl rfl (fun _=>?_) (fun _=>?_)<;>try (exfalso;omega))|refine ZF rfl ?_|refine ZO ?_|refine Zu ?_|refine ZL ?_|refine Zh ?_|refine Zc rfl ?_|refine Zs ?_)
  all_goals try (exfalso;omega)
  refine ⟨_,_,Jj (.inr rfl) rfl rfl rfl rfl,r,c,ros,ss,G0,G1,texts.length+c,rfl,rfl,hI.ok,hI.good,hI.rts,hrs,hI.n20,fun s hs=>?_,hI.nl⟩
  have:=hI.small s hs
  omega
def ZEQ (texts:List (List UInt8)) (ys:List Ed):Prop:=ZTn texts\/Zal ys\/12<ys.length
noncomputable instance (texts:List (List UInt8)) (ys:List Ed):Decidable (ZEQ texts ys):=Classical.propDecidable _
theorem Zo5 (texts:List (List UInt8)) (ys:List Ed) (hb:texts.length<9223372036854775808) (hbs:∀ s∈texts,s.length<9223372036854775808) (hy:ys.length<9223372036854775808) (hys:∀ y∈ys,y.text.length<9223372036854775808) (st:St) :
 S Tb Y3 [.lit (texts.map .str),.lit (ys.map Ed.av)] st=some (.bool (decide (ZEQ texts ys)),st):=by
 refine Z9 rfl (fun A hA=>?_)
 have hLg:=fun st=>ZsO texts hb hbs st
 have hMn:=fun st=>Zoc ys hy hys st
 by_cases hl:ZTn texts
 ·rw [decide_eq_true (show ZEQ texts ys from .inl hl)]
  simp only [decide_eq_true hl] at hLg
  repeat' (first|refine ZE ?_|refine ZD ?_|refine ZG rfl ?_|refine Q9 rfl rfl ?_|refine Zf rfl rfl rfl rfl ?_|refine ZB rfl ?_|refine ZC ?_|refine ZA rfl rfl rfl (hLg _) ?_|refine ZO ?_|refine ZL ?_)
  all_goals try contradiction
  all_goals refine ZX hA (by first|exact .inl rfl|exact .inr rfl) rfl rfl rfl rfl ?_
  all_goals rfl
 simp only [decide_eq_false hl] at hLg
 by_cases hm:Zal ys
 ·rw [decide_eq_true (show ZEQ texts ys from .inr (.inl hm))]
  simp only [decide_eq_true hm] at hMn
  repeat' (first|refine ZE ?_|refine ZD ?_|refine ZG rfl ?_|refine Z2 rfl ?_|refine Q9 rfl rfl ?_|refine Zf rfl rfl rfl rfl ?_|refine ZB rfl ?_|refine ZC ?_|refine ZA rfl rfl rfl (hLg _) ?_|refine ZA rfl rfl rfl (hMn _) ?_|refine ZO ?_|refine ZL ?_)
  all_goals try contradiction
  all_goals refine ZX hA (by first|exact .inl rfl|exact .inr rfl) rfl rfl rfl rfl ?_
  all_goals rfl
 simp only [decide_eq_false hm] at hMn
 by_cases h12:12<ys.length
 ·rw [decide_eq_true (show ZEQ texts ys from .inr (.inr h12))]
  repeat' (first|refine ZMo rfl ?_|refine ZE ?_|refine ZD ?_|refine ZG rfl ?_|refine Z2 rfl ?_|refine Zf rfl rfl rfl rfl ?_|refine ZB rfl ?_|refine ZC ?_|(refine QD rfl rfl (fun _=>?_) (fun _=>?_)<;>try (exfalso;omega))|refine ZA rfl rfl rfl (hLg _) ?_|refine ZA rfl rfl rfl (hMn _) ?_|refine ZO ?_|refine ZL ?_)
  all_goals try contradiction
  all_goals try (exfalso;omega)
  all_goals refine ZX hA (by first|exact .inl rfl|exact .inr rfl) rfl rfl rfl rfl ?_
  all_goals rfl
 ·rw [decide_eq_false (show ¬ ZEQ texts ys from fun q=>q.elim hl fun q=>q.elim hm h12)]
  repeat' (first|refine ZMo rfl ?_|refine ZE ?_|refine ZD ?_|refine ZG rfl ?_|refine Z2 rfl ?_|refine Zf rfl rfl rfl rfl ?_|refine ZB rfl ?_|refine ZC ?_|(refine QD rfl rfl (fun _=>?_) (fun _=>?_)<;>try (exfalso;omega))|refine ZA rfl rfl rfl (hLg _) ?_|refine ZA rfl rfl rfl (hMn _) ?_|refine ZO ?_|refine ZL ?_)
  all_goals try contradiction
  all_goals try (exfalso;omega)
  all_goals refine ZX hA (by first|exact .inl rfl|exact .inr rfl) rfl rfl rfl rfl ?_
  all_goals rfl
theorem Zo6 (x n:Int) (h0:0<=n) (h1:n<4611686018427387904) (st:St):S Tb Ya [.int .i64 x,.int .i64 n] st=some (.int .i64 (Jc x n),st):=by
 refine Z9 rfl (fun A hA=>?_)
 have hP:=fun st=>Zgd x n h0 h1 st
 repeat' (first|refine ZE ?_|refine ZD ?_|refine ZG rfl ?_|refine ZB rfl ?_|refine ZC ?_|refine ZA rfl rfl rfl (hP _) ?_|refine ZO ?_|refine ZL ?_)
 refine ZX hA (by first|exact .inl rfl|exact .inr rfl) rfl rfl rfl rfl ?_
 rfl
structure Op where
 at_:Int
 num:Int
 text:List UInt8
def ZtC (l:List Op):Prop:=∃ s∈l,300<s.text.length
noncomputable instance (l:List Op):Decidable (ZtC l):=Classical.propDecidable _
section
variable {n:Nat} {r:AR} {v w:Nat} {ros:List Ro} {ss:List (List UInt8)} {G0 G1 G2:List Blk}
theorem Zsf:(ltL n r v ros G0 w ss G1).length=8+G0.length+G1.length:=by
 simp [ltL];omega
end
theorem ZlF (n:Int):∀ (l:List UInt8) (j:Nat),(j:Int)<=n->(J2 (fun i _=>decide ((i:Int)<n)) j l:Int)=min (n-j) l.length
 | [],j,h=>by simp [J2];omega
 | c::l,j,h=>by
  rw [J2]
  by_cases q:(j:Int)<n
  ·rw [if_pos (decide_eq_true q)]
   have:=ZlF n l (j+1) (by omega)
   simp only [List.length_cons];omega
  ·rw [if_neg (by simpa using q)]
   simp only [List.length_cons];omega
section
variable {A:List (Bool × List Blk)} {X:List Blk} {ic li la b im:Nat} {r:Ro} {N:ZQ} {s:List UInt8} {a:Nat} {vis:Int}
end
set_option maxHeartbeats 32000000
section
variable {st:St} {lv ic li ver la b:Nat} {r:Ro} {es:List AV} {vis:Int} {N:ZQ} {s:List UInt8} {a:Nat}
theorem Zo8 (hg0:st.get lv ic=some (Qp (.ptr la (b+5) 0 0 0) .zero .nils 0 0)) (hw:st.wr lv) (hR:Rd st la (b+5) N) (hN:GoodN N):S Tb QG [.ptr lv ic 0 0 0,.int .i64 0] st=some (.int .i64 0,st):=by
 have hJ:∀ st:St,st.get lv ic=some (Qp (.ptr la (b+5) 0 0 0) .zero .nils 0 0)->st.wr lv->S Tb Qo [.ptr lv ic 0 0 0,.int .i64 0] st=some (.int .i64 0,st):=by
  intro st hg0 hw
  refine Yo rfl (fun A hA=>?_)
  have hg:=ZW hA (ro:=false) (L:=[]) hg0;have hle:=St.get_le hg0;unfold Qp Ro.zero at hg hg0
  repeat' (first|refine ZE ?_|refine ZD ?_|refine ZG rfl ?_|refine ZJ rfl rfl ?_|refine ZB rfl ?_|refine ZC ?_|refine Zb rfl rfl ?_)
  refine ZJn hA rfl rfl hw hg0 rfl rfl rfl (fun A' hA'=>?_)
  have e:=updS hg0
  have hA2:A'=st.A++[(st.ro,st.L)]:=by
   rw [hA'];exact congrArg St.ps e
  have hg2:=ZW hA2 (ro:=false) (L:=[]) hg0
  repeat' (first|refine Zz rfl hg2 rfl rfl ?_|refine ZE ?_|refine ZD ?_|refine ZG rfl ?_|refine ZJ rfl rfl ?_|refine ZB rfl ?_|refine ZC ?_|refine Zb rfl rfl ?_|(refine Zi rfl rfl (fun _=>?_) (fun _=>?_)<;>try (exfalso;omega))|refine ZS rfl ?_|refine ZF rfl ?_|refine ZH ?_|refine ZO ?_|refine ZL ?_|refine ZU ?_)
  all_goals try contradiction
  all_goals try (exfalso;omega)
  all_goals exact ZX hA2 (.inr rfl) rfl rfl rfl rfl rfl
 refine Z9 rfl (fun A hA=>?_)
 have hle:=St.get_le hg0;have hg:=ZW hA (ro:=false) (L:=[]) hg0;have hRe:=Yi hN (Rt.zero N) hg (hR.push hA (ro:=false) (L:=[]));have hJ1:=hJ ⟨A,false,[]⟩ hg (XI hA hle hw);unfold Qp Ro.zero at hg
 repeat' (first|refine Zz rfl hg rfl rfl ?_|refine ZE ?_|refine ZD ?_|refine ZG rfl ?_|refine ZJ rfl rfl ?_|refine Z2 rfl ?_|refine Zf rfl rfl rfl rfl ?_|refine ZB rfl ?_|refine ZC ?_|refine Zb rfl rfl ?_|(refine Zg rfl rfl (fun _=>?_) (fun _=>?_)<;>try (exfalso;omega))|(refine QD rfl rfl (fun _=>?_) (fun _=>?_)<;>try (exfalso;omega))|(refine Ze rfl rfl (fun _=>?_) (fun _=>?_)<;>try (exfalso;omega))|refine ZS rfl ?_|refine ZF rfl ?_|refine ZA rfl rfl rfl (hRe) ?_|refine ZA rfl rfl rfl (hJ1) ?_|refine ZH ?_|refine ZO ?_|refine ZL ?_|refine ZU ?_)
 all_goals try contradiction
 all_goals try (exfalso;omega)
 all_goals refine ZX hA (by first|exact .inl rfl|exact .inr rfl) rfl rfl rfl rfl ?_
 all_goals rfl
end
structure CurA (A:List (Bool × List Blk)) (X:List Blk) (ic li la b im:Nat) (r:Ro) (N:ZQ) (s:List UInt8) (a:Nat) (vis:Int):Prop where
 ex:(r=.zero/\a=0/\vis=0/\X[ic]?=some (Qp (.ptr la (b+5) 0 0 0) r .nils 0 0))\/(r.at_≠0/\CurL A X ic li la b im r N s a vis)
 rd:RdM ⟨A,false,X⟩ la (b+5) im N
section
variable {A:List (Bool × List Blk)} {X:List Blk} {ic li la b im:Nat} {r:Ro} {N:ZQ} {s:List UInt8} {a:Nat} {vis:Int}
theorem CurA.get (hc:CurA A X ic li la b im r N s a vis):∃ lev,St.get ⟨A,false,X⟩ A.length ic=some (Qp (.ptr la (b+5) 0 0 0) r lev vis a):=by
 rcases hc.ex with ⟨rfl,rfl,rfl,h⟩|⟨_,h⟩
 ·exact ⟨_,by rw [St.get_cur,h];rfl⟩
 ·obtain ⟨ver,es,w⟩:=h.ex
  exact ⟨_,w.cl.get 0 _ _ _ rfl rfl⟩
theorem CurA.at_c (hc:CurA A X ic li la b im r N s a vis):S Tb QM [.ptr A.length ic 0 0 0] ⟨A,false,X⟩=some (.int .i64 a,⟨A,false,X⟩):=by
 obtain ⟨lev,w⟩:=hc.get;exact Go.Q15.at_c w
theorem CurA.seek (hc:CurA A X ic li la b im r N s a vis) (hN:GoodN N) (h:Rt N r s) (hs:s.length<=100000) (ha:a<=s.length) (hv:0<=vis/\vis<700000000) (x:Nat) (hx:x<=s.length) :
 ∃ X' vis2,S Tb QG [.ptr A.length ic 0 0 0,.int .i64 x] ⟨A,false,X⟩=some (.int .i64 0,⟨A,false,X'⟩)/\CurA A X' ic li la b im r N s x vis2/\Stay X X' ic li/\vis<=vis2/\vis2<=vis+20:=by
 rcases hc.ex with ⟨rfl,rfl,rfl,w⟩|⟨h0,w⟩
 ·have hs0 : s = [] := by
   have:=(h.b hN).2
   simp only [Ro.zero,Mea.zero] at this
   exact List.eq_nil_of_length_eq_zero (by omega)
  subst hs0
  obtain rfl:x=0:=by simpa using hx
  obtain ⟨lev,g⟩:=hc.get
  exact ⟨X,0,Zo8 (by rw [St.get_cur,w];rfl) (by simp [St.wr]) hc.rd.rd hN,hc,⟨rfl,fun i _ _=>rfl⟩,by omega,by omega⟩
 ·obtain ⟨X',vis2,f1,f2,f3,f4⟩:=w.seek hN h h0 hs ha hv x hx
  have:=Zar N (min (a:Int) (s.length-1)) (min (x:Int) (s.length-1)) r.h (QU r)
  have:=h.rt.h13 hN
  exact ⟨X',vis2,f1,⟨.inr ⟨h0,f2⟩,f2.rd⟩,f3,by omega,by omega⟩
theorem CurA.ne (h:Rt N r s) (hN:GoodN N) (hl:0<s.length) (hc:CurA A X ic li la b im r N s a vis):r.at_≠0/\CurL A X ic li la b im r N s a vis:=by
 rcases hc.ex with ⟨rfl,_⟩|w
 ·have:=(h.b hN).2
  simp only [Ro.zero,Mea.zero] at this;omega
 ·exact w
end
def ZEk:List UInt8->Nat
 | []=>0
 | b::l=>1+if XU b=true then ZEk l else 0
theorem ZlG:∀ l:List UInt8,ZEk l<=l.length
 | []=>Nat.le_refl _
 | b::l=>by
  have:=ZlG l
  rw [ZEk,List.length_cons]
  split<;>omega
def Zdb (N:ZQ) (r:Ro) (n a:Nat):Nat:=r.h+1-cmL N (min (a:Int) ((n:Int)-1)) ((a:Int)-1) r.h (QU r)
def bkV (N:ZQ) (r:Ro) (n a:Nat):Nat->Nat
 | 0=>0
 | k+1=>bkV N r n a k+Zdb N r n (a-k)
theorem ZlH {N:ZQ} {r:Ro} {n a:Nat} (h:r.h<=13):Zdb N r n a<=13:=by
 have:=Zar N (min (a:Int) ((n:Int)-1)) ((a:Int)-1) r.h (QU r)
 unfold Zdb;omega
theorem Zgk {N:ZQ} {r:Ro} {n a:Nat} (h:r.h<=13):∀ k,bkV N r n a k<=13*k
 | 0=>Nat.le_refl _
 | k+1=>by
  have:=Zgk h k (N:=N) (n:=n) (a:=a)
  have:=ZlH h (N:=N) (n:=n) (a:=a-k)
  rw [bkV];omega
theorem ZlI {N:ZQ} (hN:GoodN N) {s:List UInt8} {p a:Int}:∀ (n:Nat) (l lf:CLv),l.n=n->CLvOk N s l->l.f<=p->p<l.t->(QN N p n l)[n]?=some lf->lf.f<=a->a<lf.t->cmL N p a n l=n+1
 | 0,l,lf,_,_,_,_,_,_,_=>rfl
 | n+1,l,lf,hn,h,p0,p1,hf,a0,a1=>by
  obtain ⟨d1,d2,d3,d4,d5,_⟩:=h.down hN hn p0 p1
  have dn:(l.down N p).n=n:=by show l.n-1=n;omega
  rw [QN,List.getElem?_cons_succ] at hf;obtain ⟨_,_,_,_,e5,e6⟩:=ZAi hN n _ dn d1 d2 d3 n lf hf
  have e:=h.same hN hn p0 p1 (a:=a) (by omega) (by omega)
  have i1:=ZlI hN n _ lf dn d1 d2 d3 hf a0 a1;rw [cmL,if_pos e,<- e,i1];omega
theorem ZrS {A:List (Bool × List Blk)} {T:List Blk} {v:Nat} {l:List UInt8} (hl:l.length<4000000000) (c:UInt8) :
 S Tb QT [.int .u8 c.toNat,.ptr A.length 1 0 0 0] ⟨A,false,.arr 1 v (ZY l)::.arr 1 0 [.ref A.length 0 v 0 l.length]::T⟩ =
  some (.tup [],⟨A,false,.arr 1 (v+1) (ZY (l++[c]))::.arr 1 0 [.ref A.length 0 (v+1) 0 (l.length+1)]::T⟩):=by
 have H:Cl ⟨A,false,.arr 1 v (ZY l)::.arr 1 0 [.ref A.length 0 v 0 l.length]::T⟩ [(A.length,0),(A.length,1)] [.arr 1 v (ZY l),.arr 1 0 [.ref A.length 0 v 0 l.length]]:=by
  refine ⟨by simp,rfl,fun k hk=>?_,fun j lv ix b q1 q2=>?_⟩
  ·simp only [List.mem_cons,List.not_mem_nil,or_false] at hk
   rcases hk with rfl|rfl<;>simp [St.wr]
  ·match j,q1,q2 with
   | 0,q1,q2=>obtain ⟨rfl,rfl⟩:=Prod.mk.inj (Option.some.inj q1);obtain rfl:=Option.some.inj q2;rw [St.get_cur];rfl
   | 1,q1,q2=>obtain ⟨rfl,rfl⟩:=Prod.mk.inj (Option.some.inj q1);obtain rfl:=Option.some.inj q2;rw [St.get_cur];rfl
   | n+2,q1,q2=>simp at q1
 have hlen:(ZY l).length=l.length:=by simp [ZY]
 have hfin:Zx ⟨A,false,.arr 1 v (ZY l)::.arr 1 0 [.ref A.length 0 v 0 l.length]::T⟩ [(A.length,0),(A.length,1)] [.arr 1 (v+1) (ZY (l++[c])),.arr 1 0 [.ref A.length 0 (v+1) 0 (l.length+1)]]=⟨A,false,.arr 1 (v+1) (ZY (l++[c]))::.arr 1 0 [.ref A.length 0 (v+1) 0 (l.length+1)]::T⟩:=by
  simp [Zx,St.upd]
 rw [<- hfin];have h0:=H.get 1 _ _ _ rfl rfl;rw [ZQa]
 generalize hst:(⟨A,false,.arr 1 v (ZY l)::.arr 1 0 [.ref A.length 0 v 0 l.length]::T⟩:St)=st at *
 generalize hn:A.length=nA at *
 have hnA:st.A.length=nA:=by rw [<- hst];exact hn
 refine Yo rfl (fun B hB=>?_)
 have g0:=fun L=>ZW hB (ro:=false) (L:=L) h0
 have hs0:B=(Zx st [(nA,0),(nA,1)] [.arr 1 v (ZY l),.arr 1 0 [.ref nA 0 v 0 l.length]]).ps:=by rw [H.same];exact hB
 rw [<- hlen] at g0
 repeat' (first|refine Zz rfl (g0 _) rfl rfl ?_|refine ZD ?_|refine ZG rfl ?_|refine JJ rfl rfl rfl rfl ?_)
 refine Zko (j:=0) H hs0 rfl rfl rfl rfl rfl rfl rfl rfl rfl (by rw [hlen];simp;omega) (by decide) (fun B1 hB1 e1=>?_)
 refine ZNt (j:=1) H hB1 rfl rfl rfl rfl rfl rfl rfl (JN _ (Nat.lt_succ_self _)) rfl (fun B2 hB2 e2=>?_)
 rw [hlen] at hB2
 repeat' (first|refine ZB rfl ?_|refine ZL ?_)
 exact ZX hB2 (.inl rfl) rfl rfl rfl rfl rfl
def ZLR (l:List UInt8) (k:Nat):List UInt8:=List.replicate (l.length-k) 0++(l.take k).reverse
theorem Zo9 (l:List UInt8) {k:Nat} (hk:k<=l.length):(ZLR l k).length=l.length:=by
 simp [ZLR];omega
theorem ZpA {l:List UInt8} {k:Nat} {c:UInt8} (hk:l[k]?=some c):(ZLR l k).set (l.length-1-k) c=ZLR l (k+1):=by
 have hlt:=(List.getElem?_eq_some_iff.1 hk).1;unfold ZLR
 rw [ZC0 hk,List.reverse_append,List.set_append_left _ _ (by simp;omega),show l.length-k=(l.length-(k+1))+1 by omega,List.replicate_succ',List.set_append_right _ _ (by simp;omega)]
 simp only [List.length_replicate,show l.length-1-k-(l.length-(k+1))=0 by omega,List.set_cons_zero,List.append_assoc,List.reverse_singleton,List.singleton_append]
theorem ZiX (l:List UInt8) (i:Nat) (c:UInt8):(ZY l).set i (.int .u8 c.toNat)=ZY (l.set i c):=by
 simp [ZY,List.map_set]
theorem ZTo {l:List UInt8} {i:Nat} {c:UInt8} (h:l[i]?=some c):(ZY l)[i]?=some (.int .u8 c.toNat):=by
 simp [ZY,jG,h]
theorem Zmb {B:List (Bool × List Blk)} {T:List Blk} {v m:Nat} {l:List UInt8} (hm:m=l.length) (hl:l.length<1000000) {c0 f mo bo:AV} {kf:List Fr} {Q:JV}
 (hQ:∀ L2,Rk (S Tb) kf Q .ret [(2,.str l.reverse),(3,.int .i64 0)] ⟨B,false,L2⟩) :
 Ru (S Tb) (.seq ZAD (.seq (.seq ZAE (.block 2 (.loop ZAF))) (.seq ZAG .ret))) kf Q [(0,c0),(5,.ptr B.length 1 0 0 0),(6,f),(7,mo),(34,bo)] ⟨B,false,.arr 1 v (ZY l)::.arr 1 0 [.ref B.length 0 v 0 m]::T⟩:=by
 subst hm
 repeat' (first|refine ZF4 rfl rfl (by omega) (by decide) (XD _) ?_|refine ZE ?_|refine ZD ?_|refine ZG rfl ?_|refine ZV rfl rfl rfl rfl ?_|refine ZB rfl ?_|refine ZC ?_|refine Qj rfl ?_|refine ZP ?_)
 refine Z0 (α:=Nat) (fun k=>[(5,.ptr B.length 1 0 0 0),(13,.ref B.length (Blk.arr 1 v (ZY l)::Blk.arr 1 0 [.ref B.length 0 v 0 l.length]::T).length 0 0 l.length),(95,.ref B.length 0 v 0 l.length),(96,.int .i64 l.length),(97,.int .i64 k)])
  (fun k=>⟨B,false,(Blk.arr 1 v (ZY l)::Blk.arr 1 0 [.ref B.length 0 v 0 l.length]::T)++[.arr 1 0 (ZY (ZLR l k))]⟩) (fun k=>k<=l.length) (fun k=>l.length-k) 0 rfl ?_ (Nat.zero_le _) ?_
 ·have:ZY (ZLR l 0)=List.replicate l.length (.int .u8 0):=by simp [ZLR,ZY]
  rw [this];rfl
 intro k hk;have hk:k<=l.length:=hk;have hbl:=Zo9 l hk
 have hgX:∀ es:List AV,(((Blk.arr 1 v (ZY l)::Blk.arr 1 0 [.ref B.length 0 v 0 l.length]::T)++[Blk.arr 1 0 es]):List Blk)[(Blk.arr 1 v (ZY l)::Blk.arr 1 0 [.ref B.length 0 v 0 l.length]::T).length]?=some (.arr 1 0 es):=fun es=>by
  rw [List.getElem?_append_right (Nat.le_refl _),Nat.sub_self];rfl
 rcases Nat.eq_or_lt_of_le hk with hend|hlt
 ·have hb : ZLR l k = l.reverse := by
   subst hend
   simp [ZLR]
  have hel:∀ es:List AV,es.length=l.length->elems ⟨B,false,(Blk.arr 1 v (ZY l)::Blk.arr 1 0 [.ref B.length 0 v 0 l.length]::T)++[Blk.arr 1 0 es]⟩ (.ref B.length (Blk.arr 1 v (ZY l)::Blk.arr 1 0 [.ref B.length 0 v 0 l.length]::T).length 0 0 l.length)=some es:=by
   intro es he;simp only [elems,St.get_cur,hgX,vis,ZBV,true_and,Nat.zero_add]
   rw [if_pos (by omega),List.drop_zero,List.take_of_length_le (by omega)]
  have hb2:b2sV ⟨B,false,(Blk.arr 1 v (ZY l)::Blk.arr 1 0 [.ref B.length 0 v 0 l.length]::T)++[Blk.arr 1 0 (ZY (ZLR l k))]⟩ (.ref B.length (Blk.arr 1 v (ZY l)::Blk.arr 1 0 [.ref B.length 0 v 0 l.length]::T).length 0 0 l.length)=some (.str l.reverse):=by
   rw [hb]
   simp only [b2sV,hel (ZY l.reverse) (by simp [ZY]),oS,ZDi]
  have hnl:¬ ((k:Nat):Int)<(l.length:Int):=by omega
  repeat' (first|refine ZXP rfl hb2 ?_|refine ZE ?_|refine ZD ?_|refine ZG rfl ?_|refine ZB rfl ?_|refine ZC ?_|(refine Zg rfl rfl (fun _=>?_) (fun _=>?_)<;>try (exfalso;omega))|refine ZF rfl ?_|refine ZO ?_|refine Zu ?_|refine Zh ?_|refine Zc rfl ?_|refine Zs ?_)
  all_goals try contradiction
  all_goals try (exfalso;omega)
  exact hQ _
 ·obtain ⟨c,hc⟩:∃ c,l[k]?=some c:=⟨_,jE hlt⟩
  have hix:(ZY l)[0+((k:Nat):Int).toNat]?=some (.int .u8 c.toNat):=by
   rw [show 0+((k:Nat):Int).toNat=k by omega];exact ZTo hc
  obtain ⟨d,hd⟩:∃ d,(ZLR l k)[l.length-1-k]?=some d:=⟨_,jE (by omega)⟩
  have hy:(ZY (ZLR l k))[0+((l.length:Int)-1-(k:Nat)).toNat]?=some (.int .u8 d.toNat):=by
   rw [show 0+((l.length:Int)-1-(k:Nat)).toNat=l.length-1-k by omega];exact ZTo hd
  have hset:(ZY (ZLR l k)).set (0+((l.length:Int)-1-(k:Nat)).toNat) (.int .u8 c.toNat)=ZY (ZLR l (k+1)):=by
   rw [show 0+((l.length:Int)-1-(k:Nat)).toNat=l.length-1-k by omega,ZiX,ZpA hc]
  have hnext:∃ c_1:Nat,([(5,AV.ptr B.length 1 0 0 0),(13,.ref B.length (Blk.arr 1 v (ZY l)::Blk.arr 1 0 [.ref B.length 0 v 0 l.length]::T).length 0 0 l.length),(95,.ref B.length 0 v 0 l.length),(96,.int .i64 l.length),(97,.int .i64 ((k:Int)+1))]=[(5,AV.ptr B.length 1 0 0 0),(13,.ref B.length (Blk.arr 1 v (ZY l)::Blk.arr 1 0 [.ref B.length 0 v 0 l.length]::T).length 0 0 l.length),(95,.ref B.length 0 v 0 l.length),(96,.int .i64 l.length),(97,.int .i64 c_1)] /\
   (⟨B,false,(Blk.arr 1 v (ZY l)::Blk.arr 1 0 [.ref B.length 0 v 0 l.length]::T)++[.arr 1 0 ((ZY (ZLR l k)).set (0+((l.length:Int)-1-(k:Nat)).toNat) (.int .u8 c.toNat))]⟩:St)=⟨B,false,(Blk.arr 1 v (ZY l)::Blk.arr 1 0 [.ref B.length 0 v 0 l.length]::T)++[.arr 1 0 (ZY (ZLR l c_1))]⟩)/\c_1<=l.length/\l.length-c_1<l.length-k :=
   ⟨k+1,⟨rfl,by rw [hset]⟩,by omega,by omega⟩
  repeat' (first|exact hnext|refine ZV rfl rfl hix rfl ?_|refine ZCW rfl rfl (by omega) (hgX _) ?_|refine ZCW rfl rfl (by omega) rfl ?_|refine JE rfl rfl hy rfl rfl (ZLO _) ?_|refine ZE ?_|refine ZD ?_|refine ZG rfl ?_|refine ZV rfl rfl rfl rfl ?_|refine ZB rfl ?_|refine ZC ?_|refine Qj rfl ?_|(refine Zg rfl rfl (fun _=>?_) (fun _=>?_)<;>try (exfalso;omega))|refine ZS rfl ?_|refine Zm rfl rfl (by omega) ?_|refine QS rfl rfl (by omega) ?_|refine ZH ?_|refine ZP ?_|refine Z7 ?_|refine QJ ?_)
  all_goals try contradiction
  all_goals try (exfalso;omega)
structure PvS where
 i:Nat
 p:Int
 more:Bool
 ver:Nat
 es:List AV
 vis:Int
 B:List (Bool × List Blk)
 v:Nat
 T:List Blk
 xs:Env
structure PvI (st:St) (lv ic li la b:Nat) (r:Ro) (N:ZQ) (s:List UInt8) (a0:Nat) (vis0:Int) (q:PvS):Prop where
 hB:q.B=(Zx st [(lv,ic),(lv,li)] (Qn (.ptr la (b+5) 0 0 0) r lv li q.ver (r.h+1) q.es q.vis ((a0:Int)-q.i))).ps
 le:r.h+1<=q.es.length
 es:q.es.take (r.h+1)=(QN N q.p r.h (QU r)).map (CLv.av N)
 ai:q.i<=a0
 p1:0<=q.p/\q.p<s.length
 pa:q.p=(a0:Int)-q.i\/q.p+1=(a0:Int)-q.i
 mo:q.more=false->q.p=(a0:Int)-q.i
 bw:ZEk (s.take a0).reverse=q.i+if q.more=true then ZEk ((s.take a0).reverse.drop q.i) else 0
 vs:q.vis=vis0+(bkV N r s.length a0 q.i:Int)+if q.p+1=(a0:Int)-q.i then (Zdb N r s.length (a0-q.i):Int) else 0
theorem ZpB {st:St} {lv ic li ver la b:Nat} {r:Ro} {es:List AV} {vis0:Int} {N:ZQ} {s:List UInt8} {a0:Nat} (HC:CurN st lv ic li la b r N s a0 vis0 ver es)
 (hla:la<=lv) (hR:RdO st la (b+5) N [(lv,ic),(lv,li)]) (hN:GoodN N) (h:Rt N r s) (h0:r.at_≠0) (hs:s.length<=100000) (ha:a0<=s.length) (hap:0<a0) (hv:0<=vis0/\vis0<700000000) :
 ∃ ver2 es2 k,k=ZEk (s.take a0).reverse/\k<=a0/\S Tb QL [.ptr lv ic 0 0 0] st=some (.tup [.str ((s.take a0).drop (a0-k)),.int .i64 0],Zx st [(lv,ic),(lv,li)] (Qn (.ptr la (b+5) 0 0 0) r lv li ver2 (r.h+1) es2 (vis0+(bkV N r s.length a0 k:Int)) ((a0-k:Nat):Int))) /\
  CurN (Zx st [(lv,ic),(lv,li)] (Qn (.ptr la (b+5) 0 0 0) r lv li ver2 (r.h+1) es2 (vis0+(bkV N r s.length a0 k:Int)) ((a0-k:Nat):Int))) lv ic li la b r N s (a0-k) (vis0+(bkV N r s.length a0 k:Int)) ver2 es2:=by
 have H:=HC.cl;obtain ⟨hlv,ht,hpos⟩:=h.lv hN h0;have h13:=h.rt.h13 hN;have hmb:r.m.b=s.length:=(h.b hN).2;have hrf:(QU r).f=0:=rfl;have hrn:(QU r).n=r.h:=rfl
 have hRl:(s.take a0).reverse.length=a0:=by simp;omega
 have hfl:=ZlG (s.take a0).reverse;rw [hRl] at hfl
 have hleaf:∀ p:Int,0<=p->p<s.length->∃ lf,(QN N p r.h (QU r))[r.h]?=some lf/\CLvOk N s lf/\lf.n=0/\lf.f<=p/\p<lf.t/\lf.t<=s.length/\0<=lf.f:=by
  intro p p0 p1
  obtain ⟨lf,hlf⟩:∃ lf,(QN N p r.h (QU r))[r.h]?=some lf:=⟨_,jE (by rw [ZCz];omega)⟩
  obtain ⟨e1,e2,e3,e4,e5,e6⟩:=ZAi hN r.h (QU r) rfl hlv (by omega) (by omega) r.h lf hlf
  exact ⟨lf,hlf,e1,by omega,e3,e4,by omega,by omega⟩
 suffices hmain:Sp Tb QL [.ptr lv ic 0 0 0] st (fun w st'=>∃ q:PvS,q.i=ZEk (s.take a0).reverse/\q.p=(a0:Int)-q.i/\PvI st lv ic li la b r N s a0 vis0 q /\
  w=.tup [.str ((s.take a0).reverse.take q.i).reverse,.int .i64 0]/\st'=Zx st [(lv,ic),(lv,li)] (Qn (.ptr la (b+5) 0 0 0) r lv li q.ver (r.h+1) q.es q.vis ((a0:Int)-q.i))) by
  obtain ⟨w,st',hS,q,q1,q2,qI,rfl,rfl⟩:=hmain
  have e1:((a0-q.i:Nat):Int)=(a0:Int)-q.i:=by have:=qI.ai;omega
  have e2:q.vis=vis0+(bkV N r s.length a0 q.i:Int):=by
   have:=qI.vs
   rw [if_neg (by omega)] at this
   omega
  have e3:((s.take a0).reverse.take q.i).reverse=(s.take a0).drop (a0-q.i):=by
   rw [List.take_reverse,List.reverse_reverse,List.length_take,Nat.min_eq_left ha]
  have hsl:=qI.p1;refine ⟨q.ver,q.es,q.i,q1,qI.ai,?_,⟨?_,qI.le,?_⟩⟩
  ·rw [hS,e1,<- e2,e3]
  ·rw [e1,<- e2];exact H.put rfl rfl
  ·rw [qI.es,q2]
   congr 2
   omega
 refine ZXR (rfl:Tb QL=some (.pf Y9)) ?_;obtain ⟨B0,hB0⟩:∃ B0,B0=st.ps:=⟨_,rfl⟩
 show Ru _ _ _ _ _ ⟨st.ps,false,[]⟩
 rw [<- hB0];have hRe:=Yi hN h ((H.push hB0 (ro:=false) (L:=[])).get 0 lv ic _ rfl rfl) (hR.push hB0 (L:=[])).rd;have hg0:=(H.push hB0 (ro:=false) (L:=[])).get 0 lv ic _ rfl rfl;unfold Qp at hg0
 have hane:((a0:Nat):Int)≠0:=by omega
 repeat' (first|refine Zz rfl hg0 rfl rfl ?_|refine ZE ?_|refine ZD ?_|refine ZG rfl ?_|refine ZJ rfl rfl ?_|refine ZB rfl ?_|refine ZC ?_|refine Zb rfl rfl ?_|(refine Zi rfl rfl (fun _=>?_) (fun _=>?_)<;>try (exfalso;omega))|(refine Ze rfl rfl (fun _=>?_) (fun _=>?_)<;>try (exfalso;omega))|refine ZF rfl ?_|refine ZAK rfl rfl ?_|refine ZCv rfl ?_|refine ZA rfl rfl rfl (hRe) ?_|refine ZH ?_|refine ZP ?_)
 all_goals try contradiction
 all_goals try (exfalso;omega)
 refine Z0 (α:=PvS) (fun q=>(0,.ptr lv ic 0 0 0)::(5,.ptr q.B.length 1 0 0 0)::(6,.func (.func QT) [] [.ptr q.B.length 1 0 0 0])::(7,.bool q.more)::q.xs)
  (fun q=>⟨q.B,false,.arr 1 q.v (ZY ((s.take a0).reverse.take q.i))::.arr 1 0 [.ref q.B.length 0 q.v 0 q.i]::q.T⟩) (PvI st lv ic li la b r N s a0 vis0)
  (fun q=>2*(a0-q.i)+(if q.p=(a0:Int)-q.i then 1 else 0)) ⟨0,min (a0:Int) (s.length-1),true,ver,es,vis0,B0,0,[],[]⟩ rfl rfl ?_ ?_
 ·refine ⟨by simp only;rw [hB0];simp only [Int.sub_zero,Int.natCast_zero];rw [H.same],HC.le,HC.es,by simp only;omega,by simp only;omega,by simp only;omega,by simp,by simp,?_⟩
  simp only [bkV,Nat.sub_zero]
  split
  ·rename_i hq
   have e:min (a0:Int) ((s.length:Int)-1)=(a0:Int)-1:=by omega
   unfold Zdb;rw [e,ZiR];omega
  ·omega
 rintro ⟨i,p,more,ver,es,vis,B,v,T,xs⟩ hI
 obtain ⟨hB,hle,hes,hai,⟨p0,p1⟩,pa,mo,bw,vs⟩:=id hI
 simp only at hB hle hes hai p0 p1 pa mo bw vs ⊢
 obtain ⟨lf,g1,g2,g3,g4,g5,g6,g7⟩:=hleaf p p0 p1;obtain ⟨x1,x2⟩:=ZlC hN g2 g3
 have hc:=fun L=>Cl.old (L:=L) (ro:=false) H hB rfl rfl (j:=0) rfl rfl
 have hcl:=fun L=>Cl.old (L:=L) (ro:=false) H hB rfl rfl (j:=1) rfl rfl
 have htl:((s.take a0).reverse.take i).length=i:=by rw [List.length_take,hRl];omega
 have hel:es[r.h+1-1]?=some (CLv.av N lf):=by
  have e1:(es.take (r.h+1))[r.h]?=es[r.h]?:=List.getElem?_take_of_lt (by omega)
  rw [Nat.add_sub_cancel,<- e1,hes,jG,g1];rfl
 have hLf:=fun L=>ZeR (hc L) (hcl L) (by omega) hel
 have hbk:=Zgk h13 i (N:=N) (n:=s.length) (a:=a0);have hcs:=ZlH h13 (N:=N) (n:=s.length) (a:=a0-i)
 by_cases hfinish:more=false\/i=a0
 ·have hpe : p = (a0 : Int) - i := by
   rcases hfinish with w|w
   ·exact mo w
   ·omega
  have hbw:i=ZEk (s.take a0).reverse:=by
   rw [bw]
   rcases hfinish with w|w
   ·rw [w];simp
   ·rw [List.drop_of_length_le (by omega)];simp [ZEk]
  have hfin:∀ (w:AV) (st':St),w=.tup [.str ((s.take a0).reverse.take i).reverse,.int .i64 0]->st'=Zx st [(lv,ic),(lv,li)] (Qn (.ptr la (b+5) 0 0 0) r lv li ver (r.h+1) es vis ((a0:Int)-i))->∃ q:PvS,q.i=ZEk (s.take a0).reverse/\q.p=(a0:Int)-q.i/\PvI st lv ic li la b r N s a0 vis0 q /\
   w=.tup [.str ((s.take a0).reverse.take q.i).reverse,.int .i64 0]/\st'=Zx st [(lv,ic),(lv,li)] (Qn (.ptr la (b+5) 0 0 0) r lv li q.ver (r.h+1) q.es q.vis ((a0:Int)-q.i)) :=
   fun w st' e1 e2=>⟨_,hbw,hpe,hI,e1,e2⟩
  have hT:=fun (x y z:AV) (Q:JV) (kf:List Fr) hQ=>Zmb (B:=B) (T:=T) (v:=v) (m:=i) (l:=(s.take a0).reverse.take i) htl.symm (by omega) (c0:=.ptr lv ic 0 0 0) (f:=x) (mo:=y) (bo:=z) (kf:=kf) (Q:=Q) hQ
  unfold Qp at hc
  cases more with
  | false =>
   repeat' (first|refine hT _ _ _ _ _ (fun L2=>ZL ⟨_,_,ZX hB (.inr rfl) rfl rfl rfl rfl rfl,hfin _ _ rfl rfl⟩)|refine ZE ?_|refine ZD ?_|refine ZG rfl ?_|refine Q9 rfl rfl ?_|refine Zf rfl rfl rfl rfl ?_|refine ZB rfl ?_|refine ZC ?_|refine ZF rfl ?_|refine Zu ?_|refine Zh ?_|refine Zc rfl ?_|refine Zs ?_)
   all_goals try contradiction
   all_goals try (exfalso;omega)
  | true =>
   have hi:i=a0:=by
    rcases hfinish with w|w
    ·exact absurd w (by decide)
    ·exact w
   have hng:¬ ((a0:Int)-i > 0):=by omega
   repeat' (first|refine hT _ _ _ _ _ (fun L2=>ZL ⟨_,_,ZX hB (.inr rfl) rfl rfl rfl rfl rfl,hfin _ _ rfl rfl⟩)|refine Zz rfl (hc _) rfl rfl ?_|refine ZE ?_|refine ZD ?_|refine ZG rfl ?_|refine ZJ rfl rfl ?_|refine Z2 rfl ?_|refine Zf rfl rfl rfl rfl ?_|refine ZB rfl ?_|refine ZC ?_|refine Zb rfl rfl ?_|(refine QD rfl rfl (fun _=>?_) (fun _=>?_)<;>try (exfalso;omega))|refine ZF rfl ?_|refine Zu ?_|refine Zh ?_|refine Zc rfl ?_|refine Zs ?_)
   all_goals try contradiction
   all_goals try (exfalso;omega)
 ·have hm : more = true := by
   cases more with
   | true=>rfl
   | false=>exact absurd (Or.inl rfl) hfinish
  subst hm
  have hlt:i<a0:=by
   rcases Nat.lt_or_ge i a0 with w|w
   ·exact w
   ·exact absurd (Or.inr (by omega)) hfinish
  have hgt:(a0:Int)-i > 0:=by omega
  rcases Int.lt_or_le ((a0:Int)-i-1) lf.f with hout|hin
  ·-- before the leaf
   have hpe:p=(a0:Int)-i:=by omega
   have Hc:∀ L,Cl ⟨B,false,L⟩ [(lv,ic),(lv,li)] (Qn (.ptr la (b+5) 0 0 0) r lv li ver (r.h+1) es vis ((a0:Int)-i)):=fun L=>(H.put rfl rfl).push hB
   have hRc:∀ L,RdO ⟨B,false,L⟩ la (b+5) N [(lv,ic),(lv,li)]:=fun L=>by
    obtain ⟨a0',a1,im,a3,a4,a5,q1,q2,q3,q4⟩:=hR;exact ⟨a0',a1,im,a3,a4,a5,ZW hB ((H.out rfl rfl q3).trans q1),ZW hB ((H.out rfl rfl q4).trans q2),q3,q4⟩
   obtain ⟨w,st',hE,rfl,A2,L2,T2,ver2,es2,rfl,e2,f2,f3⟩:=Zgh (n:=r.h) (p:=p) (a:=(a0:Int)-i-1) (Hc (.arr 1 v (ZY ((s.take a0).reverse.take i))::.arr 1 0 [.ref B.length 0 v 0 i]::T)) hla (hRc _) hN hlv rfl (by omega) (by omega) (by omega) (by omega) (by omega) hs (by split at vs<;>omega) hle hes
   have hlek:∀ k∈[(lv,ic),(lv,li)],k.1<=(Zx st [(lv,ic),(lv,li)] (Qn (.ptr la (b+5) 0 0 0) r lv li ver (r.h+1) es vis ((a0:Int)-i))).A.length:=by rw [ZDd];exact H.le
   rw [Jy hB hlek,ZCw H.nd rfl rfl] at e2;simp only [St.mk.injEq,true_and] at e2;obtain ⟨e2a,rfl⟩:=e2
   have hBl:A2.length=B.length:=by rw [e2a,hB];simp [ZDd]
   rw [if_neg (by omega)] at vs
   have hcst:Zdb N r s.length (a0-i)=r.h+1-cmL N p ((a0:Int)-i-1) r.h (QU r):=by
    unfold Zdb
    rw [show min ((a0-i:Nat):Int) ((s.length:Int)-1)=p by omega,show ((a0-i:Nat):Int)-1=(a0:Int)-i-1 by omega]
   have hnext:∀ x y:AV,∃ q:PvS,([(0,AV.ptr lv ic 0 0 0),(5,.ptr B.length 1 0 0 0),(6,.func (.func QT) [] [.ptr B.length 1 0 0 0]),(7,.bool true),(11,x),(60,y)]=(0,AV.ptr lv ic 0 0 0)::(5,.ptr q.B.length 1 0 0 0)::(6,.func (.func QT) [] [.ptr q.B.length 1 0 0 0])::(7,.bool q.more)::q.xs /\
    (⟨A2,false,(.arr 1 v (ZY ((s.take a0).reverse.take i))::.arr 1 0 [.ref B.length 0 v 0 i]::T)++T2⟩:St)=⟨q.B,false,.arr 1 q.v (ZY ((s.take a0).reverse.take q.i))::.arr 1 0 [.ref q.B.length 0 q.v 0 q.i]::q.T⟩)/\PvI st lv ic li la b r N s a0 vis0 q /\
    2*(a0-q.i)+(if q.p=(a0:Int)-q.i then 1 else 0)<2*(a0-i)+(if p=(a0:Int)-i then 1 else 0):=by
    intro x y
    refine ⟨⟨i,(a0:Int)-i-1,true,ver2,es2,_,A2,v,T++T2,[(11,x),(60,y)]⟩,⟨by simp only;rw [hBl],by simp only;rw [hBl];rfl⟩,⟨e2a,f2,f3,hai,by simp only;omega,.inr (by simp only;omega),by simp,bw,?_⟩,?_⟩
    ·simp only
     rw [if_pos (by omega),hcst]
     omega
    ·simp only
     rw [if_neg (by omega),if_pos hpe]
     omega
   unfold Qp at hc
   repeat' (first|exact hnext _ _|refine Zz rfl (hc _) rfl rfl ?_|refine ZE ?_|refine ZD ?_|refine ZG rfl ?_|refine ZJ rfl rfl ?_|refine Z2 rfl ?_|refine Zf rfl rfl rfl rfl ?_|refine Zp rfl rfl ?_|refine ZB rfl ?_|refine ZC ?_|refine Zb rfl rfl ?_|(refine Zg rfl rfl (fun _=>?_) (fun _=>?_)<;>try (exfalso;omega))|(refine QD rfl rfl (fun _=>?_) (fun _=>?_)<;>try (exfalso;omega))|(refine Ze rfl rfl (fun _=>?_) (fun _=>?_)<;>try (exfalso;omega))|refine ZS rfl ?_|refine ZF rfl ?_|refine QS rfl rfl (by omega) ?_|refine ZA rfl rfl rfl (hLf _) ?_|refine ZA rfl rfl rfl (hE) ?_|refine ZH ?_|refine Zu ?_|refine ZP ?_|refine Zh ?_|refine Zc rfl ?_|refine QJ ?_)
   all_goals try contradiction
   all_goals try (exfalso;omega)
  ·-- within the leaf
   have hbnd:(a0:Int)-i-1<lf.t:=by omega
   have hlt2:a0-i-1<s.length:=by omega
   obtain ⟨c,hcb⟩:∃ c,s[a0-i-1]?=some c:=⟨_,jE hlt2⟩
   have hix:(QQ N lf.o).text[((a0:Int)-i-1-lf.f).toNat]?=some c:=by
    rw [x2 _ (by omega) hbnd,show ((a0:Int)-i-1).toNat=a0-i-1 by omega];exact hcb
   have hRi:(s.take a0).reverse[i]?=some c:=by
    rw [List.getElem?_reverse (by simp;omega),List.length_take,Nat.min_eq_left ha,List.getElem?_take_of_lt (by omega),show a0-1-i=a0-i-1 by omega];exact hcb
   have hdrop:=ZBU hRi
   have hnge:¬ ((QQ N lf.o).text.length:Int)<=(a0:Int)-i-1-lf.f:=by omega
   have hnlt:¬ ((a0:Int)-i-1<lf.f):=by omega
   have hCo:=fun st=>Zov c st
   have htake:(s.take a0).reverse.take i++[c]=(s.take a0).reverse.take (i+1):=(ZC0 hRi).symm
   obtain ⟨y1,y2⟩:=ZTG hN r.h (QU r) lf rfl hlv (by omega) (by omega) g1 (a:=(a0:Int)-i-1) hin hbnd
   have y3:=ZlI hN r.h (QU r) lf rfl hlv (by omega) (by omega) g1 (a:=(a0:Int)-i-1) hin hbnd
   have hvs2:vis=vis0+(bkV N r s.length a0 i:Int)+(Zdb N r s.length (a0-i):Int):=by
    rcases pa with w|w
    ·have : Zdb N r s.length (a0 - i) = 0 := by
      unfold Zdb
      rw [show min ((a0-i:Nat):Int) ((s.length:Int)-1)=p by omega,show ((a0-i:Nat):Int)-1=(a0:Int)-i-1 by omega,y3]
      omega
     rw [if_neg (by omega)] at vs
     omega
    ·rw [if_pos w] at vs;exact vs
   have hnext:∀ B2 T2,B2=(Zx st [(lv,ic),(lv,li)] (Qn (.ptr la (b+5) 0 0 0) r lv li ver (r.h+1) es vis ((a0:Int)-i-1))).ps->B2.length=B.length->∃ q:PvS,([(0,AV.ptr lv ic 0 0 0),(5,.ptr B.length 1 0 0 0),(6,.func (.func QT) [] [.ptr B.length 1 0 0 0]),(7,.bool (XU c))]=(0,AV.ptr lv ic 0 0 0)::(5,.ptr q.B.length 1 0 0 0)::(6,.func (.func QT) [] [.ptr q.B.length 1 0 0 0])::(7,.bool q.more)::q.xs /\
    (⟨B2,false,.arr 1 (v+1) (ZY ((s.take a0).reverse.take (i+1)))::.arr 1 0 [.ref B.length 0 (v+1) 0 (i+1)]::T2⟩:St)=⟨q.B,false,.arr 1 q.v (ZY ((s.take a0).reverse.take q.i))::.arr 1 0 [.ref q.B.length 0 q.v 0 q.i]::q.T⟩)/\PvI st lv ic li la b r N s a0 vis0 q /\
    2*(a0-q.i)+(if q.p=(a0:Int)-q.i then 1 else 0)<2*(a0-i)+(if p=(a0:Int)-i then 1 else 0):=by
    intro B2 T2 e1 e2
    refine ⟨⟨i+1,(a0:Int)-i-1,XU c,ver,es,vis,B2,v+1,T2,[]⟩,⟨by simp only;rw [e2],by simp only;rw [e2]⟩,⟨?_,hle,by simp only;rw [y1];exact hes,by simp only;omega,by simp only;omega,.inl (by simp only;omega),fun _=>by simp only;omega,?_,?_⟩,?_⟩
    ·simp only
     rw [e1,show (a0:Int)-i-1=(a0:Int)-(i+1:Nat) by omega]
    ·simp only
     rw [bw,if_pos rfl,hdrop,ZEk,Nat.add_assoc i 1]
    ·simp only
     rw [if_neg (by omega),bkV,hvs2]
     omega
    ·simp only
     split<;>first|omega|(split<;>omega)
   unfold Qp at hc
   repeat' (first|refine Zz rfl (hc _) rfl rfl ?_|refine ZE ?_|refine ZD ?_|refine ZG rfl ?_|refine ZJ rfl rfl ?_|refine Z2 rfl ?_|refine Zf rfl rfl rfl rfl ?_|refine Zp rfl rfl ?_|refine ZB rfl ?_|refine ZC ?_|refine Zb rfl rfl ?_|refine Qg rfl ?_|(refine Zg rfl rfl (fun _=>?_) (fun _=>?_)<;>try (exfalso;omega))|(refine QD rfl rfl (fun _=>?_) (fun _=>?_)<;>try (exfalso;omega))|(refine JQ rfl rfl (fun _=>?_) (fun _=>?_)<;>try (exfalso;omega))|refine ZS rfl ?_|refine ZF rfl ?_|refine QS rfl rfl (by omega) ?_|refine ZA rfl rfl rfl (hLf _) ?_|refine ZH ?_|refine ZP ?_)
   all_goals try contradiction
   all_goals try (exfalso;omega)
   refine ZNt (j:=0) H hB rfl rfl rfl rfl rfl rfl rfl rfl rfl (fun B2 hB2 e2=>?_)
   have hTk:=fun T=>ZrS (A:=B2) (T:=T) (v:=v) (l:=(s.take a0).reverse.take i) (by omega) c
   rw [htl,htake,e2] at hTk
   have hc2:=fun L=>Cl.old (L:=L) (ro:=false) H hB2 rfl rfl (j:=0) rfl rfl
   have hn2:=fun T2=>hnext B2 T2 hB2 e2
   repeat' (first|exact hn2 _|refine Zz rfl (hc2 _) rfl rfl ?_|refine Yl rfl rfl (by omega) hix ?_|refine ZE ?_|refine ZD ?_|refine ZG rfl ?_|refine ZJ rfl rfl ?_|refine ZB rfl ?_|refine ZC ?_|refine Zb rfl rfl ?_|refine QS rfl rfl (by omega) ?_|refine ZA rfl rfl rfl (hCo _) ?_|refine ZA rfl rfl rfl (hTk _) ?_|refine Z7 ?_|refine QJ ?_)
   all_goals try contradiction
   all_goals try (exfalso;omega)
theorem Za0 {N M:ZQ} (hE:Ext N M) {o:Nat} {x:Nd} (h:lk N o=some x):QQ M o=QQ N o:=by
 rw [J3 h,J3 (hE _ _ h)]
theorem ZrT {N M:ZQ} (hN:GoodN N) (hE:Ext N M):∀ n o x,lk N o=some x->x.h=n->szN M n o=szN N n o:=by
 intro n
 induction n with
 | zero=>intro o x hx hh;rfl
 | succ n ih =>
  intro o x hx hh;rw [szN,szN,Za0 hE hx,J3 hx]
  have e:(x.ks.map fun k=>szN M n k.at_)=x.ks.map fun k=>szN N n k.at_:=List.map_congr_left fun k hk=>by
   obtain ⟨_,y,y1,y2,_⟩:=(hN o x hx).2 k hk
   exact ih k.at_ y y1 (by omega)
  rw [e]
theorem Za1 {N M:ZQ} (hE:Ext N M) {s:List UInt8} {l:CLv} (h:CLvOk N s l) (a:Int):l.down M a=l.down N a/\ZA3 M l.o (a-l.f)=ZA3 N l.o (a-l.f)/\CLv.av M l=CLv.av N l:=by
 obtain ⟨⟨x,hx,_⟩,_⟩:=h;have e:=Za0 hE hx
 have e2:∀ b,ZA3 M l.o b=ZA3 N l.o b:=fun b=>by unfold ZA3;rw [e]
 refine ⟨?_,e2 _,by unfold CLv.av;rw [e]⟩
 unfold CLv.down X6 Zap ZLP;rw [e2,e]
theorem ZiY {N M:ZQ} (hN:GoodN N) (hE:Ext N M) {s:List UInt8} {a:Int}:∀ (n:Nat) (l:CLv),l.n=n->CLvOk N s l->l.f<=a->a<l.t ->
 QN M a n l=QN N a n l/\ZCr M a n l=ZCr N a n l/\(QN N a n l).map (CLv.av M)=(QN N a n l).map (CLv.av N)/\∀ p,l.f<=p->p<l.t->cmL M p a n l=cmL N p a n l
 | 0,l,_,h,_,_=>⟨rfl,rfl,by rw [QN,jC,jC,(Za1 hE h a).2.2];rfl,fun _ _ _=>rfl⟩
 | n+1,l,hn,h,h0,h1=>by
  obtain ⟨e1,e2,e3⟩:=Za1 hE h a;obtain ⟨d1,d2,d3,d4,d5,_⟩:=h.down hN hn h0 h1
  have dn:(l.down N a).n=n:=by show l.n-1=n;omega
  obtain ⟨i1,i2,i3,i4⟩:=ZiY hN hE n _ dn d1 d2 d3;obtain ⟨x,hx,hxh,_⟩:=h.nd
  refine ⟨?_,?_,?_,fun p p0 p1=>?_⟩
  ·rw [QN,QN,e1,i1]
  ·rw [ZCr,ZCr,e1,i2,e2,Za0 hE hx]
   have e:(((QQ N l.o).ks.take (ZA3 N l.o (a-l.f))).map fun k=>szN M n k.at_)=((QQ N l.o).ks.take (ZA3 N l.o (a-l.f))).map fun k=>szN N n k.at_:=List.map_congr_left fun k hk=>by
    have hk:=List.mem_of_mem_take hk;rw [J3 hx] at hk;obtain ⟨_,y,y1,y2,_⟩:=(hN l.o x hx).2 k hk
    exact ZrT hN hE n k.at_ y y1 (by omega)
   rw [e]
  ·rw [QN,jC,jC,e3,i3]
  ·have e4:=(Za1 hE h p).1
   rw [cmL,cmL,e1,e4]
   split
   ·rename_i q
    obtain ⟨p1',p2,p3,_⟩:=h.down hN hn p0 p1;rw [q] at p2 p3;rw [i4 p p2 p3]
   ·rfl
section
variable {N M:ZQ} (hN:GoodN N) (hE:Ext N M) {r:Ro} {s:List UInt8} (h:Rt N r s) (h0:r.at_≠0)
include hN hE h h0
theorem Zmc (a:Nat):(QN M (min (a:Int) (s.length-1)) r.h (QU r)).map (CLv.av M)=(QN N (min (a:Int) (s.length-1)) r.h (QU r)).map (CLv.av N):=by
 obtain ⟨hlv,ht,hpos⟩:=h.lv hN h0;have hf:(QU r).f=0:=rfl
 obtain ⟨e1,_,e3,_⟩:=ZiY hN hE r.h (QU r) (a:=min (a:Int) (s.length-1)) rfl hlv (by omega) (by omega)
 rw [e1,e3]
end
section
variable {st:St} {lv ic li la b:Nat} {r:Ro} {vis:Int} {N:ZQ} {s:List UInt8} {a:Nat} {lev:AV}
theorem ZTH (hg0:st.get lv ic=some (Qp (.ptr la (b+5) 0 0 0) r lev vis a)) (hR:Rd st la (b+5) N) (hN:GoodN N) (h:Rt N r s) (ha:a=s.length):S Tb QH [.ptr lv ic 0 0 0] st=some (.tup [.str [],.int .i64 3],st):=by
 refine Z9 rfl (fun A hA=>?_)
 have hmb:r.m.b=s.length:=(h.b hN).2;have hg:=ZW hA (ro:=false) (L:=[]) hg0;have hRe:=Yi hN h hg (hR.push hA (ro:=false) (L:=[]));unfold Qp at hg
 have he:((a:Nat):Int)=r.m.b:=by omega
 repeat' (first|refine Zz rfl hg rfl rfl ?_|refine ZE ?_|refine ZD ?_|refine ZG rfl ?_|refine ZJ rfl rfl ?_|refine ZB rfl ?_|refine ZC ?_|refine Zb rfl rfl ?_|(refine Zi rfl rfl (fun _=>?_) (fun _=>?_)<;>try (exfalso;omega))|(refine Ze rfl rfl (fun _=>?_) (fun _=>?_)<;>try (exfalso;omega))|refine ZS rfl ?_|refine ZF rfl ?_|refine ZA rfl rfl rfl (hRe) ?_|refine ZH ?_|refine ZO ?_|refine ZL ?_|refine ZU ?_)
 all_goals try contradiction
 all_goals try (exfalso;omega)
 refine ZX hA (by first|exact .inl rfl|exact .inr rfl) rfl rfl rfl rfl ?_
 rfl
end
section
variable (N:ZQ) (r:Ro) (s:List UInt8)
end
section
variable {st:St} {lv ic li ver la b:Nat} {r:Ro} {es:List AV} {vis:Int} {N:ZQ} {s:List UInt8} {a:Nat}
section
variable (H:CurN st lv ic li la b r N s a vis ver es) (hla:la<=lv) (hR:RdO st la (b+5) N [(lv,ic),(lv,li)]) (hN:GoodN N) (h:Rt N r s) (h0:r.at_≠0) (hs:s.length<=100000) (ha:a<=s.length) (hv:0<=vis/\vis<700000000)
include H hla hR hN h h0 hs ha hv
end
end
section
variable {O:Orc} {k:List Fr} {Q:JV} {e:Env} {st:St} {keep:List Nat} {is:List QAbs.PI} {d:Nat}
end
section
variable {st st2:St} {A B:List (Bool × List Blk)} {lv ic w:Nat} {n x e:Int} {bd:Nat} {u:List UInt8}
end
section
variable {st:St} {lv ic li ver la b:Nat} {r:Ro} {es:List AV} {vis:Int} {N:ZQ} {s:List UInt8} {a:Nat}
end
end Go.Q15
