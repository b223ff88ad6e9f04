/- A part of the proof: CUc, CUd, CUe, CUf, CUg, CUh, CUb, CUi, CUj, CUk, CUl, SQe, SB, RZ, SD, SE, SF, SG, SI, SJ, SK, SL, SN, SQf, SQg, SSa, SSb, SSc, SSd, SSe, SSf, SSg, SSh, SSi, SSj, SSk, SSl, SQh, SSm, SSn, CUm, SKd, CUo, CUn, CUp, FY, SHJ, TZa, TZl. No condition. -/
import Derived.SliceStrings
import Derived.Deep.Slices
import Derived.Carry
import Derived.Shelf.Strings.OnBuilder
import Derived.Test.YtleajkoecgbnlaaGreatProg
import Derived.Test.YtleajkoecgbnlaaGreatClT8
set_option linter.unusedVariables false
set_option linter.unusedSimpArgs false
namespace Go.Q15
open Go Go.QAbs
set_option maxRecDepth 100000
set_option maxHeartbeats 8000000
structure RdO (st:St) (la ix:Nat) (N:ZP) (ks:List (Nat × Nat)):Prop where
 at_:∃ a0 a1 im a3 a4 a5,st.get la ix=some (.arr 6 0 [.agg [a0,a1,.map la im,a3,a4,a5]])/\st.get la im=some (.map (N.map nodeAV))/\(la,ix)∉ks/\(la,im)∉ks
theorem RdO.rd {st:St} {la ix:Nat} {N:ZP} {ks:List (Nat × Nat)} (h:RdO st la ix N ks):Rd st la ix N:=by
 obtain ⟨a0,a1,im,a3,a4,a5,h1,h2,_⟩:=h;exact ⟨a0,a1,im,a3,a4,a5,h1,h2⟩
theorem RdO.put {A A0:List (Bool × List Blk)} {L L0:List Blk} {ks:List (Nat × Nat)} {b0 bs:List Blk} {la ix:Nat} {N:ZP} (h:RdO ⟨A0,false,L0⟩ la ix N ks) (H:Cl ⟨A0,false,L0⟩ ks b0) (hst:(⟨A,false,L⟩:St)=Zz ⟨A0,false,L0⟩ ks bs) (hl:bs.length=ks.length) (hn:bs.all noH=true) (T:List Blk):RdO ⟨A,false,L++T⟩ la ix N ks:=by
 obtain ⟨a0,a1,im,a3,a4,a5,h1,h2,h3,h4⟩:=h;exact ⟨a0,a1,im,a3,a4,a5,ZqX H hst hl hn h3 h1 T,ZqX H hst hl hn h4 h2 T,h3,h4⟩
theorem RdO.push {st:St} {A:List (Bool × List Blk)} {L:List Blk} {ks:List (Nat × Nat)} {la ix:Nat} {N:ZP} (h:RdO st la ix N ks) (hA:A=st.A++[(st.ro,st.L)]):RdO ⟨A,false,L⟩ la ix N ks:=by
 obtain ⟨a0,a1,im,a3,a4,a5,h1,h2,h3,h4⟩:=h;exact ⟨a0,a1,im,a3,a4,a5,ZV hA h1,ZV hA h2,h3,h4⟩
theorem Znr {A:List (Bool × List Blk)} {L:List Blk} {ks:List (Nat × Nat)} {bs:List Blk} (h:Cl ⟨A,false,L⟩ ks bs) (T:List Blk):Cl ⟨A,false,L++T⟩ ks bs :=
 ⟨h.nd,h.len,fun k hk=>ZjB (h.wr k hk),fun j lv ix b h1 h2=>Yw (h.get j lv ix b h1 h2)⟩
theorem Zhh:∀ {ks:List (Nat × Nat)} {A:List (Bool × List Blk)} {L:List Blk} {b0 bs:List Blk} {T:List Blk},Cl ⟨A,false,L⟩ ks b0->bs.length=ks.length->bs.all noH=true->Zz ⟨A,false,L++T⟩ ks bs=⟨(Zz ⟨A,false,L⟩ ks bs).A,false,(Zz ⟨A,false,L⟩ ks bs).L++T⟩
 | [],_,_,_,bs,_,_,_,_=>by cases bs<;>rfl
 | _::_,_,_,_,[],_,_,h,_=>by simp at h
 | k::ks,A,L,[],b::bs,T,H,_,_=>by have:=H.len;simp at this
 | k::ks,A,L,b'::b0,b::bs,T,H,hl,hn=>by
  simp only [List.all_cons,Bool.and_eq_true] at hn;have hg:=H.get 0 k.1 k.2 b' rfl rfl;have ht:=H.tail hn.1;rw [Zz,Zz,Zfn hg]
  have e:St.upd ⟨A,false,L⟩ k.1 k.2 b=⟨(St.upd ⟨A,false,L⟩ k.1 k.2 b).A,false,(St.upd ⟨A,false,L⟩ k.1 k.2 b).L⟩:=by
   have:=Zfo (A:=A) (L:=L) (lv:=k.1) (ix:=k.2) (b:=b)
   cases hq:St.upd ⟨A,false,L⟩ k.1 k.2 b with
   | mk a r l=>rw [hq] at this;simp only at this;rw [this]
  rw [e] at ht
  rw [Zhh ht (by simpa using hl) hn.2,<- e]
theorem ZjF {A A0:List (Bool × List Blk)} {L L0:List Blk} {ks:List (Nat × Nat)} {b0 bs bs':List Blk} (T:List Blk) (H:Cl ⟨A0,false,L0⟩ ks b0) (hst:(⟨A,false,L⟩:St)=Zz ⟨A0,false,L0⟩ ks bs) (hl:bs.length=ks.length) (hn:bs.all noH=true) (hl':bs'.length=ks.length) (hn':bs'.all noH=true) :
 ∃ A2 L2,Zz ⟨A,false,L++T⟩ ks bs'=⟨A2,false,L2++T⟩/\(⟨A2,false,L2⟩:St)=Zz ⟨A0,false,L0⟩ ks bs':=by
 have H1:=H.put hl hn;rw [<- hst] at H1;refine ⟨_,_,Zhh H1 hl' hn',?_⟩;rw [Zhg,hst,ZE4 H.nd hl hl']
def JW (ap:AV) (r:Ro) (lev:AV) (vis at_:Int):Blk:=.arr 9 0 [.agg [ap,.int .u64 r.at_,.int .i64 r.h,.int .i64 r.m.b,.int .i64 r.m.r,.int .i64 r.m.l,lev,.int .i64 vis,.int .i64 at_]]
def CLv.av (N:ZP) (l:CLv):AV:=.agg [.int .i64 l.n,.str (QT N l.o).text,.lit ((QT N l.o).ks.map Kid.av),.int .i64 l.f,.int .i64 l.t]
def JA (ap:AV) (r:Ro) (lv li ver m:Nat) (es:List AV) (vis at_:Int):List Blk:=[JW ap r (.ref lv li ver 0 m) vis at_,.arr 5 ver es]
theorem ZqD {A:List (Bool × List Blk)} {L:List Blk} {lv ic li ver m la b:Nat} {r:Ro} {es:List AV} {vis at_:Int} {N:ZP} (H:Cl ⟨A,false,L⟩ [(lv,ic),(lv,li)] (JA (.ptr la (b+5) 0 0 0) r lv li ver m es vis at_)) (hm:m<=es.length) (hm2:m<1000) (hv:0<=vis/\vis<1000000000)
 (hla:la<=lv) (hR:Rd ⟨A,false,L⟩ la (b+5) N) {o:Nat} {x:Nd} (hx:lk N o=some x) (hl:x.ks.length<=4) (f t:Int) :
 ∃ A2 L2 bx,S Tb Ji [.ptr lv ic 0 0 0,.int .u64 o,.int .i64 f,.int .i64 t] ⟨A,false,L⟩=some (.int .i64 0,⟨A2,false,L2++[bx]⟩) /\
  (⟨A2,false,L2⟩:St)=Zz ⟨A,false,L⟩ [(lv,ic),(lv,li)] (JA (.ptr la (b+5) 0 0 0) r lv li (ver+1) (m+1) (es.take m++[CLv.av N ⟨x.h,o,f,t⟩]) (vis+1) at_):=by
 have hG:=ZSO hR hx hl;have hc0:=H.get 0 lv ic _ rfl rfl
 have hc:=fun T=>Yw (T:=T) hc0
 have hnd:=Yi hx;have hcp:x.copy.av=.agg [.int .i64 x.h,.str x.text,.lit (x.ks.map Kid.av)]:=rfl;rw [hcp] at hG
 have hav:CLv.av N ⟨x.h,o,f,t⟩=.agg [.int .i64 x.h,.str x.text,.lit (x.ks.map Kid.av),.int .i64 f,.int .i64 t]:=by
  unfold CLv.av;simp only;rw [hnd]
 rw [hav];obtain ⟨A2,L2,e2⟩:∃ A2 L2,(⟨A2,false,L2⟩:St)=Zz ⟨A,false,L⟩ [(lv,ic),(lv,li)] (JA (.ptr la (b+5) 0 0 0) r lv li (ver+1) (m+1) (es.take m++[.agg [.int .i64 x.h,.str x.text,.lit (x.ks.map Kid.av),.int .i64 f,.int .i64 t]]) (vis+1) at_):=⟨_,_,Zhg⟩;refine ⟨A2,L2,.arr 3 0 [.agg [.int .i64 x.h,.str x.text,.lit (x.ks.map Kid.av)]],XG rfl ?_,e2⟩;unfold JW at hc0 hc;have hst:(⟨A,false,L⟩:St)=Zz ⟨A,false,L⟩ [(lv,ic),(lv,li)] (JA (.ptr la (b+5) 0 0 0) r lv li ver m es vis at_):=H.same.symm
 repeat' (first|refine Z0 rfl hc0 rfl rfl ?_|refine Z0 rfl (hc _) rfl rfl ?_|refine ZVb rfl rfl rfl ?_|refine ZE ?_|refine ZD ?_|refine ZH rfl ?_|refine ZJ rfl rfl ?_|refine Zr rfl rfl ?_|refine ZB rfl ?_|refine ZC ?_|refine Zc rfl rfl ?_|refine QW rfl rfl rfl ?_|(refine Zd rfl rfl (fun _=>?_) (fun _=>?_)<;>try (exfalso;omega))|refine ZG rfl ?_|refine Zq rfl rfl rfl ?_|refine Zu rfl rfl rfl ?_|refine Q6 rfl rfl rfl rfl rfl rfl ?_|refine ZA rfl rfl rfl (hG) ?_|refine ZI ?_)
 all_goals try contradiction
 refine Zp5 (j:=1) H hst rfl rfl rfl rfl hm rfl rfl rfl rfl rfl (by simp;omega) (by decide) (fun A3 L3 e3 a3 l3=>?_)
 repeat' (first|refine ZJ rfl rfl ?_|refine Zc rfl rfl ?_)
 refine ZjC (j:=0) H e3 rfl rfl rfl rfl rfl rfl rfl (JN _ (Nat.lt_succ_self _)) rfl (fun A4 L4 e4 a4 l4=>?_)
 have hc4:=Znk H e4 rfl rfl (j:=0) rfl rfl
 repeat' (first|refine Z0 rfl (hc4 _) rfl rfl ?_|refine ZE ?_|refine ZD ?_|refine ZH rfl ?_|refine ZJ rfl rfl ?_|refine ZB rfl ?_|refine ZC ?_|refine Zc rfl rfl ?_|refine Zo rfl rfl (by omega) ?_)
 refine ZjC (j:=0) H e4 rfl rfl rfl rfl rfl rfl rfl rfl rfl (fun A5 L5 e5 a5 l5=>?_)
 repeat' (first|refine ZE ?_|refine ZD ?_|refine ZH rfl ?_|refine ZB rfl ?_|refine ZC ?_|refine ZO ?_|refine ZL ?_)
 have e52:(⟨A5,false,L5⟩:St)=⟨A2,false,L2⟩:=by
  rw [e5,e2];rfl
 simp only [St.mk.injEq,true_and] at e52;refine (JY (.inr rfl) rfl rfl rfl rfl).trans ?_;rw [e52.1,e52.2];rfl
theorem Zla {A:List (Bool × List Blk)} {L:List Blk} {ic la b:Nat} {r:Ro} {vis at_:Int} {N:ZP} (hc0:L[ic]?=some (JW (.ptr la (b+5) 0 0 0) r .nils vis at_)) (hv:0<=vis/\vis<1000000000)
 (hR:Rd ⟨A,false,L⟩ la (b+5) N) {o:Nat} {x:Nd} (hx:lk N o=some x) (hl:x.ks.length<=4) (f t:Int) :
 ∃ bx,S Tb Ji [.ptr A.length ic 0 0 0,.int .u64 o,.int .i64 f,.int .i64 t] ⟨A,false,L⟩=some (.int .i64 0,⟨A,false,(L++[bx,Blk.arr 5 0 [CLv.av N ⟨x.h,o,f,t⟩]]).set ic (JW (.ptr la (b+5) 0 0 0) r (.ref A.length (L.length+1) 0 0 1) (vis+1) at_)⟩):=by
 have hG:=ZSO hR hx hl
 have hc:=fun T=>XT (T:=T) hc0
 have hlt:=(List.getElem?_eq_some_iff.1 hc0).1;have hnd:=Yi hx;have hcp:x.copy.av=.agg [.int .i64 x.h,.str x.text,.lit (x.ks.map Kid.av)]:=rfl;rw [hcp] at hG
 have hav:CLv.av N ⟨x.h,o,f,t⟩=.agg [.int .i64 x.h,.str x.text,.lit (x.ks.map Kid.av),.int .i64 f,.int .i64 t]:=by
  unfold CLv.av;simp only;rw [hnd]
 rw [hav];refine ⟨.arr 3 0 [.agg [.int .i64 x.h,.str x.text,.lit (x.ks.map Kid.av)]],XG rfl ?_⟩;unfold JW at hc0 hc ⊢
 repeat' (first|refine ZU rfl hc0 rfl rfl ?_|refine ZU rfl (hc _) rfl rfl ?_|refine ZVb rfl rfl rfl ?_|refine ZE ?_|refine ZD ?_|refine ZH rfl ?_|refine ZJ rfl rfl ?_|refine Zr rfl rfl ?_|refine ZB rfl ?_|refine ZC ?_|refine Zc rfl rfl ?_|refine QW rfl rfl rfl ?_|(refine Zd rfl rfl (fun _=>?_) (fun _=>?_)<;>try (exfalso;omega))|refine ZG rfl ?_|refine Zq rfl rfl rfl ?_|refine Zu rfl rfl rfl ?_|refine Q6 rfl rfl rfl rfl rfl rfl ?_|refine ZA rfl rfl rfl (hG) ?_|refine ZI ?_)
 all_goals try contradiction
 refine ZDM rfl rfl rfl (by simp) (by decide) rfl ?_
 repeat' (first|refine ZJ rfl rfl ?_|refine Zc rfl rfl ?_)
 rw [List.append_assoc];refine Q5 (hc _) rfl rfl rfl (JN _ (Nat.lt_succ_self _)) rfl ?_
 have hc4:∀ c,((L++([Blk.arr 3 0 [.agg [.int .i64 x.h,.str x.text,.lit (x.ks.map Kid.av)]]]++[Blk.arr 5 0 [.agg [.int .i64 x.h,.str x.text,.lit (x.ks.map Kid.av),.int .i64 f,.int .i64 t]]])).set ic c)[ic]?=some c:=fun c=>List.getElem?_set_self (by simp;omega)
 repeat' (first|refine ZU rfl (hc4 _) rfl rfl ?_|refine ZE ?_|refine ZD ?_|refine ZH rfl ?_|refine ZJ rfl rfl ?_|refine ZB rfl ?_|refine ZC ?_|refine Zc rfl rfl ?_|refine Zo rfl rfl (by omega) ?_)
 refine Q5 (hc4 _) rfl rfl rfl rfl rfl ?_
 repeat' (first|refine ZE ?_|refine ZD ?_|refine ZH rfl ?_|refine ZB rfl ?_|refine ZC ?_|refine ZO ?_|refine ZL ?_)
 refine (JY (.inr rfl) rfl rfl rfl rfl).trans ?_;rw [List.set_set]
 simp
theorem Zns {A0 A:List (Bool × List Blk)} {L0 L T:List Blk} {lv ic li ver m la b:Nat} {r:Ro} {b0:List Blk} {es:List AV} {vis at_:Int} {N:ZP} {s:List UInt8} (H:Cl ⟨A0,false,L0⟩ [(lv,ic),(lv,li)] b0)
 (hst:(⟨A,false,L⟩:St)=Zz ⟨A0,false,L0⟩ [(lv,ic),(lv,li)] (JA (.ptr la (b+5) 0 0 0) r lv li ver m es vis at_)) (hm:m<=es.length) (hm2:m<1000) (hv:0<=vis/\vis<1000000000) (hla:la<=lv) (hR:RdO ⟨A0,false,L0⟩ la (b+5) N [(lv,ic),(lv,li)]) (hN:GoodN N)
 {l:CLv} {n:Nat} (hl:CLvOk N s l) (hn:l.n=n+1) {a:Int} (h0:l.f<=a) (h1:a<l.t) (hs:s.length<=100000) {k:List Fr} {Q:Jp}
 (hQ:∀ A2 L2 T2,(⟨A2,false,L2⟩:St)=Zz ⟨A0,false,L0⟩ [(lv,ic),(lv,li)] (JA (.ptr la (b+5) 0 0 0) r lv li (ver+1) (m+1) (es.take m++[CLv.av N (l.down N a)]) (vis+1) at_) ->
  Rk (S Tb) k Q .norm [(0,.ptr lv ic 0 0 0),(1,.int .i64 a),(9,.bool true)] ⟨A2,false,L2++T2⟩) :
 Ru (S Tb) p_cursor_path_enter_24.loop (.blk 4::k) Q [(0,.ptr lv ic 0 0 0),(1,.int .i64 a),(8,.int .i64 l.f),(9,.bool false),(97,.lit ((QT N l.o).ks.map Kid.av)),(98,.int .i64 (QT N l.o).ks.length),(99,.int .i64 0)] ⟨A,false,L++T⟩:=by
 obtain ⟨d1,d2,d3,d4,d5,kd,hkd,ko,kb⟩:=hl.down hN hn h0 h1;have hlen:=hl.len hN;have hdl:=d1.len hN;obtain ⟨y,y1,y2,y3⟩:=d1.nd;have eo:(l.down N a).o=kd.at_:=ko;have ef:(l.down N a).f=l.f+Qg Mea.b (QT N l.o).ks (ZFE N l.o (a-l.f)):=rfl
 have et:(l.down N a).t=l.f+Qg Mea.b (QT N l.o).ks (ZFE N l.o (a-l.f))+kd.m.b:=by
  show l.f+Xx N l.o (a-l.f)+ZLF N l.o (a-l.f)=_
  rw [kb];rfl
 have hyl:y.ks.length<=4:=((hN _ y y1).1).len;have hfit:=hl.fit hN
 have hk4:(QT N l.o).ks.length<=4:=by
  obtain ⟨x,x1,_⟩:=hl.nd;rw [Yi x1];exact ((hN _ x x1).1).len
 have hdown:l.down N a=⟨y.h,kd.at_,(l.down N a).f,(l.down N a).t⟩:=by
  rw [<- eo,y2]
 generalize hI:ZFE N l.o (a-l.f)=I at *
 have hIl:=(List.getElem?_eq_some_iff.1 hkd).1
 have mono:∀ i,i<=I->0<=Qg Mea.b (QT N l.o).ks i/\Qg Mea.b (QT N l.o).ks i<=Qg Mea.b (QT N l.o).ks I:=by
  intro i
  have key:∀ (l:List Kid),(∀ k∈l,0<=k.m.b)->0<=(Z7 (l.map Kid.m)).b:=by
   intro l
   induction l with
   | nil=>intro _;exact Int.le_of_eq comp_b.zero.symm
   | cons y m ih2 =>
    intro hq;rw [jC,Z7,comp_b.add]
    have:=ih2 (fun q hq2=>hq q (List.mem_cons_of_mem _ hq2))
    have:=hq y (by simp)
    omega
  intro hi
  refine ⟨key _ (fun k hk=>hfit k (List.mem_of_mem_take hk)),?_⟩
  have e:=congrArg (fun l=>(Z7 (l.map Kid.m)).b) (List.take_append_drop i ((QT N l.o).ks.take I))
  simp only [List.map_append,Xv,comp_b.add,List.take_take,Nat.min_eq_left hi] at e
  have:=key (((QT N l.o).ks.take I).drop i) (fun k hk=>hfit k (List.mem_of_mem_take (List.mem_of_mem_drop hk)))
  unfold Qg;omega
 refine Z2 (α:=Nat × List Blk) (fun p=>[(0,.ptr lv ic 0 0 0),(1,.int .i64 a),(8,.int .i64 (l.f+Qg Mea.b (QT N l.o).ks p.1)),(9,.bool false),(97,.lit ((QT N l.o).ks.map Kid.av)),(98,.int .i64 (QT N l.o).ks.length),(99,.int .i64 p.1)])
  (fun p=>⟨A,false,L++p.2⟩) (fun p=>p.1<=I) (fun p=>I-p.1) (0,T) (by simp [Qg,Z7,comp_b.zero]) rfl (Nat.zero_le _) ?_
 rintro ⟨i,G⟩ hi
 replace hi:i<=I:=hi
 simp only
 obtain ⟨k1,hk1⟩:∃ k,(QT N l.o).ks[i]?=some k:=⟨_,jE (by omega)⟩
 have qk:0<=((i:Nat):Int)/\(QT N l.o).ks[((i:Nat):Int).toNat]?=some k1:=⟨by omega,by rw [show ((i:Nat):Int).toNat=i by omega];exact hk1⟩
 have hsu:=ZKn comp_b hk1;have hm1:=mono i hi;have hb0:=hfit k1 (jM hk1);have hfr:((l.f+Qg Mea.b (QT N l.o).ks i:Int))=l.f+Qg Mea.b (QT N l.o).ks i:=rfl
 have hb1:k1.m.b<=65536:=by
  obtain ⟨x,x1,_⟩:=hl.nd
  have:=(hN _ x x1).1.ksFit
  rw [Yi x1] at hk1;exact (this k1 (jM hk1)).2
 have hfb:0<=l.f+Qg Mea.b (QT N l.o).ks i/\l.f+Qg Mea.b (QT N l.o).ks i<=200000:=by omega
 have e8:l.f+Qg Mea.b (QT N l.o).ks (i+1)=l.f+Qg Mea.b (QT N l.o).ks i+k1.m.b:=by omega
 rcases Nat.lt_or_ge i I with hlt|hge
 ·have hm2:=mono (i+1) hlt
  have hnot:¬ a<l.f+Qg Mea.b (QT N l.o).ks i+k1.m.b:=by omega
  have hG:∀ c:Blk,L++G++[c]=L++(G++[c]):=fun c=>List.append_assoc ..
  generalize hL3:L++G=L3 at *
  unfold Kid.av at *
  simp only at *
  clear hsu hm1 hm2 hfr
  generalize l.f+Qg Mea.b (QT N l.o).ks i=fr at *
  repeat' (first|refine Xf (f:=Kid.av) rfl rfl qk (fun _=>rfl) ?_|refine ZE ?_|refine ZD ?_|refine ZH rfl ?_|refine ZJ rfl rfl ?_|refine ZB rfl ?_|refine ZC ?_|refine QW rfl rfl rfl ?_|refine Qp rfl rfl ?_|(refine Zj rfl rfl (fun _=>?_) (fun _=>?_)<;>try (exfalso;omega))|refine ZS rfl ?_|refine ZG rfl ?_|refine Zo rfl rfl (by omega) ?_|refine Zu rfl rfl rfl ?_|refine Q6 rfl rfl rfl rfl rfl rfl ?_|refine ZI ?_|refine ZQ ?_|refine QF ?_|refine QG ?_)
  all_goals try contradiction
  all_goals try (exfalso;omega)
  refine ⟨(i+1,G++[.arr 4 0 [Kid.av k1]]),⟨?_,?_⟩,by simp only;omega,by simp only;omega⟩
  ·simp only
   rw [e8];rfl
  ·exact congrArg (St.mk _ false) (hG _)
 ·obtain rfl:i=I:=by omega
  obtain rfl:k1=kd:=Option.some.inj (hk1.symm.trans hkd)
  have hyes:a<l.f+Qg Mea.b (QT N l.o).ks i+k1.m.b:=by omega
  have hG:∀ c:Blk,L++G++[c]=L++(G++[c]):=fun c=>List.append_assoc ..
  have H1:=H.put (bs':=JA (.ptr la (b+5) 0 0 0) r lv li ver m es vis at_) rfl rfl;rw [<- hst] at H1;obtain ⟨A2,L2,bx,hV,e2⟩:=ZqD (Znr H1 (G++[.arr 4 0 [k1.av]])) hm hm2 hv hla (hR.put H hst rfl rfl _).rd y1 hyl (l.down N a).f (l.down N a).t;obtain ⟨A3,L3',f1,f2⟩:=ZjF (bs':=JA (.ptr la (b+5) 0 0 0) r lv li (ver+1) (m+1) (es.take m++[CLv.av N (l.down N a)]) (vis+1) at_) (G++[.arr 4 0 [k1.av]]) H hst rfl rfl rfl rfl;rw [eo,<- hdown,f1] at e2;simp only [St.mk.injEq,true_and] at e2;obtain ⟨rfl,rfl⟩:=e2;rw [eo,ef,et,<- hG] at hV;have hq:=hQ _ _ ((G++[.arr 4 0 [k1.av]])++[bx]) f2;rw [<- List.append_assoc] at hq;clear hsu hm1 hfr
  generalize hL3:L++G=L3 at *
  unfold Kid.av at *
  generalize l.f+Qg Mea.b (QT N l.o).ks i=fr at *
  repeat' (first|exact hq|refine Xf (f:=Kid.av) rfl rfl qk (fun _=>rfl) ?_|refine ZE ?_|refine ZD ?_|refine ZH rfl ?_|refine ZJ rfl rfl ?_|refine ZB rfl ?_|refine ZC ?_|refine QW rfl rfl rfl ?_|refine Qp rfl rfl ?_|(refine Zj rfl rfl (fun _=>?_) (fun _=>?_)<;>try (exfalso;omega))|(refine Zd rfl rfl (fun _=>?_) (fun _=>?_)<;>try (exfalso;omega))|refine ZS rfl ?_|refine ZG rfl ?_|refine Zo rfl rfl (by omega) ?_|refine Zu rfl rfl rfl ?_|refine Q6 rfl rfl rfl rfl rfl rfl ?_|refine ZA rfl rfl rfl (hV) ?_|refine ZI ?_|refine Zy ?_|refine ZQ ?_|refine Zk ?_|refine Zf rfl ?_|refine ZPX rfl ?_|refine Zw ?_)
  all_goals try contradiction
  all_goals try (exfalso;omega)
structure EnS where
 k:Nat
 ver:Nat
 es:List AV
 A:List (Bool × List Blk)
 L:List Blk
 T:List Blk
 xs:Env
theorem ZRw {α:Type} {l:List α} {k:Nat} {x:α} (h:l[k]?=some x):l.take (k+1)=l.take k++[x]:=by
 rw [List.take_add_one,h];rfl
theorem ZZo {A0 A:List (Bool × List Blk)} {L0 L T:List Blk} {lv ic li ver k0 la b:Nat} {r:Ro} {b0:List Blk} {es:List AV} {vis at_:Int} {N:ZP} {s:List UInt8} {xs:Env} (H:Cl ⟨A0,false,L0⟩ [(lv,ic),(lv,li)] b0)
 (hst:(⟨A,false,L⟩:St)=Zz ⟨A0,false,L0⟩ [(lv,ic),(lv,li)] (JA (.ptr la (b+5) 0 0 0) r lv li ver k0 es vis at_)) (hla:la<=lv) (hR:RdO ⟨A0,false,L0⟩ la (b+5) N [(lv,ic),(lv,li)]) (hN:GoodN N)
 {rt:CLv} {n:Nat} (hrt:CLvOk N s rt) (hn:rt.n=n) (hn16:n<=16) {a:Int} (h0:rt.f<=a) (h1:a<rt.t) (hs:s.length<=100000) (hk0:1<=k0/\k0<=n+1) (hv:0<=vis/\vis<900000000) (hke:k0<=es.length) (hes:es.take k0=((Qf N a n rt).take k0).map (CLv.av N)) {kf:List Fr} {Q:Jp}
 (hQ:∀ A2 L2 T2 ver2 es2,(⟨A2,false,L2⟩:St)=Zz ⟨A0,false,L0⟩ [(lv,ic),(lv,li)] (JA (.ptr la (b+5) 0 0 0) r lv li ver2 (n+1) es2 (vis+((n+1-k0:Nat):Int)) at_)->n+1<=es2.length->es2.take (n+1)=(Qf N a n rt).map (CLv.av N) ->
  Rk (S Tb) kf Q .ret [(4,.int .i64 0)] ⟨A2,false,L2++T2⟩) :
 Ru (S Tb) p_cursor_path_enter_27.loop (.blk 2::kf) Q ((0,.ptr lv ic 0 0 0)::(1,.int .i64 a)::xs) ⟨A,false,L++T⟩:=by
 have hpl:=ZFF N a n rt
 refine Z2 (α:=EnS) (fun q=>(0,.ptr lv ic 0 0 0)::(1,.int .i64 a)::q.xs) (fun q=>⟨q.A,false,q.L++q.T⟩)
  (fun q=>(⟨q.A,false,q.L⟩:St)=Zz ⟨A0,false,L0⟩ [(lv,ic),(lv,li)] (JA (.ptr la (b+5) 0 0 0) r lv li q.ver q.k q.es (vis+((q.k-k0:Nat):Int)) at_)/\k0<=q.k/\q.k<=n+1/\q.k<=q.es.length/\q.es.take q.k=((Qf N a n rt).take q.k).map (CLv.av N)) (fun q=>n+1-q.k) ⟨k0,ver,es,A,L,T,xs⟩ rfl rfl ⟨by simp only [Nat.sub_self];rw [hst];simp,Nat.le_refl _,hk0.2,hke,hes⟩ ?_
 clear hst hes hke
 rintro ⟨k,ver,es,A,L,T,xs⟩ ⟨hst,hk1,hk2,hke,hes⟩
 simp only at hst hk1 hk2 hke hes ⊢
 obtain ⟨l,hl⟩:∃ l,(Qf N a n rt)[k-1]?=some l:=⟨_,jE (by rw [hpl];omega)⟩
 obtain ⟨p1,p2,p3,p4,p5,p6⟩:=ZDQ hN n rt hn hrt h0 h1 (k-1) l hl;have hll:=p1.len hN
 have hel:es[0+(((k:Nat):Int)-1).toNat]?=some (CLv.av N l):=by
  rw [show 0+(((k:Nat):Int)-1).toNat=k-1 by omega]
  have e1:(es.take k)[k-1]?=es[k-1]?:=List.getElem?_take_of_lt (by omega)
  rw [<- e1,hes,jG,List.getElem?_take_of_lt (by omega),hl];rfl
 have hc:=Znk H hst rfl rfl (j:=0) rfl rfl;have hlv:=Znk H hst rfl rfl (j:=1) rfl rfl
 have hwi:∀ T,wIs 5 ver (St.get ⟨A,false,L++T⟩ lv li)=true:=fun T=>by rw [hlv T];simp [wIs]
 have hasc:∀ c:List Blk,L++T++c=L++(T++c):=fun c=>List.append_assoc ..
 have hvis:0<=vis+((k-k0:Nat):Int)/\vis+((k-k0:Nat):Int)<1000000000:=by omega
 cases hln:l.n with
 | zero =>
  have hkn:k=n+1:=by omega
  subst hkn
  have hfull:es.take (n+1)=(Qf N a n rt).map (CLv.av N):=by
   rw [hes,List.take_of_length_le (by rw [hpl];exact Nat.le_refl _)]
  have hav:CLv.av N l=.agg [.int .i64 ((0:Nat):Int),.str (QT N l.o).text,.lit ((QT N l.o).ks.map Kid.av),.int .i64 l.f,.int .i64 l.t]:=by
   unfold CLv.av;rw [hln]
  rw [hav] at hel;have hq:=hQ A L (T++[.arr 5 0 [.agg [.int .i64 ((0:Nat):Int),.str (QT N l.o).text,.lit ((QT N l.o).ks.map Kid.av),.int .i64 l.f,.int .i64 l.t]]]) ver es hst hke hfull;rw [<- hasc] at hq;unfold JW at hc
  repeat' (first|exact hq|refine Z0 rfl (hc _) rfl rfl ?_|refine XF rfl rfl (by omega) (hwi _) ?_|refine Z0 rfl (hlv _) hel rfl ?_|refine ZE ?_|refine ZD ?_|refine ZH rfl ?_|refine ZJ rfl rfl ?_|refine ZB rfl ?_|refine ZC ?_|refine Zc rfl rfl ?_|refine Ql rfl ?_|refine QW rfl rfl rfl ?_|(refine Ze rfl rfl (fun _=>?_) (fun _=>?_)<;>try (exfalso;omega))|refine ZS rfl ?_|refine QZ rfl rfl (by omega) ?_|refine Zu rfl rfl rfl ?_|refine Q6 rfl rfl rfl rfl rfl rfl ?_|refine ZO ?_|refine ZQ ?_|refine ZW ?_|refine Qc ?_|refine ZAc ?_)
  all_goals try contradiction
  all_goals try (exfalso;omega)
 | succ n' =>
  have hav:CLv.av N l=.agg [.int .i64 ((n'+1:Nat):Int),.str (QT N l.o).text,.lit ((QT N l.o).ks.map Kid.av),.int .i64 l.f,.int .i64 l.t]:=by
   unfold CLv.av;rw [hln]
  rw [hav] at hel
  have hnext:=ZZl N a n rt (k-1) l (by omega) hl
  rw [show k-1+1=k by omega] at hnext
  have hck:=fun (T:List Blk) (kf:List Fr) (Q:Jp)=>Zns (T:=T) (k:=kf) (Q:=Q) H hst hke (by omega) hvis hla hR hN p1 hln p3 p4 hs
  have hgo:∀ A2 L2 T2 (x:Nat × AV),(⟨A2,false,L2⟩:St)=Zz ⟨A0,false,L0⟩ [(lv,ic),(lv,li)] (JA (.ptr la (b+5) 0 0 0) r lv li (ver+1) (k+1) (es.take k++[CLv.av N (l.down N a)]) (vis+((k-k0:Nat):Int)+1) at_) ->
   ∃ q:EnS,((0,AV.ptr lv ic 0 0 0)::(1,AV.int .i64 a)::[x]=(0,AV.ptr lv ic 0 0 0)::(1,AV.int .i64 a)::q.xs/\(⟨A2,false,L2++T2⟩:St)=⟨q.A,false,q.L++q.T⟩) /\
    ((⟨q.A,false,q.L⟩:St)=Zz ⟨A0,false,L0⟩ [(lv,ic),(lv,li)] (JA (.ptr la (b+5) 0 0 0) r lv li q.ver q.k q.es (vis+((q.k-k0:Nat):Int)) at_)/\k0<=q.k/\q.k<=n+1/\q.k<=q.es.length/\q.es.take q.k=((Qf N a n rt).take q.k).map (CLv.av N))/\n+1-q.k<n+1-k:=by
   intro A2 L2 T2 x e2
   refine ⟨⟨k+1,ver+1,es.take k++[CLv.av N (l.down N a)],A2,L2,T2,[x]⟩,⟨rfl,rfl⟩,⟨?_,by simp only;omega,by simp only;omega,by simp only [lL,List.length_take,List.length_singleton];omega,?_⟩,by simp only;omega⟩
   ·simp only
    rw [e2,show vis+((k+1-k0:Nat):Int)=vis+((k-k0:Nat):Int)+1 by omega]
   ·simp only
    rw [List.take_of_length_le (by simp;omega),ZRw hnext,List.map_append,hes];rfl
  unfold JW at hc
  repeat' (first|refine Z0 rfl (hc _) rfl rfl ?_|refine XF rfl rfl (by omega) (hwi _) ?_|refine Z0 rfl (hlv _) hel rfl ?_|refine ZLd rfl ?_|refine ZE ?_|refine ZD ?_|refine ZH rfl ?_|refine ZJ rfl rfl ?_|refine ZB rfl ?_|refine ZC ?_|refine Zc rfl rfl ?_|refine Ql rfl ?_|refine QW rfl rfl rfl ?_|(refine Ze rfl rfl (fun _=>?_) (fun _=>?_)<;>try (exfalso;omega))|refine ZG rfl ?_|refine QZ rfl rfl (by omega) ?_|refine Zu rfl rfl rfl ?_|refine Q6 rfl rfl rfl rfl rfl rfl ?_|refine ZI ?_|refine ZQ ?_)
  all_goals try contradiction
  all_goals try (exfalso;omega)
  rw [hasc]
  refine hck _ _ _ (fun A2 L2 T2 e2=>?_)
  have hg2:=fun x=>hgo A2 L2 T2 x e2
  repeat' (first|exact hg2 _|refine ZE ?_|refine ZD ?_|refine ZH rfl ?_|refine ZB rfl ?_|refine ZC ?_|refine ZG rfl ?_|refine Yd rfl rfl ?_|refine ZI ?_|refine QF ?_|refine QG ?_)
  all_goals try contradiction
def EnQ (A0:List (Bool × List Blk)) (L0:List Blk) (lv ic li la b:Nat) (r:Ro) (N:ZP) (n:Nat) (rt:CLv) (a vis at_:Int) (v:AV) (st':St):Prop :=
 v=.int .i64 0/\∃ A2 L2 T2 ver es,st'=⟨A2,false,L2++T2⟩/\(⟨A2,false,L2⟩:St)=Zz ⟨A0,false,L0⟩ [(lv,ic),(lv,li)] (JA (.ptr la (b+5) 0 0 0) r lv li ver (n+1) es vis at_)/\n+1<=es.length/\es.take (n+1)=(Qf N a n rt).map (CLv.av N)
theorem ZkM {A0:List (Bool × List Blk)} {L0:List Blk} {lv ic li ver la b:Nat} {r:Ro} {es:List AV} {vis at_:Int} {N:ZP} {s:List UInt8} {rt:CLv} {n:Nat} {p a:Int} (H:Cl ⟨A0,false,L0⟩ [(lv,ic),(lv,li)] (JA (.ptr la (b+5) 0 0 0) r lv li ver (n+1) es vis at_))
 (hla:la<=lv) (hR:RdO ⟨A0,false,L0⟩ la (b+5) N [(lv,ic),(lv,li)]) (hN:GoodN N) (hrt:CLvOk N s rt) (hn:rt.n=n) (hn16:n<=16) (hp0:rt.f<=p) (hp1:p<rt.t) (h0:rt.f<=a) (h1:a<rt.t) (hs:s.length<=100000) (hv:0<=vis/\vis<800000000)
 (hke:n+1<=es.length) (hes:es.take (n+1)=(Qf N p n rt).map (CLv.av N)) :
 Sp Tb Qb [.ptr lv ic 0 0 0,.int .i64 a] ⟨A0,false,L0⟩ (EnQ A0 L0 lv ic li la b r N n rt a (vis+((n+1-cmL N p a n rt:Nat):Int)) at_):=by
 refine ZVX (rfl:Tb Qb=some (.pf J8)) ?_;have hcm:=ZRv N p a n rt;have hpl:=ZFF N p n rt
 have hcl:∀ k,cmL N p a n rt<=k->k<=n+1->k<=es.length:=fun k _ h=>by omega
 have hst0:(⟨A0,false,L0⟩:St)=Zz ⟨A0,false,L0⟩ [(lv,ic),(lv,li)] (JA (.ptr la (b+5) 0 0 0) r lv li ver (n+1) es vis at_):=H.same.symm
 have e00:(⟨A0,false,L0⟩:St)=⟨A0,false,L0++[]⟩:=by rw [lN]
 rw [e00]
 repeat' (first|refine ZE ?_|refine ZD ?_|refine ZH rfl ?_|refine ZB rfl ?_|refine ZC ?_|refine ZQ ?_)
 refine Z2 (α:=Nat × List (Bool × List Blk) × List Blk × List Blk) (fun q=>[(0,.ptr lv ic 0 0 0),(1,.int .i64 a)]) (fun q=>⟨q.2.1,false,q.2.2.1++q.2.2.2⟩)
  (fun q=>(⟨q.2.1,false,q.2.2.1⟩:St)=Zz ⟨A0,false,L0⟩ [(lv,ic),(lv,li)] (JA (.ptr la (b+5) 0 0 0) r lv li ver q.1 es vis at_)/\cmL N p a n rt<=q.1/\q.1<=n+1) (fun q=>q.1) (n+1,A0,L0,[]) rfl rfl ⟨hst0,hcm.2,Nat.le_refl _⟩ ?_
 clear hst0 e00
 rintro ⟨k,A,L,T⟩ ⟨hst,hk1,hk2⟩
 simp only at hst hk1 hk2 ⊢
 obtain ⟨l,hl⟩:∃ l,(Qf N p n rt)[k-1]?=some l:=⟨_,jE (by rw [hpl];omega)⟩
 obtain ⟨p1,p2,p3,p4,p5,p6⟩:=ZDQ hN n rt hn hrt hp0 hp1 (k-1) l hl;have hll:=p1.len hN
 have hel:es[0+(((k:Nat):Int)-1).toNat]?=some (CLv.av N l):=by
  rw [show 0+(((k:Nat):Int)-1).toNat=k-1 by omega]
  have e1:(es.take (n+1))[k-1]?=es[k-1]?:=List.getElem?_take_of_lt (by omega)
  rw [<- e1,hes,jG,hl];rfl
 have hc:=Znk H hst rfl rfl (j:=0) rfl rfl;have hlv:=Znk H hst rfl rfl (j:=1) rfl rfl
 have hwi:∀ T,wIs 5 ver (St.get ⟨A,false,L++T⟩ lv li)=true:=fun T=>by rw [hlv T];simp [wIs]
 have hasc:∀ c:List Blk,L++T++c=L++(T++c):=fun c=>List.append_assoc ..
 have hin:(l.f<=a/\a<l.t)↔k=cmL N p a n rt:=by
  constructor
  ·intro q
   rcases Nat.lt_or_ge (k-1) (cmL N p a n rt) with w|w
   ·omega
   ·exact absurd q (ZkJ hN n rt hn hrt hp0 hp1 h0 h1 (k-1) l hl w)
  ·intro q
   have e1:((Qf N p n rt).take (cmL N p a n rt))[k-1]?=some l:=by rw [List.getElem?_take_of_lt (by omega)];exact hl
   rw [ZZm,List.getElem?_take_of_lt (by omega)] at e1
   obtain ⟨_,_,w1,w2,_⟩:=ZDQ hN n rt hn hrt h0 h1 (k-1) l e1;exact ⟨w1,w2⟩
 have hav:CLv.av N l=.agg [.int .i64 l.n,.str (QT N l.o).text,.lit ((QT N l.o).ks.map Kid.av),.int .i64 l.f,.int .i64 l.t]:=rfl;rw [hav] at hel
 by_cases hka:k=cmL N p a n rt
 ·have hq:=hin.2 hka
  have htail:=fun (T:List Blk) (xs:Env) (kf:List Fr) (Q:Jp)=>ZZo (T:=T) (xs:=xs) (kf:=kf) (Q:=Q) H hst hla hR hN hrt hn hn16 h0 h1 hs (by omega) (by omega) (hcl k hk1 hk2) (by
   rw [hka]
   have e1:es.take (cmL N p a n rt)=(es.take (n+1)).take (cmL N p a n rt):=by rw [List.take_take,Nat.min_eq_left hcm.2]
   rw [e1,hes,<- List.map_take,ZZm])
  rw [hka] at htail;have hq0:=hq.1;have hq1:=hq.2;unfold JW at hc
  have hc':=fun c:List Blk=>(congrArg (fun X=>St.get ⟨A,false,X⟩ lv ic) (hasc c)).trans (hc (T++c))
  repeat' (first|refine Z0 rfl (hc _) rfl rfl ?_|refine Z0 rfl (hc' _) rfl rfl ?_|refine XF rfl rfl (by omega) (hwi _) ?_|refine Z0 rfl (hlv _) hel rfl ?_|refine ZE ?_|refine ZD ?_|refine ZH rfl ?_|refine ZJ rfl rfl ?_|refine QB rfl ?_|refine Zi rfl rfl rfl rfl ?_|refine ZB rfl ?_|refine ZC ?_|refine Zc rfl rfl ?_|refine Ql rfl ?_|refine QW rfl rfl rfl ?_|(refine Zj rfl rfl (fun _=>?_) (fun _=>?_)<;>try (exfalso;omega))|(refine QH rfl rfl (fun _=>?_) (fun _=>?_)<;>try (exfalso;omega))|(refine Jt rfl rfl (fun _=>?_) (fun _=>?_)<;>try (exfalso;omega))|(refine Ze rfl rfl (fun _=>?_) (fun _=>?_)<;>try (exfalso;omega))|refine ZS rfl ?_|refine ZG rfl ?_|refine QZ rfl rfl (by omega) ?_|refine Zu rfl rfl rfl ?_|refine Q6 rfl rfl rfl rfl rfl rfl ?_|refine ZI ?_|refine Zy ?_|refine ZQ ?_|refine Zk ?_|refine Zf rfl ?_|refine ZPX rfl ?_|refine Zw ?_)
  all_goals try contradiction
  all_goals try (exfalso;omega)
  rw [hasc]
  refine htail _ _ _ _ (fun A2 L2 T2 ver2 es2 e2 f2 f3=>?_)
  repeat' (refine ZL ?_)
  exact ⟨_,_,JY (.inr rfl) rfl rfl rfl rfl,rfl,A2,L2,T2,ver2,es2,rfl,e2,f2,f3⟩
 ·have hq:¬ (l.f<=a/\a<l.t):=fun w=>hka (hin.1 w)
  have hcE:∀ A2 L2 T2,(⟨A2,false,L2⟩:St)=Zz ⟨A0,false,L0⟩ [(lv,ic),(lv,li)] ((JA (.ptr la (b+5) 0 0 0) r lv li ver k es vis at_).set 0 (.arr 9 0 ([AV.agg [.ptr la (b+5) 0 0 0,.int .u64 r.at_,.int .i64 r.h,.int .i64 r.m.b,.int .i64 r.m.r,.int .i64 r.m.l,.ref lv li ver 0 k,.int .i64 vis,.int .i64 at_]].set 0 (.agg [.ptr la (b+5) 0 0 0,.int .u64 r.at_,.int .i64 r.h,.int .i64 r.m.b,.int .i64 r.m.r,.int .i64 r.m.l,.ref lv li ver 0 (k-1),.int .i64 vis,.int .i64 at_])))) ->
   ∃ q:Nat × List (Bool × List Blk) × List Blk × List Blk,(([(0,AV.ptr lv ic 0 0 0),(1,AV.int .i64 a)]:Env)=[(0,.ptr lv ic 0 0 0),(1,.int .i64 a)]/\(⟨A2,false,L2++T2⟩:St)=⟨q.2.1,false,q.2.2.1++q.2.2.2⟩) /\
   ((⟨q.2.1,false,q.2.2.1⟩:St)=Zz ⟨A0,false,L0⟩ [(lv,ic),(lv,li)] (JA (.ptr la (b+5) 0 0 0) r lv li ver q.1 es vis at_)/\cmL N p a n rt<=q.1/\q.1<=n+1)/\q.1<k:=fun A2 L2 T2 e2=>⟨(k-1,A2,L2,T2),⟨rfl,rfl⟩,⟨e2,by simp only;omega,by simp only;omega⟩,by show k-1<k;omega⟩
  unfold JW at hc
  have hslc:(((k:Nat):Int)-1).toNat=k-1:=by omega
  have hc':=fun c:List Blk=>(congrArg (fun X=>St.get ⟨A,false,X⟩ lv ic) (hasc c)).trans (hc (T++c))
  have hwi':∀ c:List Blk,wIs 5 ver (St.get ⟨A,false,L++T++c⟩ lv li)=true:=fun c=>by rw [hasc];exact hwi _
  repeat' (first|refine Z0 rfl (hc _) rfl rfl ?_|refine Z0 rfl (hc' _) rfl rfl ?_|refine XF rfl rfl (by omega) (hwi _) ?_|refine Z0 rfl (hlv _) hel rfl ?_|refine ZFV rfl rfl (by omega) (hwi' _) ?_|refine ZE ?_|refine ZD ?_|refine ZH rfl ?_|refine ZJ rfl rfl ?_|refine QB rfl ?_|refine Jg rfl rfl ?_|refine Zi rfl rfl rfl rfl ?_|refine ZB rfl ?_|refine ZC ?_|refine Zc rfl rfl ?_|refine Ql rfl ?_|refine QW rfl rfl rfl ?_|(refine Zj rfl rfl (fun _=>?_) (fun _=>?_)<;>try (exfalso;omega))|(refine QH rfl rfl (fun _=>?_) (fun _=>?_)<;>try (exfalso;omega))|(refine Jt rfl rfl (fun _=>?_) (fun _=>?_)<;>try (exfalso;omega))|refine ZS rfl ?_|refine ZG rfl ?_|refine QZ rfl rfl (by omega) ?_|refine Zu rfl rfl rfl ?_|refine Q6 rfl rfl rfl rfl rfl rfl ?_|refine ZI ?_|refine ZQ ?_)
  all_goals try contradiction
  all_goals try (exfalso;omega)
  all_goals rw [hasc]
  all_goals refine ZjC (j:=0) H hst rfl rfl rfl rfl rfl rfl rfl (JN _ (Nat.lt_succ_self _)) rfl (fun A2 L2 e2 _ _=>?_)
  all_goals rw [hslc] at e2
  all_goals repeat' (first|refine ZB rfl ?_|refine QF ?_|refine QG ?_)
  all_goals exact hcE A2 L2 _ e2
theorem Znt {st:St} {la b:Nat} {N:ZP} (hN:GoodN N) (hR:Rd st la (b+5) N) {r:Ro} {s:List UInt8} (h:Rt N r s) (hs:s.length<=100000):S Tb ZCZ [.ptr la (b+5) 0 0 0,r.av] st=some (.int .i64 0,st):=by
 refine QD rfl (fun A hA=>?_)
 obtain ⟨t,hB⟩:∃ t,∀ L,S Tb YW [.ptr la (b+5) 0 0 0,r.av,.int .i64 0] ⟨A,false,L⟩=some (.tup [.bool t,.int .i64 0],⟨A,false,L⟩):=by
  match s,h with
  | [],h=>exact ⟨true,fun L=>Zfp hN (hR.push hA) h (by simp)⟩
  | c::s,h=>exact ⟨_,fun L=>ZjE hN (hR.push hA) h (i:=0) (c:=c) rfl hs⟩
 unfold Ro.av at *
 repeat' (first|refine ZE ?_|refine ZD ?_|refine ZH rfl ?_|refine ZU rfl rfl rfl rfl ?_|refine Zr rfl rfl ?_|refine ZB rfl ?_|refine ZC ?_|refine Zh rfl rfl rfl ?_|refine ZA rfl rfl rfl (hB _) ?_|refine ZO ?_|refine ZL ?_)
 all_goals refine ZZ hA (by first|exact .inl rfl|exact .inr rfl) rfl rfl rfl rfl ?_
 all_goals rfl
def Qi (r:Ro):CLv:=⟨r.h,r.at_,0,r.m.b⟩
theorem Rt.lv {N:ZP} (hN:GoodN N) {r:Ro} {s:List UInt8} (h:Rt N r s) (h0:r.at_≠0):CLvOk N s (Qi r)/\(Qi r).t=s.length/\0<s.length:=by
 obtain ⟨hb1,hb2⟩:=h.b hN
 rcases h.rt with e|⟨_,x,x1,x2,x3,x4⟩
 ·rw [e] at h0;exact absurd rfl h0
 refine ⟨⟨⟨x,x1,x3,by rw [x4];show _=r.m.b-0;omega⟩,[],[],?_,rfl⟩,hb2,?_⟩
 ·have:=h.tx
  unfold ZFA at this;rw [if_neg h0] at this
  simp [Qi,this]
 ·have hp : 0 < x.mea.b := by
   rcases x2 with q|⟨n,ks,q⟩
   ·unfold Nd.mea;rw [if_pos q.h];have:=q.lo;show 0<((x.text.length:Nat):Int);omega
   ·have e:=q.eq;subst e
    unfold Nd.mea
    rw [if_neg (by simp)]
    have h1:∀ k∈ks,0<k.m.b:=fun k hk=>by
     have:=(q.kid k hk).lo
     have h2:1<=leastB n:=by unfold leastB;exact Nat.le_trans (by decide) (Nat.mul_le_mul_left 8 Nat.one_le_two_pow)
     omega
    have key:∀ (l:List Kid),(∀ k∈l,0<k.m.b)->0<=(Z7 (l.map Kid.m)).b:=by
     intro l
     induction l with
     | nil=>intro _;exact Int.le_of_eq comp_b.zero.symm
     | cons y m ih2 =>
      intro hq;rw [jC,Z7,comp_b.add]
      have:=ih2 (fun q hq2=>hq q (List.mem_cons_of_mem _ hq2))
      have:=hq y (by simp)
      omega
    match ks,q.lo,h1 with
    | k::l,_,h1 =>
     show 0<(Z7 ((k::l).map Kid.m)).b
     rw [jC,Z7,comp_b.add]
     have:=key l (fun z hz=>h1 z (List.mem_cons_of_mem _ hz))
     have:=h1 k (by simp)
     omega
  rw [x4,hb2] at hp;omega
theorem Zhi:∀ {ks:List (Nat × Nat)} {A:List (Bool × List Blk)} {L:List Blk} {bs:List Blk},(∀ k∈ks,k.1=A.length)->(Zz ⟨A,false,L⟩ ks bs).A=A
 | [],_,_,_,_=>by cases ‹List Blk›<;>rfl
 | _::_,_,_,[],_=>rfl
 | k::ks,A,L,b::bs,h=>by
  rw [Zz]
  have e:St.upd ⟨A,false,L⟩ k.1 k.2 b=⟨A,false,L.set k.2 b⟩:=by
   unfold St.upd
   rw [if_pos (h k (by simp))]
  rw [e]
  exact Zhi (fun q hq=>h q (by simp [hq]))
theorem Zlb {ks:List (Nat × Nat)}:∀ {A:List (Bool × List Blk)} {L:List Blk} {bs:List Blk},(∀ k∈ks,k.1=A.length)->∀ i,(A.length,i)∉ks->(Zz ⟨A,false,L⟩ ks bs).L[i]?=L[i]?:=by
 induction ks with
 | nil=>intro A L bs _ i _;cases bs<;>rfl
 | cons k ks ih =>
  intro A L bs h i hi
  cases bs with
  | nil=>rfl
  | cons b bs =>
   rw [Zz]
   have hk:=h k (by simp)
   have e:St.upd ⟨A,false,L⟩ k.1 k.2 b=⟨A,false,L.set k.2 b⟩:=by
    unfold St.upd;rw [if_pos hk]
   simp only [List.mem_cons,not_or] at hi
   rw [e,ih (fun q hq=>h q (by simp [hq])) i hi.2,jS]
   intro q
   exact hi.1 (by rw [<- hk,<- q])
theorem Zlc {A:List (Bool × List Blk)} {L:List Blk} {ic la b:Nat} {r:Ro} {N:ZP} {s:List UInt8} (hN:GoodN N) (h:Rt N r s) (h0:r.at_≠0) (hs:s.length<=100000) (hc:L[ic]?=some (JW (.ptr la (b+5) 0 0 0) r .nils 0 0)) (hla:la<=A.length)
 (hR:∃ a0 a1 im a3 a4 a5,St.get ⟨A,false,L⟩ la (b+5)=some (.arr 6 0 [.agg [a0,a1,.map la im,a3,a4,a5]])/\St.get ⟨A,false,L⟩ la im=some (.map (N.map nodeAV))) :
 Sp Tb Qb [.ptr A.length ic 0 0 0,.int .i64 0] ⟨A,false,L⟩ (fun v st'=>v=.int .i64 0/\∃ X ver es,st'=⟨A,false,X⟩/\Cl ⟨A,false,X⟩ [(A.length,ic),(A.length,L.length+1)] (JA (.ptr la (b+5) 0 0 0) r A.length (L.length+1) ver (r.h+1) es ((r.h+1:Nat):Int) 0) /\
  r.h+1<=es.length/\es.take (r.h+1)=(Qf N 0 r.h (Qi r)).map (CLv.av N)/\L.length<=X.length/\∀ i,i<L.length->i≠ic->X[i]?=L[i]?):=by
 refine ZVX (rfl:Tb Qb=some (.pf J8)) ?_;obtain ⟨hlv,ht,hpos⟩:=h.lv hN h0;have hh:=h.rt.h13 hN;obtain ⟨⟨x,x1,x2,x3⟩,_⟩:=id hlv;have hx1:lk N r.at_=some x:=x1;have hx2:x.h=r.h:=x2;have hxl:x.ks.length<=4:=((hN _ x x1).1).len
 have hRd:Rd ⟨A,false,L⟩ la (b+5) N:=by
  obtain ⟨a0,a1,im,a3,a4,a5,g1,g2⟩:=hR;exact ⟨a0,a1,im,a3,a4,a5,g1,g2⟩
 have hic:=(List.getElem?_eq_some_iff.1 hc).1
 obtain ⟨bx,hV⟩:=Zla hc (by decide) hRd hx1 hxl 0 r.m.b
 rw [hx2] at hV
 -- the store behind the first visit
 generalize hL1:(L++[bx,.arr 5 0 [CLv.av N ⟨r.h,r.at_,0,r.m.b⟩]]).set ic (JW (.ptr la (b+5) 0 0 0) r (.ref A.length (L.length+1) 0 0 1) (0+1) 0)=L1 at hV
 have hl1:L1.length=L.length+2:=by rw [<- hL1];simp
 have g0:L1[ic]?=some (JW (.ptr la (b+5) 0 0 0) r (.ref A.length (L.length+1) 0 0 1) (0+1) 0):=by rw [<- hL1];exact List.getElem?_set_self (by simp;omega)
 have g1:L1[L.length+1]?=some (.arr 5 0 [CLv.av N (Qi r)]):=by
  rw [<- hL1,jS (by omega),List.getElem?_append_right (by omega),show L.length+1-L.length=1 by omega];rfl
 have gst:∀ i,i<L.length->i≠ic->L1[i]?=L[i]?:=fun i hi hn=>by
  rw [<- hL1,jS (fun q=>hn q.symm),jL hi]
 have H:Cl ⟨A,false,L1⟩ [(A.length,ic),(A.length,L.length+1)] (JA (.ptr la (b+5) 0 0 0) r A.length (L.length+1) 0 1 [CLv.av N (Qi r)] 1 0):=by
  refine ⟨by simp;omega,rfl,fun k hk=>?_,fun j lv ix c q1 q2=>?_⟩
  ·simp only [List.mem_cons,List.not_mem_nil,or_false] at hk
   rcases hk with rfl|rfl<;>simp [St.wr]
  ·match j,q1,q2 with
   | 0,q1,q2=>obtain ⟨rfl,rfl⟩:=Prod.mk.inj (Option.some.inj q1);obtain rfl:=Option.some.inj q2;rw [St.get_cur,g0];rfl
   | 1,q1,q2=>obtain ⟨rfl,rfl⟩:=Prod.mk.inj (Option.some.inj q1);obtain rfl:=Option.some.inj q2;rw [St.get_cur,g1];rfl
   | n+2,q1,q2=>simp at q1
 have hget:∀ lv ix c,St.get ⟨A,false,L⟩ lv ix=some c->¬ (lv=A.length/\ix=ic)->St.get ⟨A,false,L1⟩ lv ix=some c/\¬ (lv=A.length/\ix=L.length+1):=by
  intro lv ix c q hn;rw [St.get] at q ⊢
  simp only at q ⊢
  by_cases w:lv=A.length
  ·rw [if_pos w] at q ⊢
   have hlt:=ZFY q
   rw [gst ix hlt (fun e=>hn ⟨w,e⟩)]
   exact ⟨q,fun e=>by omega⟩
  ·rw [if_neg w] at q ⊢
   exact ⟨q,fun e=>w e.1⟩
 have hRO:RdO ⟨A,false,L1⟩ la (b+5) N [(A.length,ic),(A.length,L.length+1)]:=by
  obtain ⟨a0,a1,im,a3,a4,a5,q1,q2⟩:=hR
  have n1:¬ (la=A.length/\b+5=ic):=by
   rintro ⟨rfl,rfl⟩
   rw [St.get_cur,hc] at q1
   simp [JW,vis] at q1
  have n2:¬ (la=A.length/\im=ic):=by
   rintro ⟨rfl,rfl⟩
   rw [St.get_cur,hc] at q2
   simp [JW,vis] at q2
  obtain ⟨w1,w2⟩:=hget _ _ _ q1 n1;obtain ⟨w3,w4⟩:=hget _ _ _ q2 n2
  exact ⟨a0,a1,im,a3,a4,a5,w1,w3,by simp only [List.mem_cons,jP,List.not_mem_nil,or_false,not_or];exact ⟨n1,w2⟩,by simp only [List.mem_cons,jP,List.not_mem_nil,or_false,not_or];exact ⟨n2,w4⟩⟩
 have hpl:=ZFF N 0 r.h (Qi r);have hp0:=ZkI N 0 r.h (Qi r)
 have e00:(⟨A,false,L1⟩:St)=⟨A,false,L1++[]⟩:=by rw [lN]
 have htail:=fun (xs:Env) (kf:List Fr) (Q:Jp)=>ZZo (n:=r.h) (T:=[]) (xs:=xs) (kf:=kf) (Q:=Q) H H.same.symm hla hRO hN hlv rfl (by show r.h<=16;omega) (a:=0) (by show (0:Int)<=0;omega) (by rw [ht];omega) hs ⟨Nat.le_refl _,by omega⟩ (by decide) (Nat.le_refl _) (by
  rw [show (1:Nat)=0+1 from rfl,ZRw hp0];rfl)
 have hc':=hc;unfold JW at hc g0;rw [e00] at hV
 repeat' (first|refine ZE ?_|refine ZD ?_|refine ZH rfl ?_|refine ZB rfl ?_|refine ZC ?_|refine ZQ ?_)
 refine Z2 (α:=Unit) (fun _=>[(0,.ptr A.length ic 0 0 0),(1,.int .i64 0)]) (fun _=>⟨A,false,L⟩) (fun _=>True) (fun _=>0) () rfl rfl trivial ?_
 intro _ _
 repeat' (first|refine ZU rfl hc rfl rfl ?_|refine htail _ _ _ (fun A2 L2 T2 ver2 es2 e2 f2 f3=>?_)|refine ZE ?_|refine ZD ?_|refine ZH rfl ?_|refine ZJ rfl rfl ?_|refine ZB rfl ?_|refine ZC ?_|refine Zc rfl rfl ?_|refine J4 rfl ?_|(refine QH rfl rfl (fun _=>?_) (fun _=>?_)<;>try (exfalso;omega))|(refine Ze rfl rfl (fun _=>?_) (fun _=>?_)<;>try (exfalso;omega))|(refine Zd rfl rfl (fun _=>?_) (fun _=>?_)<;>try (exfalso;omega))|refine ZS rfl ?_|refine ZG rfl ?_|refine ZA rfl rfl rfl (hV) ?_|refine ZI ?_|refine Zy ?_|refine ZQ ?_|refine ZL ?_|refine Zk ?_|refine Zf rfl ?_|refine Zw ?_)
 all_goals try contradiction
 all_goals try (exfalso;omega)
 have eA:A2=A:=by
  have:=congrArg St.A e2
  rw [Zhi (by simp)] at this
  exact this
 subst eA
 have hstay:=Zlb (ks:=[(A2.length,ic),(A2.length,L.length+1)]) (A:=A2) (L:=L1) (bs:=JA (.ptr la (b+5) 0 0 0) r A2.length (L.length+1) ver2 (r.h+1) es2 (1+((r.h+1-1:Nat):Int)) 0) (by simp)
 rw [<- e2] at hstay;have hLL:=(ZPG e2).2
 refine ⟨_,_,JY (.inr rfl) rfl rfl rfl rfl,rfl,L2++T2,ver2,es2,rfl,?_,f2,f3,by rw [lL];omega,fun i hi hn=>?_⟩
 ·have:=(H.put (bs':=JA (.ptr la (b+5) 0 0 0) r A2.length (L.length+1) ver2 (r.h+1) es2 (1+((r.h+1-1:Nat):Int)) 0) rfl rfl)
  rw [<- e2] at this
  have:=Znr this T2
  rw [show (1:Int)+((r.h+1-1:Nat):Int)=((r.h+1:Nat):Int) by omega] at this
  exact this
 ·rw [jL (by omega),hstay i (by simp;omega),gst i hi hn]
theorem Zld {st:St} {lv ic li ver m:Nat} {ap:AV} {r:Ro} {es:List AV} {vis at_:Int} {N:ZP} {l:CLv} (h0:st.get lv ic=some (JW ap r (.ref lv li ver 0 m) vis at_)) (h1:st.get lv li=some (.arr 5 ver es)) (hm:1<=m/\m<1000) (hl:es[m-1]?=some (CLv.av N l)) :
 S Tb Xn [.ptr lv ic 0 0 0] st=some (.tup [.str (QT N l.o).text,.int .i64 l.f,.int .i64 l.t],st):=by
 refine QD rfl (fun A hA=>?_)
 have g0:=fun L=>ZV hA (ro:=false) (L:=L) h0
 have g1:=fun L=>ZV hA (ro:=false) (L:=L) h1
 have hel:es[0+(((m:Nat):Int)-1).toNat]?=some (CLv.av N l):=by
  rw [show 0+(((m:Nat):Int)-1).toNat=m-1 by omega];exact hl
 have hwi:∀ L,wIs 5 ver (St.get ⟨A,false,L⟩ lv li)=true:=fun L=>by rw [g1 L];simp [wIs]
 unfold JW at g0;unfold CLv.av at hel
 repeat' (first|refine Z0 rfl (g0 _) rfl rfl ?_|refine XF rfl rfl (by omega) (hwi _) ?_|refine Z0 rfl (g1 _) hel rfl ?_|refine ZE ?_|refine ZD ?_|refine ZH rfl ?_|refine ZJ rfl rfl ?_|refine ZU rfl rfl rfl rfl ?_|refine ZB rfl ?_|refine ZC ?_|refine Zc rfl rfl ?_|refine Ql rfl ?_|(refine Ze rfl rfl (fun _=>?_) (fun _=>?_)<;>try (exfalso;omega))|refine ZG rfl ?_|refine QZ rfl rfl (by omega) ?_|refine Zh rfl rfl rfl ?_|refine QC rfl rfl rfl rfl rfl rfl ?_|refine ZI ?_|refine ZO ?_|refine ZL ?_)
 all_goals try contradiction
 all_goals try (exfalso;omega)
 refine ZZ hA (by first|exact .inl rfl|exact .inr rfl) rfl rfl rfl rfl ?_
 rfl
theorem Znu {O:Orc} {k:List Fr} {Q:Jp} {e:Env} {A:List (Bool × List Blk)} {keep:List Nat} {is:List QAbs.PI} {d j w:Nat} {x:Opd} {v v':AV} (hx:Zb e x=some v) (hw:v.wide=some w) (hv:YA v=some v') (h:Is O is keep k Q ((d,.ptr A.length 0 0 0 0)::e) ⟨A,false,[Blk.arr w 0 [v']]⟩) :
 Is O (⟨some d,none,false,.w (.here j) (.box x)⟩::is) keep k Q e ⟨A,false,[Blk.hole j]⟩:=by
 rw [<- Yn hv] at h;refine Z5 (v:=.ptr A.length 0 0 0 0) (st':=⟨A,false,[Blk.arr w 0 [v]]⟩) ?_ h;simp only [Zg,QA,newOf,ZF hx,hw,oS,ZVj,Zf1,and_self,if_true,findH,ZVi];rfl
theorem ZCH {st:St} {lv ic la b:Nat} {r:Ro} {lev:AV} {vis at_:Int} {N:ZP} {s:List UInt8} (hN:GoodN N) (h:Rt N r s) (h0:st.get lv ic=some (JW (.ptr la (b+5) 0 0 0) r lev vis at_)) (hR:Rd st la (b+5) N) :
 S Tb Qn [.ptr lv ic 0 0 0] st=some (.int .i64 0,st):=by
 refine QD rfl (fun A hA=>?_)
 have g0:=fun L=>ZV hA (ro:=false) (L:=L) h0
 unfold JW at g0
 by_cases hz:r.at_=0
 ·have hzi:((r.at_:Nat):Int)=0:=by omega
  repeat' (first|refine Z0 rfl (g0 _) rfl rfl ?_|refine ZE ?_|refine ZD ?_|refine ZH rfl ?_|refine ZJ rfl rfl ?_|refine ZB rfl ?_|refine ZC ?_|refine Zc rfl rfl ?_|(refine Zd rfl rfl (fun _=>?_) (fun _=>?_)<;>try (exfalso;omega))|refine ZG rfl ?_|refine Qy rfl rfl rfl rfl ?_|refine ZI ?_|refine ZO ?_|refine ZL ?_)
  all_goals try contradiction
  all_goals refine ZZ hA (by first|exact .inl rfl|exact .inr rfl) rfl rfl rfl rfl ?_
  all_goals rfl
 ·have hzi:((r.at_:Nat):Int)≠0:=by omega
  obtain ⟨x,x1,x2,x3,x4⟩:∃ x,lk N r.at_=some x/\NdOk x/\x.h=r.h/\x.mea=r.m:=by
   rcases h.rt with rfl|w
   ·exact absurd rfl hz
   ·exact w.2
  have hG:=ZSO ((hR.push hA (ro:=false) (L:=[.hole 15])).push (st:=⟨A,false,[.hole 15]⟩) rfl (ro:=false) (L:=[])) x1 x2.len;have hcp:x.copy.av=.agg [.int .i64 x.h,.str x.text,.lit (x.ks.map Kid.av)]:=rfl;rw [hcp] at hG;have hI:Q0 (S Tb) .inner QV [.ptr la (b+5) 0 0 0,.int .u64 r.at_] ⟨A,false,[.hole 15]⟩=some (.tup [.agg [.int .i64 x.h,.str x.text,.lit (x.ks.map Kid.av)],.int .i64 0],⟨A,false,[.hole 15]⟩):=Zmr (st:=⟨A,false,[.hole 15]⟩) hG rfl
  repeat' (first|refine Z0 rfl (g0 _) rfl rfl ?_|refine ZE ?_|refine ZD ?_|refine ZH rfl ?_|refine ZJ rfl rfl ?_|refine ZB rfl ?_|refine ZC ?_|refine Zc rfl rfl ?_|(refine Zd rfl rfl (fun _=>?_) (fun _=>?_)<;>try (exfalso;omega))|refine ZS rfl ?_|refine ZG rfl ?_|refine Qy rfl rfl rfl rfl ?_|refine ZI ?_)
  all_goals try contradiction
  refine Zj6 ?_
  repeat' (first|refine Z0 rfl (g0 _) rfl rfl ?_|refine Zmq rfl rfl rfl hI ?_|refine Znu rfl rfl rfl ?_|refine ZE ?_|refine ZD ?_|refine ZH rfl ?_|refine ZJ rfl rfl ?_|refine Zr rfl rfl ?_|refine ZB rfl ?_|refine ZC ?_|refine Zc rfl rfl ?_|(refine Zd rfl rfl (fun _=>?_) (fun _=>?_)<;>try (exfalso;omega))|refine ZG rfl ?_|refine QC rfl rfl rfl rfl rfl rfl ?_|refine ZI ?_|refine ZO ?_|refine ZL ?_)
  all_goals try contradiction
  all_goals refine ZZ hA (by first|exact .inl rfl|exact .inr rfl) rfl rfl rfl rfl ?_
  all_goals rfl
theorem Zfq (l:List UInt8) (c:UInt8):Zv (l++[c])=Zv l++[.int .u8 c.toNat]:=by simp [Zv]
theorem ZrH {A:List (Bool × List Blk)} {T:List Blk} {v:Nat} {l:List UInt8} (hl:l.length<4000000000) (c:UInt8) :
 S Tb QE [.int .u8 c.toNat,.ptr A.length 1 0 0 0] ⟨A,false,.arr 1 v (Zv l)::.arr 1 0 [.ref A.length 0 v 0 l.length]::T⟩ =
  some (.tup [],⟨A,false,.arr 1 (v+1) (Zv (l++[c]))::.arr 1 0 [.ref A.length 0 (v+1) 0 (l.length+1)]::T⟩):=by
 have H:Cl ⟨A,false,.arr 1 v (Zv l)::.arr 1 0 [.ref A.length 0 v 0 l.length]::T⟩ [(A.length,0),(A.length,1)] [.arr 1 v (Zv l),.arr 1 0 [.ref A.length 0 v 0 l.length]]:=by
  refine ⟨by simp,rfl,fun k hk=>?_,fun j lv ix b q1 q2=>?_⟩
  ·simp only [List.mem_cons,List.not_mem_nil,or_false] at hk
   rcases hk with rfl|rfl<;>simp [St.wr]
  ·match j,q1,q2 with
   | 0,q1,q2=>obtain ⟨rfl,rfl⟩:=Prod.mk.inj (Option.some.inj q1);obtain rfl:=Option.some.inj q2;rw [St.get_cur];rfl
   | 1,q1,q2=>obtain ⟨rfl,rfl⟩:=Prod.mk.inj (Option.some.inj q1);obtain rfl:=Option.some.inj q2;rw [St.get_cur];rfl
   | n+2,q1,q2=>simp at q1
 have hlen:(Zv l).length=l.length:=by simp [Zv]
 have hfin:Zz ⟨A,false,.arr 1 v (Zv l)::.arr 1 0 [.ref A.length 0 v 0 l.length]::T⟩ [(A.length,0),(A.length,1)] [.arr 1 (v+1) (Zv (l++[c])),.arr 1 0 [.ref A.length 0 (v+1) 0 (l.length+1)]]=⟨A,false,.arr 1 (v+1) (Zv (l++[c]))::.arr 1 0 [.ref A.length 0 (v+1) 0 (l.length+1)]::T⟩:=by
  simp [Zz,St.upd]
 rw [<- hfin];have h0:=H.get 1 _ _ _ rfl rfl;rw [Zfq]
 generalize hst:(⟨A,false,.arr 1 v (Zv l)::.arr 1 0 [.ref A.length 0 v 0 l.length]::T⟩:St)=st at *
 generalize hn:A.length=nA at *
 have hnA:st.A.length=nA:=by rw [<- hst];exact hn
 refine ZAU rfl (fun B hB=>?_)
 have g0:=fun L=>ZV hB (ro:=false) (L:=L) h0
 have hs0:B=(Zz st [(nA,0),(nA,1)] [.arr 1 v (Zv l),.arr 1 0 [.ref nA 0 v 0 l.length]]).ps:=by rw [H.same];exact hB
 rw [<- hlen] at g0
 repeat' (first|refine Z0 rfl (g0 _) rfl rfl ?_|refine ZD ?_|refine ZH rfl ?_|refine JZ rfl rfl rfl rfl ?_)
 refine ZpT (j:=0) H hs0 rfl rfl rfl rfl rfl rfl rfl rfl rfl (by rw [hlen];simp;omega) (by decide) (fun B1 hB1 e1=>?_)
 refine ZZL (j:=1) H hB1 rfl rfl rfl rfl rfl rfl rfl (JN _ (Nat.lt_succ_self _)) rfl (fun B2 hB2 e2=>?_)
 rw [hlen] at hB2
 repeat' (first|refine ZB rfl ?_|refine ZL ?_)
 exact ZZ hB2 (.inl rfl) rfl rfl rfl rfl rfl
theorem ZjG:∀ h,1<=leastB h:=by
 intro h;unfold leastB
 have:∀ n,1<=2 ^ n:=fun n=>Nat.one_le_two_pow
 first|exact Nat.le_trans (by decide) (Nat.mul_le_mul_left 8 (this h))|(split<;>first|omega|exact Nat.le_trans (by decide) (Nat.mul_le_mul_left 8 (this _)))
theorem CLvOk.kids {N:ZP} (hN:GoodN N) {s:List UInt8} {l:CLv} {n:Nat} (h:CLvOk N s l) (hn:l.n=n+1):2<=(QT N l.o).ks.length/\(∀ k∈(QT N l.o).ks,0<k.m.b)/\Qg Mea.b (QT N l.o).ks (QT N l.o).ks.length=l.t-l.f:=by
 obtain ⟨⟨x,x1,x2,x3⟩,_⟩:=h
 have hm:x.mea=Z7 (x.ks.map Kid.m):=by unfold Nd.mea;rw [if_neg (by omega)]
 rw [Yi x1];have hx:=(hN l.o x x1).1;refine ⟨?_,?_,?_⟩
 ·rcases hx with q|⟨m,ks,q⟩
  ·have:=q.h;omega
  ·have e:=q.eq;subst e;exact q.lo
 ·rcases hx with q|⟨m,ks,q⟩
  ·have:=q.h;omega
  ·have e:=q.eq;subst e
   intro k hk;have h1:=(q.kid k hk).lo;have h2:=ZjG m;omega
 ·unfold Qg
  rw [List.take_length,<- hm];exact x3
theorem CLvOk.at {N:ZP} (hN:GoodN N) {s:List UInt8} {l:CLv} (h:CLvOk N s l) {i:Nat} {k:Kid} (hk:(QT N l.o).ks[i]?=some k) {a:Int} (h0:l.f+Qg Mea.b (QT N l.o).ks i<=a) (h1:a<l.f+Qg Mea.b (QT N l.o).ks i+k.m.b) :
 ZFE N l.o (a-l.f)=i/\l.down N a=⟨l.n-1,k.at_,l.f+Qg Mea.b (QT N l.o).ks i,l.f+Qg Mea.b (QT N l.o).ks i+k.m.b⟩:=by
 have e:ZFE N l.o (a-l.f)=i:=ZPF (h.fit hN) hk (by omega) (by omega)
 refine ⟨e,?_⟩;unfold CLv.down Xx Zcm ZLF;rw [e,hk];rfl
theorem Zfr {ks:List Kid} (h:∀ k∈ks,0<k.m.b) {i:Nat} (hi:i<=ks.length):0<=Qg Mea.b ks i/\Qg Mea.b ks i<=Qg Mea.b ks ks.length:=by
 have key:∀ (l:List Kid),(∀ k∈l,0<k.m.b)->0<=(Z7 (l.map Kid.m)).b:=by
  intro l
  induction l with
  | nil=>intro _;exact Int.le_of_eq comp_b.zero.symm
  | cons y m ih2 =>
   intro hq;rw [jC,Z7,comp_b.add]
   have:=ih2 (fun q hq2=>hq q (List.mem_cons_of_mem _ hq2))
   have:=hq y (by simp)
   omega
 refine ⟨key _ (fun k hk=>h k (List.mem_of_mem_take hk)),?_⟩
 unfold Qg;rw [List.take_length]
 have e:=congrArg (fun l=>(Z7 (l.map Kid.m)).b) (List.take_append_drop i ks)
 simp only [List.map_append,Xv,comp_b.add] at e
 have:=key _ (fun k hk=>h k (List.mem_of_mem_drop (i:=i) hk))
 omega
theorem Znv {l:List Kid} (h:∀ k∈l,0<k.m.b) (hl:0<l.length):0<(Z7 (l.map Kid.m)).b:=by
 match l,hl with
 | k::l,_ =>
  have h1:=Zfr (ks:=l) (fun z hz=>h z (List.mem_cons_of_mem _ hz)) (Nat.zero_le _)
  have h2:=h k (by simp)
  rw [jC,Z7,comp_b.add];unfold Qg at h1;rw [List.take_length] at h1
  have:(Z7 ((l.take 0).map Kid.m)).b=0:=comp_b.zero
  omega
theorem ZZp {N:ZP} (hN:GoodN N) {s:List UInt8}:∀ (n:Nat) (l:CLv),l.n=n->CLvOk N s l->ZFG N l.f n l=n+1
 | 0,_,_,_=>rfl
 | n+1,l,hn,h=>by
  obtain ⟨k1,k2,k3⟩:=h.kids hN hn
  obtain ⟨k,hk⟩:∃ k,(QT N l.o).ks[0]?=some k:=⟨_,jE (by omega)⟩
  have hkb:=k2 k (jM hk);have e0:Qg Mea.b (QT N l.o).ks 0=0:=comp_b.zero
  obtain ⟨e1,e2⟩:=h.at hN hk (a:=l.f) (by omega) (by omega)
  have hp:=Zfr k2 (Nat.le_refl _)
  have hpos:0<l.t-l.f:=by
   rw [<- k3];unfold Qg;rw [List.take_length];exact Znv k2 (by omega)
  obtain ⟨d1,_⟩:=h.down hN hn (a:=l.f) (by omega) (by omega)
  have ih:=ZZp hN n (l.down N l.f) (by show l.n-1=n;omega) d1
  have ef:(l.down N l.f).f=l.f:=by rw [e2,e0];simp
  rw [ZFG,e1];rw [ef] at ih;rw [ih]
  simp
  omega
theorem Zhj {N:ZP} {n:Nat} {ks:List Kid} {i:Nat} {k:Kid} (hk:ks[i]?=some k):((ks.take (i+1)).map fun k=>szN N n k.at_).sum=((ks.take i).map fun k=>szN N n k.at_).sum+szN N n k.at_:=by
 rw [Zn hk];simp
theorem Zdc {N:ZP} (hN:GoodN N) {s:List UInt8}:∀ (n:Nat) (l:CLv),l.n=n->CLvOk N s l->ZFG N (l.t-1) n l=szN N n l.o
 | 0,_,_,_=>rfl
 | n+1,l,hn,h=>by
  obtain ⟨k1,k2,k3⟩:=h.kids hN hn
  obtain ⟨m,hm⟩:∃ m,(QT N l.o).ks.length=m+1:=⟨_,(Nat.sub_add_cancel (by omega:1<=_)).symm⟩
  obtain ⟨k,hk⟩:∃ k,(QT N l.o).ks[m]?=some k:=⟨_,jE (by omega)⟩
  have hkb:=k2 k (jM hk);have hs:=ZKn comp_b hk;rw [<- hm,k3] at hs
  have h0:=(Zfr k2 (i:=m) (by omega)).1
  obtain ⟨e1,e2⟩:=h.at hN hk (a:=l.t-1) (by omega) (by omega)
  obtain ⟨d1,_⟩:=h.down hN hn (a:=l.t-1) (by omega) (by omega)
  have ih:=Zdc hN n (l.down N (l.t-1)) (by show l.n-1=n;omega) d1
  have et:(l.down N (l.t-1)).t=l.t:=by rw [e2];show l.f+Qg Mea.b (QT N l.o).ks m+k.m.b=l.t;omega
  have eo:(l.down N (l.t-1)).o=k.at_:=by rw [e2]
  rw [et,eo] at ih;rw [ZFG,e1,ih,szN,Nat.add_assoc,<- Zhj hk,<- hm,List.take_length]
theorem Zdd {N:ZP} (hN:GoodN N) {s:List UInt8}:∀ (n:Nat) (l:CLv),l.n=n->CLvOk N s l->∀ p:Int,l.f<=p->p+1<l.t->ZFG N (p+1) n l+cmL N p (p+1) n l=ZFG N p n l+(n+1)
 | 0,_,_,_,_,_,_=>rfl
 | n+1,l,hn,h,p,p0,p1=>by
  obtain ⟨k1,k2,k3⟩:=h.kids hN hn
  obtain ⟨d1,d2,d3,d4,d5,k,hk,ko,kb⟩:=h.down hN hn (a:=p) p0 (by omega)
  have dn:(l.down N p).n=n:=by show l.n-1=n;omega
  rw [ZFG,ZFG,cmL]
  rcases Int.lt_or_le (p+1) (l.down N p).t with q|q
  ·have e:=h.same hN hn p0 (by omega) (a:=p+1) (by omega) q
   have ei:ZFE N l.o (p+1-l.f)=ZFE N l.o (p-l.f):=by
    refine ZPF (h.fit hN) hk (show Xx N l.o (p-l.f)<=_ from ?_) (show _<Xx N l.o (p-l.f)+_ from ?_)
    ·have:l.f+Xx N l.o (p-l.f)<=p:=d2;omega
    ·have:p+1<l.f+Xx N l.o (p-l.f)+ZLF N l.o (p-l.f):=q;omega
   rw [if_pos e,ei,<- e];have ih:=Zdd hN n (l.down N p) dn d1 p d2 q;omega
  ·have ht:(l.down N p).t=l.f+Xx N l.o (p-l.f)+ZLF N l.o (p-l.f):=rfl
   have hf:Xx N l.o (p-l.f)=Qg Mea.b (QT N l.o).ks (ZFE N l.o (p-l.f)):=rfl;have hs:=ZKn comp_b hk
   generalize hI:ZFE N l.o (p-l.f)=I at *
   have hIl:=(List.getElem?_eq_some_iff.1 hk).1
   have hI2:I+1<(QT N l.o).ks.length:=by
    rcases Nat.lt_or_ge (I+1) (QT N l.o).ks.length with w|w
    ·exact w
    ·have e:I+1=(QT N l.o).ks.length:=by omega
     rw [e,k3] at hs;omega
   obtain ⟨k',hk'⟩:∃ k,(QT N l.o).ks[I+1]?=some k:=⟨_,jE hI2⟩;have hkb':=k2 k' (jM hk')
   have hp1:p+1=l.f+Qg Mea.b (QT N l.o).ks (I+1):=by omega
   obtain ⟨e1,e2⟩:=h.at hN hk' (a:=p+1) (by omega) (by omega)
   obtain ⟨c1,c2,c3,_⟩:=h.down hN hn (a:=p+1) (by omega) (by omega)
   have cf:(l.down N (p+1)).f=p+1:=by rw [e2];exact hp1.symm
   have v1:=ZZp hN n (l.down N (p+1)) (by show l.n-1=n;omega) c1
   rw [cf] at v1;have v2:=Zdc hN n (l.down N p) dn d1
   rw [show (l.down N p).t-1=p by omega] at v2
   have eo:(l.down N p).o=k.at_:=ko
   have hne:l.down N p≠l.down N (p+1):=fun e=>by
    have:=congrArg CLv.t e
    omega
   rw [if_neg hne,e1,v1,v2,eo,Zhj hk];omega
theorem CLvOk.sameI {N:ZP} (hN:GoodN N) {s:List UInt8} {l:CLv} {n:Nat} (h:CLvOk N s l) (hn:l.n=n+1) {p a:Int} (h0:l.f<=p) (h1:p<l.t) (ha0:(l.down N p).f<=a) (ha1:a<(l.down N p).t):ZFE N l.o (a-l.f)=ZFE N l.o (p-l.f):=by
 obtain ⟨_,_,_,_,_,k,k1,k2,k3⟩:=h.down hN hn h0 h1;have q0:l.f+Xx N l.o (p-l.f)<=a:=ha0;have q1:a<l.f+Xx N l.o (p-l.f)+ZLF N l.o (p-l.f):=ha1;rw [k3] at q1
 exact ZPF (h.fit hN) k1 (by show Xx N l.o (p-l.f)<=_;omega) (by show _<Xx N l.o (p-l.f)+_;omega)
theorem Zde {N:ZP} (hN:GoodN N) {s:List UInt8} {p a:Int}:∀ (n:Nat) (l lf:CLv),l.n=n->CLvOk N s l->l.f<=p->p<l.t->(Qf N p n l)[n]?=some lf->lf.f<=a->a<lf.t->Qf N a n l=Qf N p n l/\ZFG N a n l=ZFG N p n l
 | 0,l,lf,_,_,_,_,_,_,_=>⟨rfl,rfl⟩
 | n+1,l,lf,hn,h,p0,p1,hf,a0,a1=>by
  obtain ⟨d1,d2,d3,d4,d5,_⟩:=h.down hN hn p0 p1
  have dn:(l.down N p).n=n:=by show l.n-1=n;omega
  rw [Qf,List.getElem?_cons_succ] at hf;obtain ⟨_,_,_,_,e5,e6⟩:=ZDQ hN n _ dn d1 d2 d3 n lf hf
  have e:=h.same hN hn p0 p1 (a:=a) (by omega) (by omega)
  have ei:=h.sameI hN hn p0 p1 (a:=a) (by omega) (by omega)
  obtain ⟨i1,i2⟩:=Zde hN n _ lf dn d1 d2 d3 hf a0 a1;rw [Qf,Qf,ZFG,ZFG,<- e,i1,i2,ei];exact ⟨rfl,rfl⟩
theorem ZqE {N:ZP} (hN:GoodN N) {s:List UInt8} {l:CLv} (h:CLvOk N s l) (hn:l.n=0):((QT N l.o).text.length:Int)=l.t-l.f/\∀ a:Int,l.f<=a->a<l.t->(QT N l.o).text[(a-l.f).toNat]?=s[a.toNat]?:=by
 have hl:=h.len hN;obtain ⟨⟨x,x1,x2,x3⟩,pre,post,e,e2⟩:=h
 have ht:QI N l.n l.o=(QT N l.o).text:=by
  rw [hn,QI,x1,Yi x1];simp
 rw [ht] at e hl
 refine ⟨hl.1,fun a a0 a1=>?_⟩
 rw [e,List.append_assoc,List.getElem?_append_right (by omega),jL (by omega)]
 congr 1
 omega
def ZER (P:Nat->UInt8->Bool):Nat->List UInt8->Nat
 | _,[]=>0
 | n,b::l=>if P n b=true then 1+ZER P (n+1) l else 0
theorem ZkN (P:Nat->UInt8->Bool):∀ (l:List UInt8) (n:Nat),ZER P n l<=l.length
 | [],_=>Nat.le_refl _
 | b::l,n=>by
  rw [ZER]
  have:=ZkN P l (n+1)
  split
  ·simp;omega
  ·simp
theorem Znw {s:List UInt8} {i:Nat} {b:UInt8} (h:s[i]?=some b):s.drop i=b::s.drop (i+1):=by
 obtain ⟨hi,rfl⟩:=List.getElem?_eq_some_iff.1 h;exact List.drop_eq_getElem_cons hi
structure More (st:St) (ks:List (Nat × Nat)) (g:FuncId) (caps:List AV) (P:Nat->UInt8->Bool):Prop where
 call:∀ (bs:List Blk) (B:List (Bool × List Blk)) (L:List Blk) (i:Nat) (c:UInt8),B=(Zz st ks bs).ps->bs.length=ks.length->bs.all noH=true->i<=100000->S Tb g ([.int .i64 i,.int .u8 c.toNat]++caps) ⟨B,false,L⟩=some (.bool (P i c),⟨B,false,L⟩)
 wk:∀ (i:Nat) (c:UInt8),ZX (Zl ([]++[.int .i64 i,.int .u8 c.toNat]++caps))=some ([.int .i64 i,.int .u8 c.toNat]++caps)
structure FwS where
 i:Nat
 p:Int
 ver:Nat
 es:List AV
 vis:Int
 B:List (Bool × List Blk)
 v:Nat
 T:List Blk
 xs:Env
structure FwI (st:St) (lv ic li la b:Nat) (r:Ro) (N:ZP) (s:List UInt8) (n:Nat) (rt:CLv) (P:Nat->UInt8->Bool) (a0:Nat) (vis0:Int) (p0:Int) (q:FwS):Prop where
 hB:q.B=(Zz st [(lv,ic),(lv,li)] (JA (.ptr la (b+5) 0 0 0) r lv li q.ver (n+1) q.es q.vis ((a0:Int)+q.i))).ps
 le:n+1<=q.es.length
 es:q.es.take (n+1)=(Qf N q.p n rt).map (CLv.av N)
 ai:a0+q.i<=s.length
 p1:0<=q.p/\q.p<s.length
 pa:q.p=(a0:Int)+q.i\/(q.p+1=(a0:Int)+q.i/\∀ lf,(Qf N q.p n rt)[n]?=some lf->lf.t=(a0:Int)+q.i)
 fw:ZER P 0 (s.drop a0)=q.i+ZER P q.i (s.drop (a0+q.i))
 vs:q.vis+ZFG N p0 n rt=vis0+ZFG N q.p n rt
 v0:vis0<=q.vis/\q.vis<=vis0+20*q.i+20/\(q.p≠(a0:Int)+q.i->q.vis<=vis0+20*q.i)
theorem ZqF {B:List (Bool × List Blk)} {v:Nat} {l:List UInt8} {x:Blk} {T:List Blk} {m:Nat} (hm:m=l.length):b2sV ⟨B,false,.arr 1 v (Zv l)::x::T⟩ (.ref B.length 0 v 0 m)=some (.str l):=by
 subst hm
 have:elems ⟨B,false,.arr 1 v (Zv l)::x::T⟩ (.ref B.length 0 v 0 l.length)=some (Zv l):=by
  simp only [elems,St.get_cur,List.getElem?_cons_zero,vis,ZBr,true_and,Nat.zero_add]
  rw [if_pos (by simp [Zv]),List.drop_zero,List.take_of_length_le (by simp [Zv])]
 simp only [b2sV,this,oS,ZKM]
theorem Zdf {st:St} {lv ic li ver la b:Nat} {r:Ro} {es:List AV} {vis0:Int} {N:ZP} {s:List UInt8} {a0:Nat} (H:Cl st [(lv,ic),(lv,li)] (JA (.ptr la (b+5) 0 0 0) r lv li ver (r.h+1) es vis0 a0))
 (hla:la<=lv) (hR:RdO st la (b+5) N [(lv,ic),(lv,li)]) (hN:GoodN N) (h:Rt N r s) (h0:r.at_≠0) (hs:s.length<=100000) (ha:a0<=s.length) (hv:0<=vis0/\vis0<700000000)
 (hke:r.h+1<=es.length) (hes:es.take (r.h+1)=(Qf N (min (a0:Int) (s.length-1)) r.h (Qi r)).map (CLv.av N)) {g:FuncId} {caps:List AV} {P:Nat->UInt8->Bool} (hM:More st [(lv,ic),(lv,li)] g caps P) :
 ∃ ver2 es2 vis2,S Tb Q2 [.ptr lv ic 0 0 0,.func (.func g) [] caps] st=some (.tup [.str ((s.drop a0).take (ZER P 0 (s.drop a0))),.int .i64 0],Zz st [(lv,ic),(lv,li)] (JA (.ptr la (b+5) 0 0 0) r lv li ver2 (r.h+1) es2 vis2 ((a0+ZER P 0 (s.drop a0):Nat):Int))) /\
  r.h+1<=es2.length/\es2.take (r.h+1)=(Qf N (min ((a0+ZER P 0 (s.drop a0):Nat):Int) (s.length-1)) r.h (Qi r)).map (CLv.av N) /\
  vis2+ZFG N (min (a0:Int) (s.length-1)) r.h (Qi r)=vis0+ZFG N (min ((a0+ZER P 0 (s.drop a0):Nat):Int) (s.length-1)) r.h (Qi r)/\vis0<=vis2/\vis2<=vis0+20*ZER P 0 (s.drop a0)+20:=by
 obtain ⟨hlv,ht,hpos⟩:=h.lv hN h0;have h13:=h.rt.h13 hN;have hmb:r.m.b=s.length:=(h.b hN).2;have hrf:(Qi r).f=0:=rfl;have hrn:(Qi r).n=r.h:=rfl;have hfl:=ZkN P (s.drop a0) 0;rw [List.length_drop] at hfl
 -- the leaf of the path
 have hleaf:∀ p:Int,0<=p->p<s.length->∃ lf,(Qf N p r.h (Qi r))[r.h]?=some lf/\CLvOk N s lf/\lf.n=0/\lf.f<=p/\p<lf.t/\lf.t<=s.length/\0<=lf.f:=by
  intro p p0 p1
  obtain ⟨lf,hlf⟩:∃ lf,(Qf N p r.h (Qi r))[r.h]?=some lf:=⟨_,jE (by rw [ZFF];omega)⟩
  obtain ⟨e1,e2,e3,e4,e5,e6⟩:=ZDQ hN r.h (Qi r) rfl hlv (by omega) (by omega) r.h lf hlf
  exact ⟨lf,hlf,e1,by omega,e3,e4,by omega,by omega⟩
 suffices hmain:Sp Tb Q2 [.ptr lv ic 0 0 0,.func (.func g) [] caps] st (fun w st'=>∃ q:FwS,q.i=ZER P 0 (s.drop a0)/\q.p=min ((a0:Int)+q.i) (s.length-1)/\FwI st lv ic li la b r N s r.h (Qi r) P a0 vis0 (min (a0:Int) (s.length-1)) q /\
  w=.tup [.str ((s.drop a0).take q.i),.int .i64 0]/\st'=Zz st [(lv,ic),(lv,li)] (JA (.ptr la (b+5) 0 0 0) r lv li q.ver (r.h+1) q.es q.vis ((a0:Int)+q.i))) by
  obtain ⟨w,st',hS,q,q1,q2,qI,rfl,rfl⟩:=hmain
  refine ⟨q.ver,q.es,q.vis,?_,qI.le,?_,?_,qI.v0.1,by rw [<- q1];exact qI.v0.2.1⟩
  ·rw [hS,q1];simp
  ·rw [qI.es,q2,q1];simp
  ·rw [qI.vs,q2,q1];simp
 refine Zjp (rfl:Tb Q2=some (.pf YD)) ?_;obtain ⟨B0,hB0⟩:∃ B0,B0=st.ps:=⟨_,rfl⟩
 show Ru _ _ _ _ _ ⟨st.ps,false,[]⟩
 rw [<- hB0]
 repeat' (first|refine ZE ?_|refine ZD ?_|refine ZH rfl ?_|refine ZB rfl ?_|refine ZC ?_|refine ZCV rfl rfl ?_|refine ZKU rfl ?_|refine ZQ ?_)
 refine Z2 (α:=FwS) (fun q=>(0,.ptr lv ic 0 0 0)::(1,.func (.func g) [] caps)::(6,.ptr q.B.length 1 0 0 0)::(7,.func (.func QE) [] [.ptr q.B.length 1 0 0 0])::q.xs)
  (fun q=>⟨q.B,false,.arr 1 q.v (Zv ((s.drop a0).take q.i))::.arr 1 0 [.ref q.B.length 0 q.v 0 q.i]::q.T⟩) (FwI st lv ic li la b r N s r.h (Qi r) P a0 vis0 (min (a0:Int) (s.length-1)))
  (fun q=>2*(s.length-(a0+q.i))+(if q.p=(a0:Int)+q.i then 0 else 1)) ⟨0,min (a0:Int) (s.length-1),ver,es,vis0,B0,0,[],[]⟩ rfl rfl ?_ ?_
 ·refine ⟨by simp only;rw [hB0];simp only [Int.add_zero,Int.natCast_zero];rw [H.same],hke,hes,by simp only;omega,by simp only;omega,?_,by simp,rfl,by simp only;omega⟩
  simp only
  rcases Nat.lt_or_ge a0 s.length with w|w
  ·left;omega
  ·right
   refine ⟨by omega,fun lf hlf=>?_⟩
   obtain ⟨lf',g1,g2,g3,g4,g5,g6,g7⟩:=hleaf (min (a0:Int) (s.length-1)) (by omega) (by omega)
   obtain rfl:lf'=lf:=Option.some.inj (g1.symm.trans hlf);omega
 rintro ⟨i,p,ver,es,vis,B,v,T,xs⟩ hI
 obtain ⟨hB,hle,hes,hai,⟨p0,p1⟩,pa,fw,vs,v0⟩:=id hI
 simp only at hB hle hes hai p0 p1 pa fw vs v0 ⊢
 obtain ⟨lf,g1,g2,g3,g4,g5,g6,g7⟩:=hleaf p p0 p1;obtain ⟨x1,x2⟩:=ZqE hN g2 g3
 have hc:=fun L=>Cl.old (L:=L) (ro:=false) H hB rfl rfl (j:=0) rfl rfl
 have hcl:=fun L=>Cl.old (L:=L) (ro:=false) H hB rfl rfl (j:=1) rfl rfl
 have htl:((s.drop a0).take i).length=i:=by rw [List.length_take,List.length_drop];omega
 have hb2:=fun T=>ZqF (B:=B) (v:=v) (l:=(s.drop a0).take i) (x:=.arr 1 0 [.ref B.length 0 v 0 i]) (T:=T) htl.symm
 have hel:es[r.h+1-1]?=some (CLv.av N lf):=by
  have e1:(es.take (r.h+1))[r.h]?=es[r.h]?:=List.getElem?_take_of_lt (by omega)
  rw [Nat.add_sub_cancel,<- e1,hes,jG,g1];rfl
 have hLf:=fun L=>Zld (hc L) (hcl L) (by omega) hel
 rcases Nat.eq_or_lt_of_le hai with hend|hlt
 ·-- the end of the text
  have hfin:∀ (w:AV) (st':St),w=.tup [.str ((s.drop a0).take i),.int .i64 0]->st'=Zz st [(lv,ic),(lv,li)] (JA (.ptr la (b+5) 0 0 0) r lv li ver (r.h+1) es vis ((a0:Int)+i))->∃ q:FwS,q.i=ZER P 0 (s.drop a0)/\q.p=min ((a0:Int)+q.i) (s.length-1)/\FwI st lv ic li la b r N s r.h (Qi r) P a0 vis0 (min (a0:Int) (s.length-1)) q /\
   w=.tup [.str ((s.drop a0).take q.i),.int .i64 0]/\st'=Zz st [(lv,ic),(lv,li)] (JA (.ptr la (b+5) 0 0 0) r lv li q.ver (r.h+1) q.es q.vis ((a0:Int)+q.i)):=by
   intro w st' e1 e2;refine ⟨_,?_,?_,hI,e1,e2⟩
   ·show i=_
    rw [fw,List.drop_of_length_le (by omega)];rfl
   ·show p=min ((a0:Int)+i) (s.length-1);omega
  have hat:¬ ((a0:Int)+i)<r.m.b:=by omega
  unfold JW at hc
  repeat' (first|refine Z0 rfl (hc _) rfl rfl ?_|refine ZiT rfl (hb2 _) ?_|refine ZE ?_|refine ZD ?_|refine ZH rfl ?_|refine ZJ rfl rfl ?_|refine ZU rfl rfl rfl rfl ?_|refine ZB rfl ?_|refine ZC ?_|refine Zc rfl rfl ?_|(refine Zj rfl rfl (fun _=>?_) (fun _=>?_)<;>try (exfalso;omega))|refine ZG rfl ?_|refine ZO ?_|refine Zy ?_|refine ZL ?_|refine Zk ?_|refine Zf rfl ?_|refine Zw ?_)
  all_goals try contradiction
  all_goals try (exfalso;omega)
  exact ⟨_,_,ZZ hB (.inr rfl) rfl rfl rfl rfl rfl,hfin _ _ rfl rfl⟩
 ·have hat:((a0:Int)+i)<r.m.b:=by omega
  rcases Int.lt_or_le ((a0:Int)+i) lf.t with hin|hout
  ·-- within the leaf
   have hpe:p=(a0:Int)+i:=by
    rcases pa with w|⟨_,w⟩
    ·exact w
    ·have:=w lf g1;omega
   obtain ⟨c,hcb⟩:∃ c,s[a0+i]?=some c:=⟨_,jE hlt⟩
   have hix:(QT N lf.o).text[((a0:Int)+i-lf.f).toNat]?=some c:=by
    rw [x2 _ (by omega) hin,show ((a0:Int)+i).toNat=a0+i by omega];exact hcb
   have hdrop:=Znw hcb
   have hMo:=fun L=>hM.call _ B L i c hB rfl rfl (by omega)
   have hwk:=hM.wk i c
   have hnge:¬ ((QT N lf.o).text.length:Int)<=(a0:Int)+i-lf.f:=by omega
   cases hP:P i c with
   | false =>
    have hfin:∀ (w:AV) (st':St),w=.tup [.str ((s.drop a0).take i),.int .i64 0]->st'=Zz st [(lv,ic),(lv,li)] (JA (.ptr la (b+5) 0 0 0) r lv li ver (r.h+1) es vis ((a0:Int)+i))->∃ q:FwS,q.i=ZER P 0 (s.drop a0)/\q.p=min ((a0:Int)+q.i) (s.length-1)/\FwI st lv ic li la b r N s r.h (Qi r) P a0 vis0 (min (a0:Int) (s.length-1)) q /\
     w=.tup [.str ((s.drop a0).take q.i),.int .i64 0]/\st'=Zz st [(lv,ic),(lv,li)] (JA (.ptr la (b+5) 0 0 0) r lv li q.ver (r.h+1) q.es q.vis ((a0:Int)+q.i)):=by
     intro w st' e1 e2;refine ⟨_,?_,?_,hI,e1,e2⟩
     ·show i=_
      rw [fw,hdrop,ZER,hP];simp
     ·show p=min ((a0:Int)+i) (s.length-1);omega
    rw [hP] at hMo;unfold JW at hc
    repeat' (first|refine Z0 rfl (hc _) rfl rfl ?_|refine ZiT rfl (hb2 _) ?_|refine ZCW rfl rfl (by omega) hix ?_|refine ZA rfl rfl hwk (hMo _) ?_|refine ZE ?_|refine ZD ?_|refine ZH rfl ?_|refine ZJ rfl rfl ?_|refine ZU rfl rfl rfl rfl ?_|refine Zr rfl rfl ?_|refine ZB rfl ?_|refine ZC ?_|refine Zc rfl rfl ?_|refine JJ rfl ?_|refine Ql rfl ?_|(refine Zj rfl rfl (fun _=>?_) (fun _=>?_)<;>try (exfalso;omega))|(refine Jt rfl rfl (fun _=>?_) (fun _=>?_)<;>try (exfalso;omega))|refine ZS rfl ?_|refine ZG rfl ?_|refine Yd rfl rfl ?_|refine QZ rfl rfl (by omega) ?_|refine ZA rfl rfl rfl (hLf _) ?_|refine ZI ?_|refine ZO ?_|refine Zy ?_|refine ZQ ?_|refine ZL ?_|refine Zk ?_|refine Zf rfl ?_|refine ZPX rfl ?_|refine Zw ?_)
    all_goals try contradiction
    all_goals try (exfalso;omega)
    exact ⟨_,_,ZZ hB (.inr rfl) rfl rfl rfl rfl rfl,hfin _ _ rfl rfl⟩
   | true =>
    have hTk:=fun T=>ZrH (A:=B) (T:=T) (v:=v) (l:=(s.drop a0).take i) (by omega) c
    rw [htl] at hTk
    have htake:(s.drop a0).take i++[c]=(s.drop a0).take (i+1):=by
     rw [ZRw (k:=i) (x:=c)];rw [List.getElem?_drop];exact hcb
    rw [htake] at hTk;rw [hP] at hMo
    have hnext:∀ B2 T2,B2=(Zz st [(lv,ic),(lv,li)] (JA (.ptr la (b+5) 0 0 0) r lv li ver (r.h+1) es vis ((a0:Int)+i+1))).ps->B2.length=B.length->∃ q:FwS,([(0,AV.ptr lv ic 0 0 0),(1,.func (.func g) [] caps),(6,.ptr B.length 1 0 0 0),(7,.func (.func QE) [] [.ptr B.length 1 0 0 0])]=(0,AV.ptr lv ic 0 0 0)::(1,.func (.func g) [] caps)::(6,.ptr q.B.length 1 0 0 0)::(7,.func (.func QE) [] [.ptr q.B.length 1 0 0 0])::q.xs /\
     (⟨B2,false,.arr 1 (v+1) (Zv ((s.drop a0).take (i+1)))::.arr 1 0 [.ref B.length 0 (v+1) 0 (i+1)]::T2⟩:St)=⟨q.B,false,.arr 1 q.v (Zv ((s.drop a0).take q.i))::.arr 1 0 [.ref q.B.length 0 q.v 0 q.i]::q.T⟩)/\FwI st lv ic li la b r N s r.h (Qi r) P a0 vis0 (min (a0:Int) (s.length-1)) q /\
     2*(s.length-(a0+q.i))+(if q.p=(a0:Int)+q.i then 0 else 1)<2*(s.length-(a0+i))+(if p=(a0:Int)+i then 0 else 1):=by
     intro B2 T2 e1 e2
     obtain ⟨p',hp',hps,hpv,hp0,hp1⟩:∃ p':Int,(p'=(a0:Int)+(i+1:Nat)\/(p'+1=(a0:Int)+(i+1:Nat)/\∀ lf,(Qf N p' r.h (Qi r))[r.h]?=some lf->lf.t=(a0:Int)+(i+1:Nat)))/\Qf N p' r.h (Qi r)=Qf N p r.h (Qi r)/\ZFG N p' r.h (Qi r)=ZFG N p r.h (Qi r)/\0<=p'/\p'<s.length:=by
      rcases Int.lt_or_le ((a0:Int)+i+1) lf.t with w|w
      ·obtain ⟨y1,y2⟩:=Zde hN r.h (Qi r) lf rfl hlv (by omega) (by omega) g1 (a:=(a0:Int)+i+1) (by omega) w
       exact ⟨_,.inl (by omega),y1,y2,by omega,by omega⟩
      ·refine ⟨p,.inr ⟨by omega,fun lf' hlf'=>?_⟩,rfl,rfl,p0,p1⟩
       obtain rfl:lf=lf':=Option.some.inj (g1.symm.trans hlf');omega
     refine ⟨⟨i+1,p',ver,es,vis,B2,v+1,T2,[]⟩,⟨by simp only;rw [e2],by simp only;rw [e2]⟩,⟨?_,hle,by simp only;rw [hps];exact hes,by simp only;omega,⟨hp0,hp1⟩,hp',?_,by simp only;rw [hpv];exact vs,by simp only;omega⟩,?_⟩
     ·simp only
      rw [e1,show (a0:Int)+i+1=(a0:Int)+(i+1:Nat) by omega]
     ·simp only
      rw [fw,hdrop,ZER,hP,if_pos rfl,Nat.add_assoc i 1,Nat.add_assoc a0 i 1]
     ·simp only
      split<;>first|omega|(split<;>omega)
    unfold JW at hc
    repeat' (first|refine Z0 rfl (hc _) rfl rfl ?_|refine ZCW rfl rfl (by omega) hix ?_|refine ZA rfl rfl hwk (hMo _) ?_|refine ZE ?_|refine ZD ?_|refine ZH rfl ?_|refine ZJ rfl rfl ?_|refine ZU rfl rfl rfl rfl ?_|refine Zr rfl rfl ?_|refine ZB rfl ?_|refine ZC ?_|refine Zc rfl rfl ?_|refine JJ rfl ?_|refine Ql rfl ?_|(refine Zj rfl rfl (fun _=>?_) (fun _=>?_)<;>try (exfalso;omega))|(refine Jt rfl rfl (fun _=>?_) (fun _=>?_)<;>try (exfalso;omega))|refine ZS rfl ?_|refine ZG rfl ?_|refine Yd rfl rfl ?_|refine Zo rfl rfl (by omega) ?_|refine QZ rfl rfl (by omega) ?_|refine ZA rfl rfl rfl (hLf _) ?_|refine ZA rfl rfl rfl (hTk _) ?_|refine ZI ?_|refine ZQ ?_)
    all_goals try contradiction
    all_goals try (exfalso;omega)
    refine ZZL (j:=0) H hB rfl rfl rfl rfl rfl rfl rfl rfl rfl (fun B2 hB2 e2=>?_)
    have hn2:=fun T2=>hnext B2 T2 hB2 e2
    repeat' (first|exact hn2 _|refine ZB rfl ?_|refine QF ?_|refine QG ?_)
  ·-- behind the leaf
   have hpe:p+1=(a0:Int)+i/\lf.t=(a0:Int)+i:=by
    rcases pa with w|⟨w1,w⟩
    ·omega
    ·exact ⟨w1,w lf g1⟩
   have Hc:∀ L,Cl ⟨B,false,L⟩ [(lv,ic),(lv,li)] (JA (.ptr la (b+5) 0 0 0) r lv li ver (r.h+1) es vis ((a0:Int)+i)):=fun L=>(H.put rfl rfl).push hB
   have hRc:∀ L,RdO ⟨B,false,L⟩ la (b+5) N [(lv,ic),(lv,li)]:=fun L=>by
    obtain ⟨a0',a1,im,a3,a4,a5,q1,q2,q3,q4⟩:=hR;exact ⟨a0',a1,im,a3,a4,a5,ZV hB ((H.out rfl rfl q3).trans q1),ZV hB ((H.out rfl rfl q4).trans q2),q3,q4⟩
   obtain ⟨w,st',hE,rfl,A2,L2,T2,ver2,es2,rfl,e2,f2,f3⟩:=ZkM (n:=r.h) (p:=p) (a:=(a0:Int)+i) (Hc (.arr 1 v (Zv ((s.drop a0).take i))::.arr 1 0 [.ref B.length 0 v 0 i]::T)) hla (hRc _) hN hlv rfl (by omega) (by omega) (by omega) (by omega) (by omega) hs (by omega) hle hes
   have hlek:∀ k∈[(lv,ic),(lv,li)],k.1<=(Zz st [(lv,ic),(lv,li)] (JA (.ptr la (b+5) 0 0 0) r lv li ver (r.h+1) es vis ((a0:Int)+i))).A.length:=by rw [ZGz];exact H.le
   rw [YE hB hlek,ZE4 H.nd rfl rfl] at e2;simp only [St.mk.injEq,true_and] at e2;obtain ⟨e2a,rfl⟩:=e2
   have hst:=Zdd hN r.h (Qi r) rfl hlv p (by omega) (by omega)
   have hcm:=ZRv N p (p+1) r.h (Qi r)
   have hBl:A2.length=B.length:=by rw [e2a,hB];simp [ZGz]
   rw [hpe.1] at hst hcm
   have hnext:∀ x y:AV,∃ q:FwS,([(0,AV.ptr lv ic 0 0 0),(1,.func (.func g) [] caps),(6,.ptr B.length 1 0 0 0),(7,.func (.func QE) [] [.ptr B.length 1 0 0 0]),(11,x),(49,y)]=(0,AV.ptr lv ic 0 0 0)::(1,.func (.func g) [] caps)::(6,.ptr q.B.length 1 0 0 0)::(7,.func (.func QE) [] [.ptr q.B.length 1 0 0 0])::q.xs /\
    (⟨A2,false,(.arr 1 v (Zv ((s.drop a0).take i))::.arr 1 0 [.ref B.length 0 v 0 i]::T)++T2⟩:St)=⟨q.B,false,.arr 1 q.v (Zv ((s.drop a0).take q.i))::.arr 1 0 [.ref q.B.length 0 q.v 0 q.i]::q.T⟩)/\FwI st lv ic li la b r N s r.h (Qi r) P a0 vis0 (min (a0:Int) (s.length-1)) q /\
    2*(s.length-(a0+q.i))+(if q.p=(a0:Int)+q.i then 0 else 1)<2*(s.length-(a0+i))+(if p=(a0:Int)+i then 0 else 1):=by
    intro x y
    refine ⟨⟨i,(a0:Int)+i,ver2,es2,_,A2,v,T++T2,[(11,x),(49,y)]⟩,⟨by simp only;rw [hBl],by simp only;rw [hBl];rfl⟩,⟨e2a,f2,f3,hai,by simp only;omega,.inl rfl,fw,by simp only;omega,by simp only;omega⟩,?_⟩
    simp only
    rw [if_pos trivial,if_neg (by omega)]
    omega
   unfold JW at hc
   repeat' (first|exact hnext _ _|refine Z0 rfl (hc _) rfl rfl ?_|refine ZE ?_|refine ZD ?_|refine ZH rfl ?_|refine ZJ rfl rfl ?_|refine Zr rfl rfl ?_|refine ZB rfl ?_|refine ZC ?_|refine Zc rfl rfl ?_|(refine Zj rfl rfl (fun _=>?_) (fun _=>?_)<;>try (exfalso;omega))|(refine Jt rfl rfl (fun _=>?_) (fun _=>?_)<;>try (exfalso;omega))|(refine Zd rfl rfl (fun _=>?_) (fun _=>?_)<;>try (exfalso;omega))|refine ZS rfl ?_|refine ZG rfl ?_|refine ZA rfl rfl rfl (hLf _) ?_|refine ZA rfl rfl rfl (hE) ?_|refine ZI ?_|refine Zy ?_|refine ZQ ?_|refine Zk ?_|refine Zf rfl ?_|refine QG ?_)
   all_goals try contradiction
   all_goals try (exfalso;omega)
theorem RdO.putS {st:St} {ks:List (Nat × Nat)} {b0 bs:List Blk} {la ix:Nat} {N:ZP} (h:RdO st la ix N ks) (H:Cl st ks b0) (hl:bs.length=ks.length) (hn:bs.all noH=true):RdO (Zz st ks bs) la ix N ks:=by
 obtain ⟨a0,a1,im,a3,a4,a5,h1,h2,h3,h4⟩:=h;exact ⟨a0,a1,im,a3,a4,a5,(H.out hl hn h3).trans h1,(H.out hl hn h4).trans h2,h3,h4⟩
structure CurN (st:St) (lv ic li la b:Nat) (r:Ro) (N:ZP) (s:List UInt8) (a:Nat) (vis:Int) (ver:Nat) (es:List AV):Prop where
 cl:Cl st [(lv,ic),(lv,li)] (JA (.ptr la (b+5) 0 0 0) r lv li ver (r.h+1) es vis a)
 le:r.h+1<=es.length
 es:es.take (r.h+1)=(Qf N (min (a:Int) (s.length-1)) r.h (Qi r)).map (CLv.av N)
def Zcn (N:ZP) (r:Ro) (s:List UInt8) (a:Nat):Nat:=ZFG N (min (a:Int) (s.length-1)) r.h (Qi r)
section
variable {st:St} {lv ic li ver la b:Nat} {r:Ro} {es:List AV} {vis:Int} {N:ZP} {s:List UInt8} {a:Nat}
def Znx (c:UInt8):Bool:=decide (128<=c.toNat/\c.toNat<192)
theorem ZrJ (c:UInt8) (st:St):S Tb ZEC [.int .u8 c.toNat] st=some (.bool (Znx c),st):=by
 refine QD rfl (fun A hA=>?_)
 unfold Znx
 repeat' (first|refine ZE ?_|refine ZD ?_|refine ZH rfl ?_|refine QB rfl ?_|refine Jg rfl rfl ?_|refine Zi rfl rfl rfl rfl ?_|refine ZB rfl ?_|refine ZC ?_|(refine Zj rfl rfl (fun _=>?_) (fun _=>?_)<;>try (exfalso;omega))|(refine Jt rfl rfl (fun _=>?_) (fun _=>?_)<;>try (exfalso;omega))|refine ZO ?_|refine ZL ?_)
 all_goals refine ZZ hA (by first|exact .inl rfl|exact .inr rfl) rfl rfl rfl rfl ?_
 ·rw [decide_eq_true (by omega)]
 ·rw [decide_eq_false (by omega)]
 ·rw [decide_eq_false (by omega)]
def Zhk (i:Nat) (c:UInt8):Bool:=decide (i=0) || Znx c
theorem ZrK (H:CurN st lv ic li la b r N s a vis ver es) (hla:la<=lv) (hR:RdO st la (b+5) N [(lv,ic),(lv,li)]) (hN:GoodN N) (h:Rt N r s) (h0:r.at_≠0) (hs:s.length<=100000) (ha:a<s.length) (hv:0<=vis/\vis<700000000) :
 ∃ ver2 es2 vis2 k,k=ZER Zhk 0 (s.drop a)/\S Tb J5 [.ptr lv ic 0 0 0] st=some (.tup [.str ((s.drop a).take k),.int .i64 0],Zz st [(lv,ic),(lv,li)] (JA (.ptr la (b+5) 0 0 0) r lv li ver2 (r.h+1) es2 vis2 ((a+k:Nat):Int))) /\
  CurN (Zz st [(lv,ic),(lv,li)] (JA (.ptr la (b+5) 0 0 0) r lv li ver2 (r.h+1) es2 vis2 ((a+k:Nat):Int))) lv ic li la b r N s (a+k) vis2 ver2 es2/\vis2+Zcn N r s a=vis+Zcn N r s (a+k)/\vis<=vis2/\vis2<=vis+20*k+20:=by
 obtain ⟨A,hA⟩:∃ A,A=st.ps:=⟨_,rfl⟩;have H1:Cl ⟨A,false,[]⟩ [(lv,ic),(lv,li)] _:=H.cl.push hA;have hR1:=hR.push (L:=[]) hA;have hlt:∀ k∈[(lv,ic),(lv,li)],k.1<=st.A.length:=H.cl.le;have hmb:r.m.b=s.length:=(h.b hN).2
 have hM:More ⟨A,false,[]⟩ [(lv,ic),(lv,li)] YP [] Zhk:=by
  refine ⟨fun bs B L i c hB hl hno hi=>?_,fun i c=>rfl⟩
  refine QD rfl (fun B1 hA=>?_)
  have hC:=fun st=>ZrJ c st
  unfold Zhk
  by_cases hi0:i=0
  ·subst hi0
   repeat' (first|refine ZE ?_|refine ZD ?_|refine ZH rfl ?_|refine Jg rfl rfl ?_|refine Zi rfl rfl rfl rfl ?_|refine ZB rfl ?_|refine ZC ?_|(refine Ze rfl rfl (fun _=>?_) (fun _=>?_)<;>try (exfalso;omega))|refine ZO ?_|refine ZL ?_)
   all_goals try contradiction
   all_goals try (exfalso;omega)
   all_goals refine ZZ hA (by first|exact .inl rfl|exact .inr rfl) rfl rfl rfl rfl ?_
   all_goals rfl
  ·have:((i:Nat):Int)≠0:=by omega
   repeat' (first|refine ZE ?_|refine ZD ?_|refine ZH rfl ?_|refine QB rfl ?_|refine Zi rfl rfl rfl rfl ?_|refine ZB rfl ?_|refine ZC ?_|(refine Ze rfl rfl (fun _=>?_) (fun _=>?_)<;>try (exfalso;omega))|refine ZA rfl rfl rfl (hC _) ?_|refine ZO ?_|refine ZL ?_)
   all_goals try contradiction
   all_goals try (exfalso;omega)
   all_goals refine ZZ hA (by first|exact .inl rfl|exact .inr rfl) rfl rfl rfl rfl ?_
   all_goals simp [hi0]
 obtain ⟨ver2,es2,vis2,hF,f1,f2,f3,f4,f5⟩:=Zdf H1 hla hR1 hN h h0 hs (Nat.le_of_lt ha) hv H.le H.es hM;refine ⟨ver2,es2,vis2,_,rfl,?_,⟨H.cl.put rfl rfl,f1,f2⟩,f3,f4,f5⟩
 generalize ZER Zhk 0 (s.drop a)=k at *
 rw [YE hA hlt] at hF;have hRe:=ZCH hN h ((H.cl.push hA (ro:=false) (L:=[])).get 0 lv ic _ rfl rfl) (hR.push hA (L:=[])).rd;have hg:=(H.cl.push hA (ro:=false) (L:=[])).get 0 lv ic _ rfl rfl
 refine ZAU rfl (fun A' hA'=>?_)
 obtain rfl:A'=A:=hA'.trans hA.symm;obtain ⟨B,hB⟩:∃ B,B=(Zz st [(lv,ic),(lv,li)] (JA (.ptr la (b+5) 0 0 0) r lv li ver2 (r.h+1) es2 vis2 ((a+k:Nat):Int))).ps:=⟨_,rfl⟩;rw [<- hB] at hF;unfold JW at hg
 have hne:((a:Nat):Int)≠r.m.b:=by omega
 repeat' (first|refine Z0 rfl hg rfl rfl ?_|refine ZE ?_|refine ZD ?_|refine ZH rfl ?_|refine ZJ rfl rfl ?_|refine Zr rfl rfl ?_|refine ZB rfl ?_|refine ZC ?_|refine Zc rfl rfl ?_|(refine Ze rfl rfl (fun _=>?_) (fun _=>?_)<;>try (exfalso;omega))|(refine Zd rfl rfl (fun _=>?_) (fun _=>?_)<;>try (exfalso;omega))|refine ZG rfl ?_|refine ZA rfl rfl rfl (hRe) ?_|refine ZA rfl rfl rfl (hF) ?_|refine ZI ?_|refine ZO ?_|refine ZL ?_)
 all_goals try contradiction
 all_goals try (exfalso;omega)
 exact ZZ hB (.inr rfl) rfl rfl rfl rfl rfl
theorem Zny {lev:AV} {at_:Int} (h0:st.get lv ic=some (JW (.ptr la (b+5) 0 0 0) r lev vis at_)) (hb:0<=r.m.b/\r.m.b<=100000) (x:Int):S Tb Yr [.ptr lv ic 0 0 0,.int .i64 x] st=some (.int .i64 (min x (r.m.b-1)),st):=by
 refine QD rfl (fun A hA=>?_)
 have g0:=fun L=>ZV hA (ro:=false) (L:=L) h0
 unfold JW at g0
 repeat' (first|refine Z0 rfl (g0 _) rfl rfl ?_|refine ZWQ rfl rfl ?_|refine ZE ?_|refine ZD ?_|refine ZH rfl ?_|refine ZJ rfl rfl ?_|refine ZB rfl ?_|refine ZC ?_|refine Zc rfl rfl ?_|refine QZ rfl rfl (by omega) ?_|refine ZO ?_|refine ZL ?_)
 refine ZZ hA (by first|exact .inl rfl|exact .inr rfl) rfl rfl rfl rfl ?_
 rfl
theorem Zfs (H:CurN st lv ic li la b r N s a vis ver es) (hla:la<=lv) (hR:RdO st la (b+5) N [(lv,ic),(lv,li)]) (hN:GoodN N) (h:Rt N r s) (h0:r.at_≠0) (hs:s.length<=100000) (ha:a<=s.length) (hv:0<=vis/\vis<700000000) (x:Nat) (hx:x<=s.length) :
 ∃ ver2 es2 vis2,S Tb QL [.ptr lv ic 0 0 0,.int .i64 x] st=some (.int .i64 0,Zz st [(lv,ic),(lv,li)] (JA (.ptr la (b+5) 0 0 0) r lv li ver2 (r.h+1) es2 vis2 x)) /\
  CurN (Zz st [(lv,ic),(lv,li)] (JA (.ptr la (b+5) 0 0 0) r lv li ver2 (r.h+1) es2 vis2 x)) lv ic li la b r N s x vis2 ver2 es2/\vis2=vis+((r.h+1-cmL N (min (a:Int) (s.length-1)) (min (x:Int) (s.length-1)) r.h (Qi r):Nat):Int):=by
 obtain ⟨hlv,ht,hpos⟩:=h.lv hN h0;have h13:=h.rt.h13 hN;have hmb:r.m.b=s.length:=(h.b hN).2;have hrf:(Qi r).f=0:=rfl;have hlt:∀ k∈[(lv,ic),(lv,li)],k.1<=st.A.length:=H.cl.le
 suffices hm:Sp Tb QL [.ptr lv ic 0 0 0,.int .i64 x] st (fun v st'=>v=.int .i64 0/\∃ ver2 es2,st'=Zz st [(lv,ic),(lv,li)] (JA (.ptr la (b+5) 0 0 0) r lv li ver2 (r.h+1) es2 (vis+((r.h+1-cmL N (min (a:Int) (s.length-1)) (min (x:Int) (s.length-1)) r.h (Qi r):Nat):Int)) x)/\r.h+1<=es2.length/\es2.take (r.h+1)=(Qf N (min (x:Int) (s.length-1)) r.h (Qi r)).map (CLv.av N)) by
  obtain ⟨v,st',hS,rfl,ver2,es2,rfl,f1,f2⟩:=hm;exact ⟨ver2,es2,_,hS,⟨H.cl.put rfl rfl,f1,f2⟩,rfl⟩
 refine Zjp (rfl:Tb QL=some (.pf Yt)) ?_;obtain ⟨A,hA⟩:∃ A,A=st.ps:=⟨_,rfl⟩
 show Ru _ _ _ _ _ ⟨st.ps,false,[]⟩
 rw [<- hA]
 have hA0:A=(Zz st [(lv,ic),(lv,li)] (JA (.ptr la (b+5) 0 0 0) r lv li ver (r.h+1) es vis a)).ps:=by rw [H.cl.same];exact hA
 repeat' (first|refine ZE ?_|refine ZD ?_|refine ZH rfl ?_|refine ZJ rfl rfl ?_|refine ZB rfl ?_|refine ZC ?_|refine Zc rfl rfl ?_)
 refine ZZL (j:=0) H.cl hA0 rfl rfl rfl rfl rfl rfl rfl rfl rfl (fun B hB e1=>?_)
 have hB':B=(Zz st [(lv,ic),(lv,li)] (JA (.ptr la (b+5) 0 0 0) r lv li ver (r.h+1) es vis x)).ps:=hB;have Hc:=(H.cl.put (bs':=JA (.ptr la (b+5) 0 0 0) r lv li ver (r.h+1) es vis x) rfl rfl).push hB' (ro:=false) (L:=[]);have hg:=Hc.get 0 lv ic _ rfl rfl
 have hSt:=Zny hg (by omega) (x:Int)
 rw [hmb] at hSt
 obtain ⟨v,st',hE,rfl,A2,L2,T2,ver2,es2,rfl,e2,f2,f3⟩:=ZkM (n:=r.h) (p:=min (a:Int) (s.length-1)) (a:=min (x:Int) (s.length-1)) Hc hla ((hR.putS H.cl rfl rfl).push hB') hN hlv rfl (by omega) (by omega) (by omega) (by omega) (by omega) hs (by omega) H.le H.es
 have hlek:∀ k∈[(lv,ic),(lv,li)],k.1<=(Zz st [(lv,ic),(lv,li)] (JA (.ptr la (b+5) 0 0 0) r lv li ver (r.h+1) es vis x)).A.length:=by rw [ZGz];exact hlt
 rw [YE hB' hlek,ZE4 H.cl.nd rfl rfl] at e2;simp only [St.mk.injEq,true_and] at e2;obtain ⟨e2a,rfl⟩:=e2
 have hzi:((r.at_:Nat):Int)≠0:=by omega
 unfold JW at hg
 repeat' (first|refine Z0 rfl hg rfl rfl ?_|refine ZE ?_|refine ZD ?_|refine ZH rfl ?_|refine ZJ rfl rfl ?_|refine ZB rfl ?_|refine ZC ?_|refine Zc rfl rfl ?_|(refine Ze rfl rfl (fun _=>?_) (fun _=>?_)<;>try (exfalso;omega))|refine ZG rfl ?_|refine ZA rfl rfl rfl (hSt) ?_|refine ZA rfl rfl rfl (hE) ?_|refine ZI ?_|refine ZO ?_|refine ZL ?_)
 all_goals try contradiction
 all_goals try (exfalso;omega)
 exact ⟨_,_,ZZ e2a (.inr rfl) rfl rfl rfl rfl rfl,rfl,ver2,es2,rfl,f2,f3⟩
theorem ZrL (H:CurN st lv ic li la b r N s a vis ver es) (hla:la<=lv) (hR:RdO st la (b+5) N [(lv,ic),(lv,li)]) (hN:GoodN N) (h:Rt N r s) (h0:r.at_≠0) (hs:s.length<=100000) (ha:a<=s.length) (hv:0<=vis/\vis<700000000) (x:Nat) (hx:x<=s.length) :
 ∃ ver2 es2 vis2,S Tb QY [.ptr lv ic 0 0 0,.int .i64 x] st=some (.int .i64 0,Zz st [(lv,ic),(lv,li)] (JA (.ptr la (b+5) 0 0 0) r lv li ver2 (r.h+1) es2 vis2 x)) /\
  CurN (Zz st [(lv,ic),(lv,li)] (JA (.ptr la (b+5) 0 0 0) r lv li ver2 (r.h+1) es2 vis2 x)) lv ic li la b r N s x vis2 ver2 es2/\vis2=vis+((r.h+1-cmL N (min (a:Int) (s.length-1)) (min (x:Int) (s.length-1)) r.h (Qi r):Nat):Int):=by
 obtain ⟨A,hA⟩:∃ A,A=st.ps:=⟨_,rfl⟩;have hlt:∀ k∈[(lv,ic),(lv,li)],k.1<=st.A.length:=H.cl.le;have hmb:r.m.b=s.length:=(h.b hN).2;have H1:CurN ⟨A,false,[]⟩ lv ic li la b r N s a vis ver es:=⟨H.cl.push hA,H.le,H.es⟩;obtain ⟨ver2,es2,vis2,hJ,hC,hvis⟩:=Zfs H1 hla (hR.push hA) hN h h0 hs ha hv x hx;refine ⟨ver2,es2,vis2,?_,⟨H.cl.put rfl rfl,hC.le,hC.es⟩,hvis⟩;rw [YE hA hlt] at hJ;have hg:=H1.cl.get 0 lv ic _ rfl rfl;have hRe:=ZCH hN h hg (hR.push hA (L:=[])).rd
 refine ZAU rfl (fun A' hA'=>?_)
 obtain rfl:A'=A:=hA'.trans hA.symm;obtain ⟨B,hB⟩:∃ B,B=(Zz st [(lv,ic),(lv,li)] (JA (.ptr la (b+5) 0 0 0) r lv li ver2 (r.h+1) es2 vis2 x)).ps:=⟨_,rfl⟩;rw [<- hB] at hJ;unfold JW at hg
 repeat' (first|refine Z0 rfl hg rfl rfl ?_|refine ZE ?_|refine ZD ?_|refine ZH rfl ?_|refine ZJ rfl rfl ?_|refine QB rfl ?_|refine Zi rfl rfl rfl rfl ?_|refine ZB rfl ?_|refine ZC ?_|refine Zc rfl rfl ?_|(refine Zj rfl rfl (fun _=>?_) (fun _=>?_)<;>try (exfalso;omega))|(refine QH rfl rfl (fun _=>?_) (fun _=>?_)<;>try (exfalso;omega))|(refine Zd rfl rfl (fun _=>?_) (fun _=>?_)<;>try (exfalso;omega))|refine ZG rfl ?_|refine ZA rfl rfl rfl (hRe) ?_|refine ZA rfl rfl rfl (hJ) ?_|refine ZI ?_|refine ZO ?_|refine ZL ?_)
 all_goals try contradiction
 all_goals try (exfalso;omega)
 exact ZZ hB (.inr rfl) rfl rfl rfl rfl rfl
theorem at_c {ap lev:AV} {at_:Int} (h0:st.get lv ic=some (JW ap r lev vis at_)):S Tb QN [.ptr lv ic 0 0 0] st=some (.int .i64 at_,st):=by
 refine QD rfl (fun A hA=>?_)
 have g0:=fun L=>ZV hA (ro:=false) (L:=L) h0
 unfold JW at g0
 repeat' (first|refine Z0 rfl (g0 _) rfl rfl ?_|refine ZE ?_|refine ZD ?_|refine ZH rfl ?_|refine ZJ rfl rfl ?_|refine ZB rfl ?_|refine ZC ?_|refine Zc rfl rfl ?_|refine ZG rfl ?_|refine Qy rfl rfl rfl rfl ?_|refine ZI ?_|refine ZO ?_|refine ZL ?_)
 all_goals refine ZZ hA (by first|exact .inl rfl|exact .inr rfl) rfl rfl rfl rfl ?_
 all_goals rfl
theorem visited_c {ap lev:AV} {at_:Int} (h0:st.get lv ic=some (JW ap r lev vis at_)):S Tb Ja [.ptr lv ic 0 0 0] st=some (.int .i64 vis,st):=by
 refine QD rfl (fun A hA=>?_)
 have g0:=fun L=>ZV hA (ro:=false) (L:=L) h0
 unfold JW at g0
 repeat' (first|refine Z0 rfl (g0 _) rfl rfl ?_|refine ZE ?_|refine ZD ?_|refine ZH rfl ?_|refine ZJ rfl rfl ?_|refine ZB rfl ?_|refine ZC ?_|refine Zc rfl rfl ?_|refine ZG rfl ?_|refine Qy rfl rfl rfl rfl ?_|refine ZI ?_|refine ZO ?_|refine ZL ?_)
 all_goals refine ZZ hA (by first|exact .inl rfl|exact .inr rfl) rfl rfl rfl rfl ?_
 all_goals rfl
end
def RdM (st:St) (la ix im:Nat) (N:ZP):Prop:=∃ a0 a1 a3 a4 a5,st.get la ix=some (.arr 6 0 [.agg [a0,a1,.map la im,a3,a4,a5]])/\st.get la im=some (.map (N.map nodeAV))
theorem RdM.rd {st:St} {la ix im:Nat} {N:ZP} (h:RdM st la ix im N):Rd st la ix N:=by
 obtain ⟨a0,a1,a3,a4,a5,h1,h2⟩:=h;exact ⟨a0,a1,im,a3,a4,a5,h1,h2⟩
theorem RdM.app {A:List (Bool × List Blk)} {L:List Blk} {la ix im:Nat} {N:ZP} (h:RdM ⟨A,false,L⟩ la ix im N) (T:List Blk):RdM ⟨A,false,L++T⟩ la ix im N:=by
 obtain ⟨a0,a1,a3,a4,a5,h1,h2⟩:=h;exact ⟨a0,a1,a3,a4,a5,Yw h1,Yw h2⟩
structure Stay (X X':List Blk) (ic li:Nat):Prop where
 len:X'.length=X.length
 get:∀ i,i≠ic->i≠li->X'[i]?=X[i]?
structure CurL (A:List (Bool × List Blk)) (X:List Blk) (ic li la b im:Nat) (r:Ro) (N:ZP) (s:List UInt8) (a:Nat) (vis:Int):Prop where
 ex:∃ ver es,CurN ⟨A,false,X⟩ A.length ic li la b r N s a vis ver es
 rd:RdM ⟨A,false,X⟩ la (b+5) im N
 n5:¬ (la=A.length/\(b+5=ic\/b+5=li))
 nm:¬ (la=A.length/\(im=ic\/im=li))
 la:la<=A.length
section
variable {A:List (Bool × List Blk)} {X:List Blk} {ic li la b im:Nat} {r:Ro} {N:ZP} {s:List UInt8} {a:Nat} {vis:Int}
theorem CurL.rdo (h:CurL A X ic li la b im r N s a vis):RdO ⟨A,false,X⟩ la (b+5) N [(A.length,ic),(A.length,li)]:=by
 obtain ⟨a0,a1,a3,a4,a5,h1,h2⟩:=h.rd;have n5:=h.n5;have nm:=h.nm
 refine ⟨a0,a1,im,a3,a4,a5,h1,h2,?_,?_⟩<;>simp only [List.mem_cons,jP,List.not_mem_nil,or_false]<;>omega
theorem Zn0 (X:List Blk) (b0 b1:Blk):Zz ⟨A,false,X⟩ [(A.length,ic),(A.length,li)] [b0,b1]=⟨A,false,(X.set ic b0).set li b1⟩:=by
 simp [Zz,St.upd]
theorem Zrr (X:List Blk) (b0 b1:Blk):Stay X ((X.set ic b0).set li b1) ic li :=
 ⟨by simp,fun i h1 h2=>by rw [jS (fun q=>h2 q.symm),jS (fun q=>h1 q.symm)]⟩
theorem CurL.to (h:CurL A X ic li la b im r N s a vis) {a2:Nat} {vis2:Int} {ver2:Nat} {es2:List AV} (q:CurN (Zz ⟨A,false,X⟩ [(A.length,ic),(A.length,li)] (JA (.ptr la (b+5) 0 0 0) r A.length li ver2 (r.h+1) es2 vis2 a2)) A.length ic li la b r N s a2 vis2 ver2 es2) :
 ∃ X',Zz ⟨A,false,X⟩ [(A.length,ic),(A.length,li)] (JA (.ptr la (b+5) 0 0 0) r A.length li ver2 (r.h+1) es2 vis2 a2)=⟨A,false,X'⟩/\CurL A X' ic li la b im r N s a2 vis2/\Stay X X' ic li:=by
 obtain ⟨ver,es,w⟩:=h.ex
 refine ⟨_,Zn0 X _ _,⟨⟨ver2,es2,by rw [<- Zn0];exact q⟩,?_,h.n5,h.nm,h.la⟩,Zrr X _ _⟩
 obtain ⟨a0,a1,im',a3,a4,a5,h1,h2,h3,h4⟩:=h.rdo;obtain ⟨c0,c1,c3,c4,c5,g1,g2⟩:=h.rd;rw [<- Zn0];have n5:=h.n5;have nm:=h.nm
 refine ⟨c0,c1,c3,c4,c5,(w.cl.out rfl rfl ?_).trans g1,(w.cl.out rfl rfl ?_).trans g2⟩<;>simp only [List.mem_cons,jP,List.not_mem_nil,or_false]<;>omega
theorem CurL.at_c (h:CurL A X ic li la b im r N s a vis):S Tb QN [.ptr A.length ic 0 0 0] ⟨A,false,X⟩=some (.int .i64 a,⟨A,false,X⟩):=by
 obtain ⟨ver,es,w⟩:=h.ex;exact Go.Q15.at_c (w.cl.get 0 _ _ _ rfl rfl)
theorem CurL.visited_c (h:CurL A X ic li la b im r N s a vis):S Tb Ja [.ptr A.length ic 0 0 0] ⟨A,false,X⟩=some (.int .i64 vis,⟨A,false,X⟩):=by
 obtain ⟨ver,es,w⟩:=h.ex;exact Go.Q15.visited_c (w.cl.get 0 _ _ _ rfl rfl)
section
variable (hN:GoodN N) (h:Rt N r s) (h0:r.at_≠0) (hs:s.length<=100000)
include hN h h0 hs
theorem CurL.next (hc:CurL A X ic li la b im r N s a vis) (ha:a<s.length) (hv:0<=vis/\vis<700000000) :
 ∃ X' vis2 k,k=ZER Zhk 0 (s.drop a)/\S Tb J5 [.ptr A.length ic 0 0 0] ⟨A,false,X⟩=some (.tup [.str ((s.drop a).take k),.int .i64 0],⟨A,false,X'⟩)/\CurL A X' ic li la b im r N s (a+k) vis2/\Stay X X' ic li/\vis2+Zcn N r s a=vis+Zcn N r s (a+k)/\vis<=vis2/\vis2<=vis+20*k+20:=by
 obtain ⟨ver,es,w⟩:=hc.ex;obtain ⟨ver2,es2,vis2,k,hk,f1,f2,f3,f4,f5⟩:=ZrK w hc.la hc.rdo hN h h0 hs ha hv;obtain ⟨X',e1,e2,e3⟩:=hc.to f2;rw [e1] at f1;exact ⟨X',vis2,k,hk,f1,e2,e3,f3,f4,f5⟩
theorem CurL.seek (hc:CurL A X ic li la b im r N s a vis) (ha:a<=s.length) (hv:0<=vis/\vis<700000000) (x:Nat) (hx:x<=s.length) :
 ∃ X' vis2,S Tb QY [.ptr A.length ic 0 0 0,.int .i64 x] ⟨A,false,X⟩=some (.int .i64 0,⟨A,false,X'⟩)/\CurL A X' ic li la b im r N s x vis2/\Stay X X' ic li/\vis2=vis+((r.h+1-cmL N (min (a:Int) (s.length-1)) (min (x:Int) (s.length-1)) r.h (Qi r):Nat):Int):=by
 obtain ⟨ver,es,w⟩:=hc.ex;obtain ⟨ver2,es2,vis2,f1,f2,f3⟩:=ZrL w hc.la hc.rdo hN h h0 hs ha hv x hx;obtain ⟨X',e1,e2,e3⟩:=hc.to f2;rw [e1] at f1;exact ⟨X',vis2,f1,e2,e3,f3⟩
end
theorem Zhl (hN:GoodN N) (h:Rt N r s) (hs:s.length<=100000) (hR:RdM ⟨A,false,X⟩ la (b+5) im N) (hla:la<=A.length) :
 ∃ X' ic,S Tb Xz [.ptr la (b+5) 0 0 0,r.av] ⟨A,false,X⟩=some (.tup [.ptr A.length ic 0 0 0,.int .i64 0],⟨A,false,X'⟩)/\X.length<=ic/\X.length<=X'.length/\(∀ i,i<X.length->X'[i]?=X[i]?) /\
  ((r.at_=0/\X'[ic]?=some (JW (.ptr la (b+5) 0 0 0) r .nils 0 0))\/(r.at_≠0/\∃ li,X.length<=li/\CurL A X' ic li la b im r N s 0 ((r.h+1:Nat):Int))):=by
 have hCk:=fun T=>Znt hN (hR.app T).rd h hs
 have hroot:∀ c:Blk,(X++[Blk.arr 5 0 [r.av]]++[c])[X.length]?=some (.arr 5 0 [r.av]):=fun c=>by rw [List.append_assoc,List.getElem?_append_right (Nat.le_refl _),Nat.sub_self];rfl
 by_cases h0:r.at_=0
 ·have hz:((r.at_:Nat):Int)=0:=by omega
  refine ⟨X++[.arr 5 0 [r.av]]++[JW (.ptr la (b+5) 0 0 0) r .nils 0 0],(X++[Blk.arr 5 0 [r.av]]).length,XG rfl ?_,by simp only [lL,List.length_singleton];omega,by simp only [lL,List.length_singleton];omega,fun i hi=>by rw [List.append_assoc,jL hi],.inl ⟨h0,by rw [List.getElem?_append_right (Nat.le_refl _),Nat.sub_self];rfl⟩⟩
  unfold Ro.av JW at *
  repeat' (first|refine ZU rfl (hroot _) rfl rfl ?_|refine ZE ?_|refine ZD ?_|refine ZH rfl ?_|refine ZJ rfl rfl ?_|refine ZB rfl ?_|refine ZC ?_|refine QW rfl rfl rfl ?_|(refine Zd rfl rfl (fun _=>?_) (fun _=>?_)<;>try (exfalso;omega))|refine ZG rfl ?_|refine Zq rfl rfl rfl ?_|refine Zu rfl rfl rfl ?_|refine ZA rfl rfl rfl (hCk _) ?_|refine ZI ?_|refine ZO ?_|refine ZL ?_)
  all_goals try contradiction
  all_goals exact JY (.inr rfl) rfl rfl rfl rfl
 ·have hz:((r.at_:Nat):Int)≠0:=by omega
  have hci:(X++[Blk.arr 5 0 [r.av]]++[JW (.ptr la (b+5) 0 0 0) r .nils 0 0])[(X++[Blk.arr 5 0 [r.av]]).length]?=some (JW (.ptr la (b+5) 0 0 0) r .nils 0 0):=by rw [List.getElem?_append_right (Nat.le_refl _),Nat.sub_self];rfl
  obtain ⟨a0,a1,a3,a4,a5,g1,g2⟩:=(hR.app [Blk.arr 5 0 [r.av]]).app [JW (.ptr la (b+5) 0 0 0) r .nils 0 0];obtain ⟨v,st',hE,rfl,X',ver,es,rfl,f1,f2,f3,f4,f5⟩:=Zlc hN h h0 hs hci hla ⟨a0,a1,im,a3,a4,a5,g1,g2⟩
  have hst:∀ i,i<X.length->X'[i]?=X[i]?:=fun i hi=>by
   rw [f5 i (by simp;omega) (by simp;omega),List.append_assoc,jL hi]
  have hin:∀ lv ix c,St.get ⟨A,false,X⟩ lv ix=some c->St.get ⟨A,false,X'⟩ lv ix=some c/\¬ (lv=A.length/\X.length<=ix):=by
   intro lv ix c q;rw [St.get] at q ⊢
   simp only at q ⊢
   by_cases w:lv=A.length
   ·rw [if_pos w] at q ⊢
    have hlt:=ZFY q;rw [hst ix hlt]
    exact ⟨q,fun e=>by omega⟩
   ·rw [if_neg w] at q ⊢
    exact ⟨q,fun e=>w e.1⟩
  obtain ⟨b0,b1,b3,b4,b5,k1,k2⟩:=hR;obtain ⟨k1',k1n⟩:=hin _ _ _ k1;obtain ⟨k2',k2n⟩:=hin _ _ _ k2
  refine ⟨X',(X++[Blk.arr 5 0 [r.av]]).length,XG rfl ?_,by simp,by simp at f4;omega,hst,.inr ⟨h0,(X++[Blk.arr 5 0 [r.av]]++[JW (.ptr la (b+5) 0 0 0) r .nils 0 0]).length+1,by simp;omega,⟨ver,es,⟨f1,f2,by
   rw [f3];obtain ⟨_,_,hp⟩:=h.lv hN h0
   rw [show min ((0:Nat):Int) (s.length-1)=0 by omega]⟩⟩,⟨b0,b1,b3,b4,b5,k1',k2'⟩,?_,?_,hla⟩⟩
  ·unfold Ro.av JW at *
   repeat' (first|refine ZU rfl (hroot _) rfl rfl ?_|refine ZE ?_|refine ZD ?_|refine ZH rfl ?_|refine ZJ rfl rfl ?_|refine ZB rfl ?_|refine ZC ?_|refine Zc rfl rfl ?_|refine QW rfl rfl rfl ?_|(refine Zd rfl rfl (fun _=>?_) (fun _=>?_)<;>try (exfalso;omega))|refine ZS rfl ?_|refine ZG rfl ?_|refine Zq rfl rfl rfl ?_|refine Zu rfl rfl rfl ?_|refine ZA rfl rfl rfl (hCk _) ?_|refine ZA rfl rfl rfl (hE) ?_|refine ZI ?_|refine ZO ?_|refine ZL ?_)
   all_goals try contradiction
   all_goals exact JY (.inr rfl) rfl rfl rfl rfl
  ·simp only [lL,List.length_singleton]
   omega
  ·simp only [lL,List.length_singleton]
   omega
end
theorem Zle (A:List (Bool × List Blk)):S Tb XJ [] ⟨A,false,[]⟩=some (.tup [.ptr A.length 6 0 0 0,exRo.av,.bool true],⟨A,false,[.arr 5 0 [exRo.av]]++(arB A.length 1 exR++[.arr 5 0 [exRo.av]])⟩):=by
 have hN:=Zj8 8 4 (by omega) (by omega) A [.arr 5 0 [Ro.zero.av]]
 have h1:=ZkH (ZG8 A [.arr 5 0 [Ro.zero.av]] [] (JH 8 4)) (ZZe 8 4 (by omega) (by omega)) ZO7 exS (by decide) (by rw [ZqW];decide)
 rw [ZZd,ZqV] at h1
 change S Tb ZCY [.ptr A.length 6 0 0 0,.str exS] ⟨A,false,_⟩=some (_,⟨A,false,[.arr 5 0 [Ro.zero.av]]++(arB A.length 1 exR++[])⟩) at h1
 refine XG rfl ?_
 repeat' (first|refine ZE ?_|refine ZD ?_|refine ZH rfl ?_|refine QB rfl ?_|refine Zi rfl rfl rfl rfl ?_|refine Zr rfl rfl ?_|refine ZB rfl ?_|refine ZC ?_|(refine Zd rfl rfl (fun _=>?_) (fun _=>?_)<;>try (exfalso;omega))|refine ZG rfl ?_|refine Qy rfl rfl rfl rfl ?_|refine Zh rfl rfl rfl ?_|refine ZA rfl rfl rfl (hN) ?_|refine ZI ?_)
 all_goals try contradiction
 all_goals try (exfalso;omega)
 unfold exS at h1;refine ZA rfl rfl rfl h1 ?_
 change Is _ _ _ _ _ _ ⟨A,false,[.arr 5 0 [Ro.zero.av],exR.b0,exR.b1,exR.b2,exR.b3 A.length 1,exR.b4,exR.b5 A.length 1]⟩
 generalize hb0:exR.b0=b0 at *
 generalize hb1:exR.b1=b1 at *
 generalize hb2:exR.b2=b2 at *
 generalize hb3:exR.b3 A.length 1=b3 at *
 generalize hb4:exR.b4=b4 at *
 generalize hb5:exR.b5 A.length 1=b5 at *
 repeat' (first|refine ZE7 rfl rfl rfl rfl rfl rfl ?_|refine ZG4 rfl rfl rfl rfl rfl rfl rfl ?_|refine ZE ?_|refine ZD ?_|refine ZH rfl ?_|refine ZJ rfl rfl ?_|refine ZU rfl rfl rfl rfl ?_|refine QB rfl ?_|refine Zi rfl rfl rfl rfl ?_|refine Zr rfl rfl ?_|refine ZB rfl ?_|refine ZC ?_|(refine Ze rfl rfl (fun _=>?_) (fun _=>?_)<;>try (exfalso;omega))|refine Zh rfl rfl rfl ?_|refine QC rfl rfl rfl rfl rfl rfl ?_|refine ZO ?_|refine ZL ?_)
 all_goals first|exact absurd rfl ‹_›|(refine (Zqo (.inr rfl) rfl rfl rfl rfl rfl).trans ?_;subst hb0 hb1 hb2 hb3 hb4 hb5;rfl)
theorem ZrM:Zcn exR.nodes exRo exS 0=Zcn exR.nodes exRo exS 1:=by decide +kernel
theorem Zlf (st:St):S Tb Jh [] st=some (.bool true,st):=by
 refine QD rfl (fun A hA=>?_)
 obtain ⟨o1,o2,o3⟩:=Zrp;have hS:=Zle A;generalize hX0:[Blk.arr 5 0 [exRo.av]]++(arB A.length 1 exR++[.arr 5 0 [exRo.av]])=X0 at hS
 have hHas:Has ⟨A,false,X0++[.arr 5 0 [exRo.av]]⟩ A.length 1 exR:=by
  rw [<- hX0]
  have:=ZG8 A [.arr 5 0 [exRo.av]] ([.arr 5 0 [exRo.av]]++[.arr 5 0 [exRo.av]]) exR
  simpa [List.append_assoc] using this
 have hRM:RdM ⟨A,false,X0++[.arr 5 0 [exRo.av]]⟩ A.length (1+5) (1+4) exR.nodes:=⟨_,_,_,_,_,hHas.h5,hHas.h4⟩
 obtain ⟨X1,ic,hNew,c1,c2,c3,c4⟩:=Zhl (r:=exRo) o2 o3 (by decide) hRM (Nat.le_refl _)
 rcases c4 with ⟨z,_⟩|⟨z,li,c5,hc⟩
 ·exact absurd z (by decide)
 obtain ⟨X2,vis2,k,hk,hNx,hc2,_,hv2,_,_⟩:=hc.next o2 o3 z (by decide) (by decide) (by decide)
 have hk1:k=1:=by rw [hk];decide
 subst hk1
 have hvv:vis2=2:=by
  rw [Nat.zero_add,ZrM] at hv2
  have:exRo.h=1:=rfl
  rw [this] at hv2;omega
 subst hvv;have hAt:=hc2.at_c;have hVi:=hc2.visited_c;have hstr:(exS.drop 0).take 1=[97]:=rfl;rw [hstr] at hNx
 repeat' (first|refine ZE ?_|refine ZD ?_|refine ZH rfl ?_|refine QB rfl ?_|refine Zi rfl rfl rfl rfl ?_|refine Zr rfl rfl ?_|refine ZB rfl ?_|refine ZC ?_|refine QW rfl rfl rfl ?_|(refine Ze rfl rfl (fun _=>?_) (fun _=>?_)<;>try (exfalso;omega))|(refine Zd rfl rfl (fun _=>?_) (fun _=>?_)<;>try (exfalso;omega))|(refine Yz rfl rfl (fun _=>?_) (fun _=>?_)<;>try contradiction)|refine ZG rfl ?_|refine Yd rfl rfl ?_|refine Qy rfl rfl rfl rfl ?_|refine Zu rfl rfl rfl ?_|refine Q6 rfl rfl rfl rfl rfl rfl ?_|refine ZA rfl rfl rfl (hS) ?_|refine ZA rfl rfl rfl (hNew) ?_|refine ZA rfl rfl rfl (hNx) ?_|refine ZA rfl rfl rfl (hAt) ?_|refine ZA rfl rfl rfl (hVi) ?_|refine ZI ?_|refine ZO ?_|refine ZL ?_)
 all_goals try contradiction
 all_goals try (exfalso;omega)
 refine ZZ hA (by first|exact .inl rfl|exact .inr rfl) rfl rfl rfl rfl ?_
 rfl
set_option maxHeartbeats 16000000
def ltL (n:Nat) (r:AR) (v:Nat) (ros:List Ro) (G0:List Blk) (w:Nat) (ss:List (List UInt8)) (G1:List Blk):List Blk :=
 r.b0::r.b1::r.b2::r.b3 n 0::r.b4::r.b5 n 0::.arr 5 v (ros.map Ro.av)::(G0++.arr 1 w (ss.map .str)::G1)
section
variable {A:List (Bool × List Blk)} {r:AR} {v:Nat} {ros:List Ro} {G0:List Blk} {w:Nat} {ss:List (List UInt8)} {G1:List Blk}
theorem ZZq:Has ⟨A,false,ltL A.length r v ros G0 w ss G1⟩ A.length 0 r:=ZG8 A [] (.arr 5 v (ros.map Ro.av)::(G0++.arr 1 w (ss.map .str)::G1)) r
theorem ZqY:Rd ⟨A,false,ltL A.length r v ros G0 w ss G1⟩ A.length 5 r.nodes:=(ZZq).r.rd
theorem ZrN (r':AR):Q8 ⟨A,false,ltL A.length r v ros G0 w ss G1⟩ A.length 0 r'=⟨A,false,ltL A.length r' v ros G0 w ss G1⟩:=ZZd A [] (.arr 5 v (ros.map Ro.av)::(G0++.arr 1 w (ss.map .str)::G1)) r r'
theorem ZrO {n:Nat}:(ltL n r v ros G0 w ss G1)[6]?=some (.arr 5 v (ros.map Ro.av)):=rfl
theorem lt_7 {n:Nat}:(ltL n r v ros G0 w ss G1)[7+G0.length]?=some (.arr 1 w (ss.map .str)):=by
 rw [show 7+G0.length=G0.length+7 by omega]
 show (G0++.arr 1 w (ss.map .str)::G1)[G0.length]?=_
 exact ZRm _ _ _
theorem Zn1 {n:Nat} (b:Blk):ltL n r v ros G0 w ss G1++[b]=ltL n r v ros G0 w ss (G1++[b]):=by simp [ltL]
theorem ZqG {n:Nat} (v':Nat) (x:Ro):(ltL n r v ros G0 w ss G1).set 6 (.arr 5 v' (ros.map Ro.av++[x.av]))=ltL n r v' (ros++[x]) G0 w ss G1:=by
 unfold ltL;rw [List.map_append];rfl
theorem ZqH {n:Nat} (w':Nat) (s:List UInt8):(ltL n r v ros G0 w ss G1).set (7+G0.length) (.arr 1 w' (ss.map .str++[.str s]))=ltL n r v ros G0 w' (ss++[s]) G1:=by
 rw [show 7+G0.length=G0.length+7 by omega]
 unfold ltL;simp only [List.set_cons_succ,List.map_append]
 rw [show (G0++Blk.arr 1 w (ss.map .str)::G1).set G0.length (Blk.arr 1 w' (ss.map .str++[AV.str s]))=G0++Blk.arr 1 w' (ss.map .str++[AV.str s])::G1 by simp]
 rfl
end
theorem ZjH {ys:List Ed} {i:Nat} {y:Ed} (h:ys[i]?=some y):((ys.map Ed.av).drop i).take (i+1-i)=[y].map Ed.av:=by
 rw [<- List.map_drop,<- List.map_take,show i+1-i=1 by omega]
 obtain ⟨h1,h2⟩:=List.getElem?_eq_some_iff.1 h;rw [List.drop_eq_getElem_cons h1,h2];rfl
theorem Zn2 (ys:List Ed):JB 5 (ys.map Ed.av)=true:=by
 induction ys with
 | nil=>rfl
 | cons b s ih=>rw [jC,JB,List.all_cons];exact Bool.and_eq_true_iff.2 ⟨rfl,ih⟩
theorem ZkO {O:Orc} {k:List Fr} {Q:Jp} {e:Env} {st:St} {keep:List Nat} {is:List QAbs.PI} {d:Nat} {ys:List Ed} {i:Nat} {y:Ed} {x a b:Opd} {z:Int} (hx:Zb e x=some (.lit (ys.map Ed.av))) (ha:Zb e a=some (.int .i64 i)) (hb:Zb e b=some (.int .i64 z)) (hz:z=i+1) (hy:ys[i]?=some y)
 (h:Is O is keep k Q ((d,.lit ([y].map Ed.av))::e) st):Is O (⟨some d,none,false,.slc 5 x (some a) (some b)⟩::is) keep k Q e st:=by
 have hlt:=(List.getElem?_eq_some_iff.1 hy).1;refine Zd6 (r:=i+1) (l:=i) hx ?_ ?_ (Zn2 _) ?_
 ·simp only [ZDR,ZF hb,Jc,List.length_map]
  rw [if_pos (by omega)];congr 1;omega
 ·simp only [ZDR,ZF ha,Jc]
  rw [if_pos (by omega)];rfl
 ·rw [ZjH hy];exact h
theorem ZrP {texts:List (List UInt8)} {ys:List Ed} (hl:¬ ZSU texts) (hm:¬ ZZh ys):(texts.flatten.length<=900/\texts.length<=4)/\ys.length<=60/\∀ y∈ys,y.text.length<=200:=by
 refine ⟨?_,Znf hm⟩
 have:=Zng hl
 rw [List.length_flatten];omega
theorem ZjI {texts:List (List UInt8)} (h9:texts.flatten.length<=900):∀ s∈texts,s.length<=900:=by
 intro s hs;obtain ⟨i,hi,rfl⟩:=List.getElem_of_mem hs;have h1:=Zhb (l:=texts) (jE hi);have h2:=ZVc texts (i+1);rw [h1,lL] at h2;omega
theorem Zn3 (texts:List (List UInt8)) (hl:texts.flatten.length<=900):∀ i,i<=texts.length->(XD (texts.take i)).1.nodes.length+(XD (texts.take i)).1.n=1500:=by
 intro i
 induction i with
 | zero=>intro _;simp [XD,JH]
 | succ i ih =>
  intro hi
  obtain ⟨s,hs⟩:∃ s,texts[i]?=some s:=⟨texts[i]'(by omega),by simp [show i<texts.length by omega]⟩
  have hl2:=ZVc texts (i+1)
  have h:=ZZg texts hl i (by omega)
  obtain ⟨hn,_⟩:=ZZf (s:=s) h (by rw [<- Zn hs];omega)
  have hfl:=Zhb hs
  have hs2:s.length<=900:=by rw [hfl,lL] at hl2;omega
  obtain ⟨b1,b2,b3⟩:=Xw h.good (show s.length<=65536 by omega)
  obtain ⟨w1,_⟩:=ZkG (ZG8 [] [] [] _) h.ok h.good b1 (by rw [b3];omega) hn
  have h1:=w1.n;have h2:=w1.nl
  have h3:=ih (by omega)
  rw [Zn hs,ZMm]
  show (wrV (Qz s) _).1.nodes.length+(wrV (Qz s) _).1.n=1500
  omega
theorem Zn4 {N:ZP} (hN:GoodN N) {ros:List Ro} (h:PlanOk N ros) {y:Ed} (hy:y.text.length<=200) {B:Int} (hB:0<=B) (hr:∀ r∈ros,r.m.b<=B):(ZDO N ros y).bytes<=B+200:=by
 unfold ZDO
 match hq:Zda ros y.n with
 | none =>
  obtain ⟨b1,b2,b3⟩:=Xw hN (s:=y.text) (by omega)
  show (Qz y.text).bytes<=_;omega
 | some r =>
  have hm:=jM (show ros[_]?=some r from hq)
  obtain ⟨h1,h2,h3,h4⟩:=h.rt r hm;have h5:=hr r hm;have p1:=JE (x:=y.at_) h3
  have p2:=JE (x:=y.len) (n:=r.m.b-JS y.at_ r.m.b) (by omega)
  have:=ZO6 hN (s:=y.text) h1.keep (a:=JS y.at_ r.m.b) (n:=JS y.len (r.m.b-JS y.at_ r.m.b)) p1.1 p2.1 (by omega) (by omega) (by omega)
  show (Tr.own _).bytes<=_
  rw [ZKk,this.bytes];omega
structure MkInv (r:AR) (ros:List Ro) (ss:List (List UInt8)) (n:Nat) (B:Nat):Prop where
 ok:AROk r
 good:GoodN r.nodes
 rts:Rts r.nodes ros ss
 len:ros.length=n
 n20:n<=20
 small:∀ s∈ss,s.length<=B
 nl:r.nodes.length+r.n=1500
theorem MkInv.plan {r:AR} {ros:List Ro} {ss:List (List UInt8)} {n B:Nat} (h:MkInv r ros ss n B) (hB:B<=60000):PlanOk r.nodes ros:=h.rts.plan h.good (by have:=h.len;have:=h.n20;omega) (fun s hs=>by have:=h.small s hs;omega)
theorem MkInv.mb {r:AR} {ros:List Ro} {ss:List (List UInt8)} {n B:Nat} (h:MkInv r ros ss n B):∀ ro∈ros,ro.m.b<=(B:Int):=by
 intro ro hr;obtain ⟨i,hi,rfl⟩:=List.getElem_of_mem hr
 have hi2:i<ss.length:=by rw [<- h.rts.1];exact hi
 have g:=h.rts.2 i _ _ (jE hi) (jE hi2)
 have:=(g.b h.good).2
 have:=h.small _ (List.getElem_mem hi2)
 omega
theorem ZrQ (texts:List (List UInt8)) (ys:List Ed) (h9:texts.flatten.length<=900/\texts.length<=4) (hy12:ys.length<=12) (hys:∀ y∈ys,y.text.length<=200) (A:List (Bool × List Blk)) :
 Sp Tb YM [.lit (texts.map .str),.lit (ys.map Ed.av)] ⟨A,false,[]⟩ (fun v st'=>∃ r c ros ss G0 G1 n,v=.tup [.ptr A.length 5 0 0 0,.ref A.length 6 n 0 n,.ref A.length (7+G0.length) c 0 n,.bool true]/\st'=⟨A,false,ltL A.length r n ros G0 c ss G1⟩/\MkInv r ros ss n 3300):=by
 refine ZVX (rfl:Tb YM=some (.pf Xo)) ?_;have hLd:=Zq5 texts h9.1 h9.2 A [];have hLok:=ZZg texts h9.1 texts.length (Nat.le_refl _);have hnl0:=Zn3 texts h9.1 texts.length (Nat.le_refl _);rw [List.take_length] at hLok hnl0;have hrl:=hLok.rts.1;obtain ⟨r0,ros0,hV⟩:∃ r0 ros0,XD texts=(r0,ros0):=⟨_,_,rfl⟩;rw [hV] at hLd hLok hrl hnl0
 simp only at hLd hLok hrl hnl0
 have hG:(ZEQ ros0).length=texts.length:=by unfold ZEQ;rw [List.length_map,hrl]
 generalize ZEQ ros0=G0 at *
 change S Tb YO [.lit (texts.map .str)] ⟨A,false,[]⟩=some (.tup [.ptr A.length 5 0 0 0,.ref A.length 6 texts.length 0 texts.length,.bool true],⟨A,false,r0.b0::r0.b1::r0.b2::r0.b3 A.length 0::r0.b4::r0.b5 A.length 0::.arr 5 texts.length (ros0.map Ro.av)::G0⟩) at hLd
 repeat' (first|refine ZE ?_|refine ZD ?_|refine ZH rfl ?_|refine Zr rfl rfl ?_|refine ZB rfl ?_|refine ZC ?_|refine ZG rfl ?_|refine Yd rfl rfl ?_|refine JZ rfl rfl rfl rfl ?_|refine ZA rfl rfl rfl (hLd) ?_|refine ZI ?_)
 all_goals try contradiction
 refine ZDM (vx:=.lit (texts.map .str)) (ys:=texts.map .str) (bytes:=16) rfl rfl rfl (by rw [List.length_map];omega) (by decide) (ZlR _) ?_
 repeat' (first|refine ZE ?_|refine ZD ?_|refine ZH rfl ?_|refine ZB rfl ?_|refine ZC ?_|refine ZQ ?_)
 have hl7:(r0.b0::r0.b1::r0.b2::r0.b3 A.length 0::r0.b4::r0.b5 A.length 0::Blk.arr 5 texts.length (ros0.map Ro.av)::G0).length=7+G0.length:=by simp;omega
 rw [hl7,List.length_map]
 refine Z2 (α:=Nat × Nat × AR × List Ro × List (List UInt8) × List Blk) (fun q=>[(1,.lit (ys.map Ed.av)),(8,.ptr A.length 5 0 0 0),(9,.ref A.length 6 (texts.length+q.2.1) 0 (texts.length+q.2.1)),(11,.ref A.length (7+G0.length) q.2.1 0 (texts.length+q.2.1)),(12,.int .i64 q.1)])
  (fun q=>⟨A,false,ltL A.length q.2.2.1 (texts.length+q.2.1) q.2.2.2.1 G0 q.2.1 q.2.2.2.2.1 q.2.2.2.2.2⟩) (fun q=>q.1<=ys.length/\q.2.1<=q.1/\MkInv q.2.2.1 q.2.2.2.1 q.2.2.2.2.1 (texts.length+q.2.1) (900+200*q.1)) (fun q=>ys.length-q.1) (0,0,r0,ros0,texts,[]) rfl rfl ⟨Nat.zero_le _,Nat.zero_le _,hLok.ok,hLok.good,hLok.rts,hrl,by simp only;omega,ZjI h9.1,hnl0⟩ ?_
 rintro ⟨i,c,r,ros,ss,G1⟩ ⟨hi,hci,hI⟩
 simp only at hi hci hI ⊢
 have hsl:=hI.rts.1;have hrs:=hI.len
 rcases Nat.lt_or_ge i ys.length with hlt|hge
 ·obtain ⟨y,hyi⟩:∃ y,ys[i]?=some y:=⟨ys[i]'(by omega),by simp [hlt]⟩
  have hy2:=hys y (jM hyi)
  have hP:PlanOk r.nodes ros:=hI.plan (by omega)
  obtain ⟨hv,hvb⟩:=Znd hI.good hP hy2
  have hvs:=Zn4 hI.good hP hy2 (B:=((900+200*i:Nat):Int)) (by omega) hI.mb
  have hPl:=fun L (hR:Rd ⟨A,false,L⟩ A.length 5 r.nodes) (hg:St.get ⟨A,false,L⟩ A.length 6=some (.arr 5 (texts.length+c) (ros.map Ro.av)))=>Zp1 (b:=0) hI.good hR hg hP (ys:=[y]) (by simp) (fun z hz=>by rw [List.mem_singleton] at hz;rw [hz];exact hy2)
  have hPl:=hPl _ ZqY (Zfj (ZrO (r:=r) (v:=texts.length+c) (G0:=G0) (w:=c) (ss:=ss) (G1:=G1)) rfl)
  have hTx:=Zqy hI.good (ZqY (A:=A) (r:=r) (v:=texts.length+c) (ros:=ros) (G0:=G0) (w:=c) (ss:=ss) (G1:=G1)) hv (by omega)
  have hln:=hv.len hI.good;simp only [jC,List.map_nil] at hPl;rw [hrs] at hPl
  generalize hT:ZDO r.nodes ros y=t at *
  rcases Nat.lt_or_ge r.n (nw t) with hfull|hroom
  ·have hWr:=Zi6 (ZZq (A:=A) (r:=r) (v:=texts.length+c) (ros:=ros) (G0:=G0) (w:=c) (ss:=ss) (G1:=G1)) hI.ok hI.good hv (by omega) hfull
   have eb:=Zn1 (n:=A.length) (r:=r) (v:=texts.length+c) (ros:=ros) (G0:=G0) (w:=c) (ss:=ss) (G1:=G1) (.arr 5 0 [Ro.zero.av])
   generalize ltL A.length r (texts.length+c) ros G0 c ss G1=L1 at *
   repeat' (first|refine ZLd rfl ?_|refine ZkO rfl rfl rfl rfl hyi ?_|refine Xf (f:=Tr.av) (l:=[t]) rfl rfl ⟨by decide,rfl⟩ Z8 ?_|refine ZE ?_|refine ZD ?_|refine ZH rfl ?_|refine Zr rfl rfl ?_|refine ZB rfl ?_|refine ZC ?_|(refine Zj rfl rfl (fun _=>?_) (fun _=>?_)<;>try (exfalso;omega))|(refine Ze rfl rfl (fun _=>?_) (fun _=>?_)<;>try (exfalso;omega))|(refine Zd rfl rfl (fun _=>?_) (fun _=>?_)<;>try (exfalso;omega))|refine ZS rfl ?_|refine ZG rfl ?_|refine Yd rfl rfl ?_|refine Zo rfl rfl (by omega) ?_|refine Zu rfl rfl rfl ?_|refine Q6 rfl rfl rfl rfl rfl rfl ?_|refine Qp rfl (Zt _) ?_|refine ZA rfl rfl (by first|rfl|(simp only [lE,lN,lC,Zl,ZY,ZX];first|done|rfl)) (hPl) ?_|refine ZA rfl rfl (by first|rfl|(simp only [lE,lN,lC,Zl,ZY,ZX];first|done|rfl)) (hTx) ?_|refine ZA rfl rfl (by first|rfl|(simp only [lE,lN,lC,Zl,ZY,ZX];first|done|rfl)) (hWr) ?_|refine ZI ?_|refine Zy ?_|refine ZQ ?_|refine Zk ?_|refine Zf rfl ?_|refine QG ?_)
   all_goals try contradiction
   all_goals try (exfalso;omega)
   refine ⟨(i+1,c,r,ros,ss,G1++[Blk.arr 5 0 [Ro.zero.av]]),⟨rfl,?_⟩,⟨by simp only;omega,by simp only;omega,hI.ok,hI.good,hI.rts,hrs,hI.n20,fun s hs=>by have:=hI.small s hs;simp only;omega,hI.nl⟩,by simp only;omega⟩
   exact congrArg (St.mk A false) eb
  ·have hWr:=ZkF (ZZq (A:=A) (r:=r) (v:=texts.length+c) (ros:=ros) (G0:=G0) (w:=c) (ss:=ss) (G1:=G1)) hI.ok hI.good hv (by omega) hroom
   rw [ZrN] at hWr
   obtain ⟨w1,w2⟩:=ZkG (ZZq (A:=A) (r:=r) (v:=texts.length+c) (ros:=ros) (G0:=G0) (w:=c) (ss:=ss) (G1:=G1)) hI.ok hI.good hv (by omega) hroom
   have f6:(ltL A.length (wrV t r).1 (texts.length+c) ros G0 c ss G1)[6]?=_:=ZrO;have f7:(ltL A.length (wrV t r).1 (texts.length+c) ros G0 c ss G1)[7+G0.length]?=_:=lt_7;have n1:=w1.n;have n2:=w1.nl;have n3:=hI.nl;have n4:=hI.n20
   generalize hL2:ltL A.length (wrV t r).1 (texts.length+c) ros G0 c ss G1=L2 at *
   generalize ltL A.length r (texts.length+c) ros G0 c ss G1=L1 at *
   generalize (wrV t r).1=r2 at *
   generalize (wrV t r).2.1=ro at *
   generalize (wrV t r).2.2=hh at *
   generalize hTT:t.txt r.nodes=T at *
   have hl6:=(List.getElem?_eq_some_iff.1 f6).1;have hl7':=(List.getElem?_eq_some_iff.1 f7).1
   repeat' (first|refine ZLd rfl ?_|refine ZkO rfl rfl rfl rfl hyi ?_|refine Xf (f:=Tr.av) (l:=[t]) rfl rfl ⟨by decide,rfl⟩ Z8 ?_|refine ZE ?_|refine ZD ?_|refine ZH rfl ?_|refine Zr rfl rfl ?_|refine ZB rfl ?_|refine ZC ?_|refine QW rfl rfl rfl ?_|(refine Zj rfl rfl (fun _=>?_) (fun _=>?_)<;>try (exfalso;omega))|(refine Ze rfl rfl (fun _=>?_) (fun _=>?_)<;>try (exfalso;omega))|(refine Zd rfl rfl (fun _=>?_) (fun _=>?_)<;>try (exfalso;omega))|refine ZS rfl ?_|refine ZG rfl ?_|refine Yd rfl rfl ?_|refine Zo rfl rfl (by omega) ?_|refine Zu rfl rfl rfl ?_|refine Q6 rfl rfl rfl rfl rfl rfl ?_|refine JZ rfl rfl rfl rfl ?_|refine Qp rfl (Zt _) ?_|refine ZA rfl rfl (by first|rfl|(simp only [lE,lN,lC,Zl,ZY,ZX];first|done|rfl)) (hPl) ?_|refine ZA rfl rfl (by first|rfl|(simp only [lE,lN,lC,Zl,ZY,ZX];first|done|rfl)) (hTx) ?_|refine ZA rfl rfl (by first|rfl|(simp only [lE,lN,lC,Zl,ZY,ZX];first|done|rfl)) (hWr) ?_|refine ZI ?_|refine ZQ ?_)
   all_goals try contradiction
   all_goals try (exfalso;omega)
   refine ZCG (es:=ros.map Ro.av) (ys:=[ro.av]) rfl rfl (XT f6) (by rw [List.length_map];omega) rfl rfl (by rw [List.length_map,List.length_singleton];omega) (by decide) ?_
   repeat' (first|refine ZD ?_|refine ZH rfl ?_|refine ZB rfl ?_|refine ZC ?_|refine JZ rfl rfl rfl rfl ?_)
   refine ZCG (es:=ss.map .str) (ys:=[.str T]) rfl rfl ((jS (by omega)).trans (XT f7)) (by rw [List.length_map];omega) rfl rfl (by rw [List.length_map,List.length_singleton];omega) (by decide) ?_
   repeat' (first|refine ZD ?_|refine ZH rfl ?_|refine ZB rfl ?_|refine ZC ?_|refine Zo rfl rfl (by omega) ?_|refine QF ?_|refine QG ?_)
   refine ⟨(i+1,c+1,r2,ros++[ro],ss++[T],G1++[.arr 5 0 [ro.av]]),⟨rfl,?_⟩,⟨by simp only;omega,by simp only;omega,w1.ok,w1.good,(hI.rts.ext hI.good w1.ext).snoc w2,by simp only [lL,List.length_singleton];omega,by simp only;omega,fun s hs=>?_,by simp only;omega⟩,by simp only;omega⟩
   ·show (⟨A,false,((L2++[Blk.arr 5 0 [ro.av]]).set 6 (Blk.arr 5 (texts.length+c+1) (ros.map Ro.av++[ro.av]))).set (7+G0.length) (Blk.arr 1 (c+1) (ss.map AV.str++[AV.str T]))⟩:St)=_
    rw [<- hL2,Zn1,ZqG,ZqH];rfl
   ·rcases List.mem_append.1 hs with q|q
    ·have:=hI.small s q;simp only;omega
    ·rw [List.mem_singleton.1 q];simp only;omega
 ·obtain rfl:i=ys.length:=by omega
  repeat' (first|refine ZLd rfl ?_|refine ZE ?_|refine ZD ?_|refine ZH rfl ?_|refine ZB rfl ?_|refine ZC ?_|(refine Zj rfl rfl (fun _=>?_) (fun _=>?_)<;>try (exfalso;omega))|refine ZG rfl ?_|refine ZO ?_|refine Zy ?_|refine ZL ?_|refine Zk ?_|refine Zf rfl ?_|refine Zw ?_)
  all_goals try (exfalso;omega)
  refine ⟨_,_,JY (.inr rfl) rfl rfl rfl rfl,r,c,ros,ss,G0,G1,texts.length+c,rfl,rfl,hI.ok,hI.good,hI.rts,hrs,hI.n20,fun s hs=>?_,hI.nl⟩
  have:=hI.small s hs
  omega
def ZD5 (texts:List (List UInt8)) (ys:List Ed):Prop:=ZSU texts\/ZZh ys\/12<ys.length
noncomputable instance (texts:List (List UInt8)) (ys:List Ed):Decidable (ZD5 texts ys):=Classical.propDecidable _
theorem Zn5 (texts:List (List UInt8)) (ys:List Ed) (hb:texts.length<9223372036854775808) (hbs:∀ s∈texts,s.length<9223372036854775808) (hy:ys.length<9223372036854775808) (hys:∀ y∈ys,y.text.length<9223372036854775808) (st:St) :
 S Tb Yp [.lit (texts.map .str),.lit (ys.map Ed.av)] st=some (.bool (decide (ZD5 texts ys)),st):=by
 refine QD rfl (fun A hA=>?_)
 have hLg:=fun st=>Zq6 texts hb hbs st
 have hMn:=fun st=>Zne ys hy hys st
 by_cases hl:ZSU texts
 ·rw [decide_eq_true (show ZD5 texts ys from .inl hl)]
  simp only [decide_eq_true hl] at hLg
  repeat' (first|refine ZE ?_|refine ZD ?_|refine ZH rfl ?_|refine Jg rfl rfl ?_|refine Zi rfl rfl rfl rfl ?_|refine ZB rfl ?_|refine ZC ?_|refine ZA rfl rfl rfl (hLg _) ?_|refine ZO ?_|refine ZL ?_)
  all_goals try contradiction
  all_goals refine ZZ hA (by first|exact .inl rfl|exact .inr rfl) rfl rfl rfl rfl ?_
  all_goals rfl
 simp only [decide_eq_false hl] at hLg
 by_cases hm:ZZh ys
 ·rw [decide_eq_true (show ZD5 texts ys from .inr (.inl hm))]
  simp only [decide_eq_true hm] at hMn
  repeat' (first|refine ZE ?_|refine ZD ?_|refine ZH rfl ?_|refine QB rfl ?_|refine Jg rfl rfl ?_|refine Zi rfl rfl rfl rfl ?_|refine ZB rfl ?_|refine ZC ?_|refine ZA rfl rfl rfl (hLg _) ?_|refine ZA rfl rfl rfl (hMn _) ?_|refine ZO ?_|refine ZL ?_)
  all_goals try contradiction
  all_goals refine ZZ hA (by first|exact .inl rfl|exact .inr rfl) rfl rfl rfl rfl ?_
  all_goals rfl
 simp only [decide_eq_false hm] at hMn
 by_cases h12:12<ys.length
 ·rw [decide_eq_true (show ZD5 texts ys from .inr (.inr h12))]
  repeat' (first|refine ZLd rfl ?_|refine ZE ?_|refine ZD ?_|refine ZH rfl ?_|refine QB rfl ?_|refine Zi rfl rfl rfl rfl ?_|refine ZB rfl ?_|refine ZC ?_|(refine QH rfl rfl (fun _=>?_) (fun _=>?_)<;>try (exfalso;omega))|refine ZA rfl rfl rfl (hLg _) ?_|refine ZA rfl rfl rfl (hMn _) ?_|refine ZO ?_|refine ZL ?_)
  all_goals try contradiction
  all_goals try (exfalso;omega)
  all_goals refine ZZ hA (by first|exact .inl rfl|exact .inr rfl) rfl rfl rfl rfl ?_
  all_goals rfl
 ·rw [decide_eq_false (show ¬ ZD5 texts ys from fun q=>q.elim hl fun q=>q.elim hm h12)]
  repeat' (first|refine ZLd rfl ?_|refine ZE ?_|refine ZD ?_|refine ZH rfl ?_|refine QB rfl ?_|refine Zi rfl rfl rfl rfl ?_|refine ZB rfl ?_|refine ZC ?_|(refine QH rfl rfl (fun _=>?_) (fun _=>?_)<;>try (exfalso;omega))|refine ZA rfl rfl rfl (hLg _) ?_|refine ZA rfl rfl rfl (hMn _) ?_|refine ZO ?_|refine ZL ?_)
  all_goals try contradiction
  all_goals try (exfalso;omega)
  all_goals refine ZZ hA (by first|exact .inl rfl|exact .inr rfl) rfl rfl rfl rfl ?_
  all_goals rfl
theorem Zn6 (x n:Int) (h0:0<=n) (h1:n<4611686018427387904) (st:St):S Tb YN [.int .i64 x,.int .i64 n] st=some (.int .i64 (JS x n),st):=by
 refine QD rfl (fun A hA=>?_)
 have hP:=fun st=>Zfm x n h0 h1 st
 repeat' (first|refine ZE ?_|refine ZD ?_|refine ZH rfl ?_|refine ZB rfl ?_|refine ZC ?_|refine ZA rfl rfl rfl (hP _) ?_|refine ZO ?_|refine ZL ?_)
 refine ZZ hA (by first|exact .inl rfl|exact .inr rfl) rfl rfl rfl rfl ?_
 rfl
structure Op where
 at_:Int
 num:Int
 text:List UInt8
def Zrs (l:List Op):Prop:=∃ s∈l,300<s.text.length
noncomputable instance (l:List Op):Decidable (Zrs l):=Classical.propDecidable _
section
variable {O:Orc} {k:List Fr} {Q:Jp} {e:Env} {A:List (Bool × List Blk)} {L:List Blk} {keep:List Nat} {is:List QAbs.PI} {d:Nat} {st:St}
theorem Zlg {w:Nat} {x i b:Opd} {ix ver s m v2 s2 m2:Nat} {n:Int} {es:List AV} (hx:Zb e x=some (.ref A.length ix ver s m)) (hb:Zb e b=some (.ref A.length ix v2 s2 m2)) (hi:Zb e i=some (.int .i64 n)) (hn:0<=n/\n<m) (hg:L[ix]?=some (Blk.arr w ver es))
 (h:Is O is keep k Q ((d,.ptr A.length ix ver (s+n.toNat) 0)::e) ⟨A,false,L⟩):Is O (⟨some d,none,false,.w (.only b) (.ixS w x i)⟩::is) keep k Q e ⟨A,false,L⟩:=by
 refine Z5 (v:=.ptr A.length ix ver (s+n.toNat) 0) (st':=⟨A,false,L⟩) ?_ h
 have hgt:(St.hide (fun lv ix=>!Y9 lv ix (b.get e)) ⟨A,false,L⟩).get A.length ix=some (Blk.arr w ver es):=by
  rw [XM,St.get_cur,hg,ZF hb]
  simp [Y9,vis]
 have hio:Yf m (.int .i64 n)=some n.toNat:=by simp only [Yf,if_pos hn]
 simp only [Zg,QA,PO.reads,if_true,evalPO,ZF hx,ZF hi,ixSV,hio,hgt,wIs,oS,Qd,QQ]
 simp [Qd,QQ]
theorem ZjJ {a b:Opd} {agg:Bool} {n ix ver i o w v2 s2 m2:Nat} {es:List AV} {x v:AV} (ha:Zb e a=some (.ptr A.length ix ver i o)) (hb:Zb e b=some (.ref A.length ix v2 s2 m2))
 (hg:L[ix]?=some (Blk.arr w ver es)) (hx:es[i]?=some x) (hv:Jb x agg o n=some v) (h:Is O is keep k Q ((d,v)::e) ⟨A,false,L⟩):Is O (⟨some d,none,false,.w (.only b) (.ld agg n a)⟩::is) keep k Q e ⟨A,false,L⟩:=by
 refine Z5 (v:=v) (st':=⟨A,false,L⟩) ?_ h
 have hgt:(St.hide (fun lv ix=>!Y9 lv ix (b.get e)) ⟨A,false,L⟩).get A.length ix=some (Blk.arr w ver es):=by
  rw [XM,St.get_cur,hg,ZF hb]
  simp [Y9,vis]
 simp only [Zg,QA,PO.reads,if_true,evalPO,ZF ha,loadP,hgt,ZES,hx,hv,oS,Qd,QQ]
theorem ZrR {a x b:Opd} {n lv ix ver i o lv2 ix2 v2 s2 m2:Nat} {vx:AV} (ha:Zb e a=some (.ptr lv ix ver i o)) (hb:Zb e b=some (.ref lv2 ix2 v2 s2 m2)) (hx:Zb e x=some vx) (hne:¬ (lv=lv2/\ix=ix2)) (hh:ZAQ 6 (lv+1) vx=true)
 (h:Is O (⟨none,none,false,.st n a x⟩::is) keep k Q e st):Is O (⟨none,none,false,.w (.off b) (.st n a x)⟩::is) keep k Q e st:=by
 refine Zff ?_ h
 have hs:Zf2 (.ref lv2 ix2 v2 s2 m2) (.ptr lv ix ver i o) vx=true:=by
  unfold Zf2;simp only [Y9,hh,Bool.and_true,Bool.not_eq_true',Bool.and_eq_false_iff,beq_eq_false_iff_ne,ne_eq]
  by_cases q:lv=lv2
  ·exact .inr fun z=>hne ⟨q,z⟩
  ·exact .inl q
 simp only [Zg,QA,ZkQ,ZF ha,ZF hb,ZF hx,hs,if_true]
end
section
variable {n:Nat} {r:AR} {v w:Nat} {ros:List Ro} {ss:List (List UInt8)} {G0 G1 G2:List Blk}
theorem ZrS:(ltL n r v ros G0 w ss G1).length=8+G0.length+G1.length:=by
 simp [ltL];omega
end
section
variable {A:List (Bool × List Blk)} {X:List Blk} {ic li la b im:Nat} {r:Ro} {N:ZP} {s:List UInt8} {a:Nat} {vis:Int}
end
set_option maxHeartbeats 32000000
theorem Zn7 {st:St} {la b:Nat} {N:ZP} (hN:GoodN N) (hR:Rd st la (b+5) N) {r:Ro} {s:List UInt8} (h:Rt N r s) {k:Int} (hk:r.m.l<k) (hk2:k<1000000) :
 S Tb Q1 [.ptr la (b+5) 0 0 0,r.av,.int .i64 k] st=some (.tup [.int .i64 0,.int .i64 3],st):=by
 have hm:=h.m hN
 have hmr:r.m.l=s.countP Z3:=by rw [hm];rfl
 refine QD rfl (fun A hA=>?_)
 have hC:=fun L=>ZDP (hR.push hA (ro:=false) (L:=L)) h.rt
 unfold Ro.av at *
 repeat' (first|refine ZE ?_|refine ZD ?_|refine ZH rfl ?_|refine ZJ rfl rfl ?_|refine ZU rfl rfl rfl rfl ?_|refine QB rfl ?_|refine Zi rfl rfl rfl rfl ?_|refine ZB rfl ?_|refine ZC ?_|(refine Zj rfl rfl (fun _=>?_) (fun _=>?_)<;>try (exfalso;omega))|(refine QH rfl rfl (fun _=>?_) (fun _=>?_)<;>try (exfalso;omega))|(refine Zd rfl rfl (fun _=>?_) (fun _=>?_)<;>try (exfalso;omega))|refine ZS rfl ?_|refine ZG rfl ?_|refine Zh rfl rfl rfl ?_|refine ZA rfl rfl rfl (hC _) ?_|refine ZI ?_|refine ZO ?_|refine ZL ?_|refine ZW ?_)
 all_goals try contradiction
 all_goals try (exfalso;omega)
 all_goals refine ZZ hA (by first|exact .inl rfl|exact .inr rfl) rfl rfl rfl rfl ?_
 all_goals rfl
section
variable {st:St} {lv ic li ver la b:Nat} {r:Ro} {es:List AV} {vis:Int} {N:ZP} {s:List UInt8} {a:Nat}
theorem ZjK (H:CurN st lv ic li la b r N s a vis ver es) (hla:la<=lv) (hR:RdO st la (b+5) N [(lv,ic),(lv,li)]) (hN:GoodN N) (h:Rt N r s) (h0:r.at_≠0) (hs:s.length<=100000) (ha:a<=s.length) (hv:0<=vis/\vis<700000000) (x:Nat) (hx:x<=s.length)
 (hL:∀ {st:St},Rd st la (b+5) N->S Tb Q1 [.ptr la (b+5) 0 0 0,r.av,.int .i64 ((((s.take a).countP Z3:Nat):Int)+1)] st=some (.tup [.int .i64 x,.int .i64 0],st)) :
 ∃ ver2 es2 vis2,S Tb QO [.ptr lv ic 0 0 0] st=some (.int .i64 0,Zz st [(lv,ic),(lv,li)] (JA (.ptr la (b+5) 0 0 0) r lv li ver2 (r.h+1) es2 vis2 x)) /\
  CurN (Zz st [(lv,ic),(lv,li)] (JA (.ptr la (b+5) 0 0 0) r lv li ver2 (r.h+1) es2 vis2 x)) lv ic li la b r N s x vis2 ver2 es2/\vis2=vis+((r.h+1-cmL N (min (a:Int) (s.length-1)) (min (x:Int) (s.length-1)) r.h (Qi r):Nat):Int):=by
 obtain ⟨A,hA⟩:∃ A,A=st.ps:=⟨_,rfl⟩;have hlt:∀ k∈[(lv,ic),(lv,li)],k.1<=st.A.length:=H.cl.le;have hmb:r.m.b=s.length:=(h.b hN).2;have H1:CurN ⟨A,false,[]⟩ lv ic li la b r N s a vis ver es:=⟨H.cl.push hA,H.le,H.es⟩;have hR1:=hR.push (L:=[]) hA;obtain ⟨ver2,es2,vis2,hJ,hC,hvis⟩:=Zfs H1 hla hR1 hN h h0 hs ha hv x hx;refine ⟨ver2,es2,vis2,?_,⟨H.cl.put rfl rfl,hC.le,hC.es⟩,hvis⟩;rw [YE hA hlt] at hJ;have hg:=H1.cl.get 0 lv ic _ rfl rfl;have hRe:=ZCH hN h hg hR1.rd
 have hLO:=ZPI hN hR1.rd h (a:=(a:Int)) (by omega) (by omega) hs
 have hcl:=List.countP_le_length (p:=Z3) (l:=s.take a)
 have htl:(s.take a).length<=s.length:=by simp;omega
 rw [show ((a:Nat):Int).toNat=a by omega] at hLO
 have hLi:=hL hR1.rd
 generalize (s.take a).countP Z3=n at *
 refine ZAU rfl (fun A' hA'=>?_)
 obtain rfl:A'=A:=hA'.trans hA.symm;obtain ⟨B,hB⟩:∃ B,B=(Zz st [(lv,ic),(lv,li)] (JA (.ptr la (b+5) 0 0 0) r lv li ver2 (r.h+1) es2 vis2 x)).ps:=⟨_,rfl⟩;rw [<- hB] at hJ;unfold JW at hg;unfold Ro.av at hLO hLi
 repeat' (first|refine Z0 rfl hg rfl rfl ?_|refine ZE ?_|refine ZD ?_|refine ZH rfl ?_|refine ZJ rfl rfl ?_|refine Zr rfl rfl ?_|refine ZB rfl ?_|refine ZC ?_|refine Zc rfl rfl ?_|(refine Zd rfl rfl (fun _=>?_) (fun _=>?_)<;>try (exfalso;omega))|refine ZG rfl ?_|refine Zo rfl rfl (by omega) ?_|refine ZA rfl rfl rfl (hRe) ?_|refine ZA rfl rfl rfl (hJ) ?_|refine ZA rfl rfl rfl (hLO) ?_|refine ZA rfl rfl rfl (hLi) ?_|refine ZI ?_|refine ZO ?_|refine ZL ?_)
 all_goals try contradiction
 all_goals try (exfalso;omega)
 exact ZZ hB (.inr rfl) rfl rfl rfl rfl rfl
theorem ZjL (H:CurN st lv ic li la b r N s a vis ver es) (hla:la<=lv) (hR:RdO st la (b+5) N [(lv,ic),(lv,li)]) (hN:GoodN N) (h:Rt N r s) (h0:r.at_≠0) (hs:s.length<=100000) (ha:a<=s.length) (ha0:0<a) (hv:0<=vis/\vis<700000000) (x:Nat) (hx:x<=s.length)
 (hL:∀ {st:St},Rd st la (b+5) N->S Tb Q1 [.ptr la (b+5) 0 0 0,r.av,.int .i64 (((s.take (a-1)).countP Z3:Nat):Int)] st=some (.tup [.int .i64 x,.int .i64 0],st)) :
 ∃ ver2 es2 vis2,S Tb QP [.ptr lv ic 0 0 0] st=some (.int .i64 0,Zz st [(lv,ic),(lv,li)] (JA (.ptr la (b+5) 0 0 0) r lv li ver2 (r.h+1) es2 vis2 x)) /\
  CurN (Zz st [(lv,ic),(lv,li)] (JA (.ptr la (b+5) 0 0 0) r lv li ver2 (r.h+1) es2 vis2 x)) lv ic li la b r N s x vis2 ver2 es2/\vis2=vis+((r.h+1-cmL N (min (a:Int) (s.length-1)) (min (x:Int) (s.length-1)) r.h (Qi r):Nat):Int):=by
 obtain ⟨A,hA⟩:∃ A,A=st.ps:=⟨_,rfl⟩;have hlt:∀ k∈[(lv,ic),(lv,li)],k.1<=st.A.length:=H.cl.le;have H1:CurN ⟨A,false,[]⟩ lv ic li la b r N s a vis ver es:=⟨H.cl.push hA,H.le,H.es⟩;have hR1:=hR.push (L:=[]) hA;obtain ⟨ver2,es2,vis2,hJ,hC,hvis⟩:=Zfs H1 hla hR1 hN h h0 hs ha hv x hx;refine ⟨ver2,es2,vis2,?_,⟨H.cl.put rfl rfl,hC.le,hC.es⟩,hvis⟩;rw [YE hA hlt] at hJ;have hg:=H1.cl.get 0 lv ic _ rfl rfl;have hRe:=ZCH hN h hg hR1.rd
 have hLO:=ZPI hN hR1.rd h (a:=(a:Int)-1) (by omega) (by omega) hs
 rw [show ((a:Int)-1).toNat=a-1 by omega] at hLO
 have hLi:=hL hR1.rd
 generalize (s.take (a-1)).countP Z3=n at *
 have hai:((a:Nat):Int)≠0:=by omega
 refine ZAU rfl (fun A' hA'=>?_)
 obtain rfl:A'=A:=hA'.trans hA.symm;obtain ⟨B,hB⟩:∃ B,B=(Zz st [(lv,ic),(lv,li)] (JA (.ptr la (b+5) 0 0 0) r lv li ver2 (r.h+1) es2 vis2 x)).ps:=⟨_,rfl⟩;rw [<- hB] at hJ;unfold JW at hg;unfold Ro.av at hLO hLi
 repeat' (first|refine Z0 rfl hg rfl rfl ?_|refine ZE ?_|refine ZD ?_|refine ZH rfl ?_|refine ZJ rfl rfl ?_|refine Zr rfl rfl ?_|refine ZB rfl ?_|refine ZC ?_|refine Zc rfl rfl ?_|(refine Ze rfl rfl (fun _=>?_) (fun _=>?_)<;>try (exfalso;omega))|(refine Zd rfl rfl (fun _=>?_) (fun _=>?_)<;>try (exfalso;omega))|refine ZG rfl ?_|refine QZ rfl rfl (by omega) ?_|refine ZA rfl rfl rfl (hRe) ?_|refine ZA rfl rfl rfl (hJ) ?_|refine ZA rfl rfl rfl (hLO) ?_|refine ZA rfl rfl rfl (hLi) ?_|refine ZI ?_|refine ZO ?_|refine ZL ?_)
 all_goals try contradiction
 all_goals try (exfalso;omega)
 exact ZZ hB (.inr rfl) rfl rfl rfl rfl rfl
theorem Zft {lev:AV} (hg0:st.get lv ic=some (JW (.ptr la (b+5) 0 0 0) r lev vis a)) (hR:Rd st la (b+5) N) (hN:GoodN N) (h:Rt N r s) (hs:s.length<=100000) (ha:a<=s.length) (he:r.m.l<((s.take a).countP Z3:Nat)+1) :
 S Tb QO [.ptr lv ic 0 0 0] st=some (.int .i64 3,st):=by
 refine QD rfl (fun A hA=>?_)
 have hg:=ZV hA (ro:=false) (L:=[]) hg0;have hR1:=hR.push hA (ro:=false) (L:=[]);have hRe:=ZCH hN h hg hR1
 have hLO:=ZPI hN hR1 h (a:=(a:Int)) (by omega) (by omega) hs
 have hcl:=List.countP_le_length (p:=Z3) (l:=s.take a)
 have htl:(s.take a).length<=s.length:=by simp;omega
 rw [show ((a:Nat):Int).toNat=a by omega] at hLO
 have hLi:=Zn7 hN hR1 h he (by omega)
 generalize (s.take a).countP Z3=n at *
 unfold JW at hg;unfold Ro.av at hLO hLi
 repeat' (first|refine Z0 rfl hg rfl rfl ?_|refine ZE ?_|refine ZD ?_|refine ZH rfl ?_|refine ZJ rfl rfl ?_|refine Zr rfl rfl ?_|refine ZB rfl ?_|refine ZC ?_|refine Zc rfl rfl ?_|(refine Zd rfl rfl (fun _=>?_) (fun _=>?_)<;>try (exfalso;omega))|refine ZS rfl ?_|refine ZG rfl ?_|refine Zo rfl rfl (by omega) ?_|refine ZA rfl rfl rfl (hRe) ?_|refine ZA rfl rfl rfl (hLO) ?_|refine ZA rfl rfl rfl (hLi) ?_|refine ZI ?_|refine ZO ?_|refine ZL ?_|refine ZW ?_)
 all_goals try contradiction
 all_goals try (exfalso;omega)
 all_goals refine ZZ hA (by first|exact .inl rfl|exact .inr rfl) rfl rfl rfl rfl ?_
 all_goals rfl
theorem ZjM {lev:AV} (hg0:st.get lv ic=some (JW (.ptr la (b+5) 0 0 0) r lev vis 0)) (hR:Rd st la (b+5) N) (hN:GoodN N) (h:Rt N r s):S Tb QP [.ptr lv ic 0 0 0] st=some (.int .i64 3,st):=by
 refine QD rfl (fun A hA=>?_)
 have hg:=ZV hA (ro:=false) (L:=[]) hg0;have hR1:=hR.push hA (ro:=false) (L:=[]);have hRe:=ZCH hN h hg hR1;unfold JW at hg
 repeat' (first|refine Z0 rfl hg rfl rfl ?_|refine ZE ?_|refine ZD ?_|refine ZH rfl ?_|refine ZJ rfl rfl ?_|refine ZB rfl ?_|refine ZC ?_|refine Zc rfl rfl ?_|(refine Ze rfl rfl (fun _=>?_) (fun _=>?_)<;>try (exfalso;omega))|(refine Zd rfl rfl (fun _=>?_) (fun _=>?_)<;>try (exfalso;omega))|refine ZS rfl ?_|refine ZG rfl ?_|refine ZA rfl rfl rfl (hRe) ?_|refine ZI ?_|refine ZO ?_|refine ZL ?_|refine ZW ?_)
 all_goals try contradiction
 all_goals try (exfalso;omega)
 all_goals refine ZZ hA (by first|exact .inl rfl|exact .inr rfl) rfl rfl rfl rfl ?_
 all_goals rfl
theorem ZrT (hg0:st.get lv ic=some (JW (.ptr la (b+5) 0 0 0) .zero .nils 0 0)) (hw:st.wr lv) (hR:Rd st la (b+5) N) (hN:GoodN N):S Tb QY [.ptr lv ic 0 0 0,.int .i64 0] st=some (.int .i64 0,st):=by
 have hJ:∀ st:St,st.get lv ic=some (JW (.ptr la (b+5) 0 0 0) .zero .nils 0 0)->st.wr lv->S Tb QL [.ptr lv ic 0 0 0,.int .i64 0] st=some (.int .i64 0,st):=by
  intro st hg0 hw
  refine ZAU rfl (fun A hA=>?_)
  have hg:=ZV hA (ro:=false) (L:=[]) hg0;have hle:=St.get_le hg0;unfold JW Ro.zero at hg hg0
  repeat' (first|refine ZE ?_|refine ZD ?_|refine ZH rfl ?_|refine ZJ rfl rfl ?_|refine ZB rfl ?_|refine ZC ?_|refine Zc rfl rfl ?_)
  refine ZIt hA rfl rfl hw hg0 rfl rfl rfl (fun A' hA'=>?_)
  have e:=updS hg0
  have hA2:A'=st.A++[(st.ro,st.L)]:=by
   rw [hA'];exact congrArg St.ps e
  have hg2:=ZV hA2 (ro:=false) (L:=[]) hg0
  repeat' (first|refine Z0 rfl hg2 rfl rfl ?_|refine ZE ?_|refine ZD ?_|refine ZH rfl ?_|refine ZJ rfl rfl ?_|refine ZB rfl ?_|refine ZC ?_|refine Zc rfl rfl ?_|(refine Ze rfl rfl (fun _=>?_) (fun _=>?_)<;>try (exfalso;omega))|refine ZS rfl ?_|refine ZG rfl ?_|refine ZI ?_|refine ZO ?_|refine ZL ?_|refine ZW ?_)
  all_goals try contradiction
  all_goals try (exfalso;omega)
  all_goals exact ZZ hA2 (.inr rfl) rfl rfl rfl rfl rfl
 refine QD rfl (fun A hA=>?_)
 have hle:=St.get_le hg0;have hg:=ZV hA (ro:=false) (L:=[]) hg0;have hRe:=ZCH hN (Rt.zero N) hg (hR.push hA (ro:=false) (L:=[]));have hJ1:=hJ ⟨A,false,[]⟩ hg (XY hA hle hw);unfold JW Ro.zero at hg
 repeat' (first|refine Z0 rfl hg rfl rfl ?_|refine ZE ?_|refine ZD ?_|refine ZH rfl ?_|refine ZJ rfl rfl ?_|refine QB rfl ?_|refine Zi rfl rfl rfl rfl ?_|refine ZB rfl ?_|refine ZC ?_|refine Zc rfl rfl ?_|(refine Zj rfl rfl (fun _=>?_) (fun _=>?_)<;>try (exfalso;omega))|(refine QH rfl rfl (fun _=>?_) (fun _=>?_)<;>try (exfalso;omega))|(refine Zd rfl rfl (fun _=>?_) (fun _=>?_)<;>try (exfalso;omega))|refine ZS rfl ?_|refine ZG rfl ?_|refine ZA rfl rfl rfl (hRe) ?_|refine ZA rfl rfl rfl (hJ1) ?_|refine ZI ?_|refine ZO ?_|refine ZL ?_|refine ZW ?_)
 all_goals try contradiction
 all_goals try (exfalso;omega)
 all_goals refine ZZ hA (by first|exact .inl rfl|exact .inr rfl) rfl rfl rfl rfl ?_
 all_goals rfl
end
structure CurA (A:List (Bool × List Blk)) (X:List Blk) (ic li la b im:Nat) (r:Ro) (N:ZP) (s:List UInt8) (a:Nat) (vis:Int):Prop where
 ex:(r=.zero/\a=0/\vis=0/\X[ic]?=some (JW (.ptr la (b+5) 0 0 0) r .nils 0 0))\/(r.at_≠0/\CurL A X ic li la b im r N s a vis)
 rd:RdM ⟨A,false,X⟩ la (b+5) im N
section
variable {A:List (Bool × List Blk)} {X:List Blk} {ic li la b im:Nat} {r:Ro} {N:ZP} {s:List UInt8} {a:Nat} {vis:Int}
theorem CurA.get (hc:CurA A X ic li la b im r N s a vis):∃ lev,St.get ⟨A,false,X⟩ A.length ic=some (JW (.ptr la (b+5) 0 0 0) r lev vis a):=by
 rcases hc.ex with ⟨rfl,rfl,rfl,h⟩|⟨_,h⟩
 ·exact ⟨_,by rw [St.get_cur,h];rfl⟩
 ·obtain ⟨ver,es,w⟩:=h.ex
  exact ⟨_,w.cl.get 0 _ _ _ rfl rfl⟩
theorem CurA.at_c (hc:CurA A X ic li la b im r N s a vis):S Tb QN [.ptr A.length ic 0 0 0] ⟨A,false,X⟩=some (.int .i64 a,⟨A,false,X⟩):=by
 obtain ⟨lev,w⟩:=hc.get;exact Go.Q15.at_c w
theorem CurA.nextEnd (hc:CurA A X ic li la b im r N s a vis) (hN:GoodN N) (h:Rt N r s) (hs:s.length<=100000) (ha:a<=s.length) (he:r.m.l<((s.take a).countP Z3:Nat)+1):S Tb QO [.ptr A.length ic 0 0 0] ⟨A,false,X⟩=some (.int .i64 3,⟨A,false,X⟩):=by
 obtain ⟨lev,w⟩:=hc.get;exact Zft w hc.rd.rd hN h hs ha he
theorem CurA.prev0 (hc:CurA A X ic li la b im r N s a vis) (hN:GoodN N) (h:Rt N r s) (ha:a=0):S Tb QP [.ptr A.length ic 0 0 0] ⟨A,false,X⟩=some (.int .i64 3,⟨A,false,X⟩):=by
 subst ha;obtain ⟨lev,w⟩:=hc.get;exact ZjM w hc.rd.rd hN h
theorem CurA.seek (hc:CurA A X ic li la b im r N s a vis) (hN:GoodN N) (h:Rt N r s) (hs:s.length<=100000) (ha:a<=s.length) (hv:0<=vis/\vis<700000000) (x:Nat) (hx:x<=s.length) :
 ∃ X' vis2,S Tb QY [.ptr A.length ic 0 0 0,.int .i64 x] ⟨A,false,X⟩=some (.int .i64 0,⟨A,false,X'⟩)/\CurA A X' ic li la b im r N s x vis2/\Stay X X' ic li/\vis<=vis2/\vis2<=vis+20:=by
 rcases hc.ex with ⟨rfl,rfl,rfl,w⟩|⟨h0,w⟩
 ·have hs0 : s = [] := by
   have:=(h.b hN).2
   simp only [Ro.zero,Mea.zero] at this
   exact List.eq_nil_of_length_eq_zero (by omega)
  subst hs0
  obtain rfl:x=0:=by simpa using hx
  obtain ⟨lev,g⟩:=hc.get
  exact ⟨X,0,ZrT (by rw [St.get_cur,w];rfl) (by simp [St.wr]) hc.rd.rd hN,hc,⟨rfl,fun i _ _=>rfl⟩,by omega,by omega⟩
 ·obtain ⟨X',vis2,f1,f2,f3,f4⟩:=w.seek hN h h0 hs ha hv x hx
  have:=ZRv N (min (a:Int) (s.length-1)) (min (x:Int) (s.length-1)) r.h (Qi r)
  have:=h.rt.h13 hN
  exact ⟨X',vis2,f1,⟨.inr ⟨h0,f2⟩,f2.rd⟩,f3,by omega,by omega⟩
theorem CurA.ne (h:Rt N r s) (hN:GoodN N) (hl:0<s.length) (hc:CurA A X ic li la b im r N s a vis):r.at_≠0/\CurL A X ic li la b im r N s a vis:=by
 rcases hc.ex with ⟨rfl,_⟩|w
 ·have:=(h.b hN).2
  simp only [Ro.zero,Mea.zero] at this;omega
 ·exact w
theorem CurA.nextLine (hc:CurA A X ic li la b im r N s a vis) (hN:GoodN N) (h:Rt N r s) (hl:0<s.length) (hs:s.length<=100000) (ha:a<=s.length) (hv:0<=vis/\vis<700000000) (x:Nat) (hx:x<=s.length)
 (hL:∀ {st:St},Rd st la (b+5) N->S Tb Q1 [.ptr la (b+5) 0 0 0,r.av,.int .i64 ((((s.take a).countP Z3:Nat):Int)+1)] st=some (.tup [.int .i64 x,.int .i64 0],st)) :
 ∃ X' vis2,S Tb QO [.ptr A.length ic 0 0 0] ⟨A,false,X⟩=some (.int .i64 0,⟨A,false,X'⟩)/\CurA A X' ic li la b im r N s x vis2/\Stay X X' ic li/\vis<=vis2/\vis2<=vis+20:=by
 obtain ⟨h0,hc⟩:=hc.ne h hN hl;obtain ⟨ver,es,w⟩:=hc.ex;obtain ⟨ver2,es2,vis2,f1,f2,f3⟩:=ZjK w hc.la hc.rdo hN h h0 hs ha hv x hx hL;obtain ⟨X',e1,e2,e3⟩:=hc.to f2;rw [e1] at f1
 have:=ZRv N (min (a:Int) (s.length-1)) (min (x:Int) (s.length-1)) r.h (Qi r)
 have:=h.rt.h13 hN
 exact ⟨X',vis2,f1,⟨.inr ⟨h0,e2⟩,e2.rd⟩,e3,by omega,by omega⟩
theorem CurA.prevLine (hc:CurA A X ic li la b im r N s a vis) (hN:GoodN N) (h:Rt N r s) (hl:0<s.length) (hs:s.length<=100000) (ha:a<=s.length) (ha0:0<a) (hv:0<=vis/\vis<700000000) (x:Nat) (hx:x<=s.length)
 (hL:∀ {st:St},Rd st la (b+5) N->S Tb Q1 [.ptr la (b+5) 0 0 0,r.av,.int .i64 (((s.take (a-1)).countP Z3:Nat):Int)] st=some (.tup [.int .i64 x,.int .i64 0],st)) :
 ∃ X' vis2,S Tb QP [.ptr A.length ic 0 0 0] ⟨A,false,X⟩=some (.int .i64 0,⟨A,false,X'⟩)/\CurA A X' ic li la b im r N s x vis2/\Stay X X' ic li/\vis<=vis2/\vis2<=vis+20:=by
 obtain ⟨h0,hc⟩:=hc.ne h hN hl;obtain ⟨ver,es,w⟩:=hc.ex;obtain ⟨ver2,es2,vis2,f1,f2,f3⟩:=ZjL w hc.la hc.rdo hN h h0 hs ha ha0 hv x hx hL;obtain ⟨X',e1,e2,e3⟩:=hc.to f2;rw [e1] at f1
 have:=ZRv N (min (a:Int) (s.length-1)) (min (x:Int) (s.length-1)) r.h (Qi r)
 have:=h.rt.h13 hN
 exact ⟨X',vis2,f1,⟨.inr ⟨h0,e2⟩,e2.rd⟩,e3,by omega,by omega⟩
theorem Zn8 (hN:GoodN N) (h:Rt N r s) (hs:s.length<=100000) (hR:RdM ⟨A,false,X⟩ la (b+5) im N) (hla:la<=A.length) :
 ∃ X' ic li,S Tb Xz [.ptr la (b+5) 0 0 0,r.av] ⟨A,false,X⟩=some (.tup [.ptr A.length ic 0 0 0,.int .i64 0],⟨A,false,X'⟩)/\X.length<=ic/\X.length<=li/\X.length<=X'.length/\(∀ i,i<X.length->X'[i]?=X[i]?)/\∃ vis,CurA A X' ic li la b im r N s 0 vis/\0<=vis/\vis<=20:=by
 obtain ⟨X',ic,h1,h2,h3,h4,h5⟩:=Zhl hN h hs hR hla
 have hin:RdM ⟨A,false,X'⟩ la (b+5) im N:=by
  obtain ⟨b0,b1,b3,b4,b5,k1,k2⟩:=hR
  have key:∀ lv ix c,St.get ⟨A,false,X⟩ lv ix=some c->St.get ⟨A,false,X'⟩ lv ix=some c:=by
   intro lv ix c q;rw [St.get] at q ⊢
   simp only at q ⊢
   by_cases w:lv=A.length
   ·rw [if_pos w] at q ⊢
    rw [h4 ix (ZFY q)];exact q
   ·rw [if_neg w] at q ⊢;exact q
  exact ⟨b0,b1,b3,b4,b5,key _ _ _ k1,key _ _ _ k2⟩
 rcases h5 with ⟨z,w⟩|⟨z,li,h6,w⟩
 ·have hz : r = .zero := by
   rcases h.rt with e|e
   ·exact e
   ·exact absurd z e.1
  exact ⟨X',ic,X.length,h1,h2,Nat.le_refl _,h3,h4,0,⟨.inl ⟨hz,rfl,rfl,w⟩,hin⟩,by omega,by omega⟩
 ·have:=h.rt.h13 hN
  exact ⟨X',ic,li,h1,h2,h6,h3,h4,_,⟨.inr ⟨z,w⟩,hin⟩,by omega,by omega⟩
end
theorem Zn9 {texts:List (List UInt8)} {ys:List Ed} (h:¬ ZD5 texts ys):(texts.flatten.length<=900/\texts.length<=4)/\ys.length<=12/\∀ y∈ys,y.text.length<=200:=by
 have h1:¬ ZSU texts:=fun q=>h (.inl q)
 have h2:¬ ZZh ys:=fun q=>h (.inr (.inl q))
 have h3:¬ 12<ys.length:=fun q=>h (.inr (.inr q))
 obtain ⟨a,b,c⟩:=ZrP h1 h2
 exact ⟨a,by omega,c⟩
section
variable {A:List (Bool × List Blk)} {ic li im j0:Nat} {r:Ro} {N:ZP} {s:List UInt8}
theorem ZoA (hN:GoodN N) (h:Rt N r s) (hs:s.length<=3300) {X0:List Blk} {a0:Nat} {vis0:Int} (hc:CurA A X0 ic li A.length 0 im r N s a0 vis0) (ha0:a0<=s.length) (hv0:0<=vis0/\vis0<=1000) (hj:X0[j0]?=some (.arr 5 0 [r.av])) (hji:j0≠ic) (hjl:j0≠li) {k:List Fr} {Q:Jp}
 (hQ:∀ X a vis (x y:AV),CurA A X ic li A.length 0 im r N s a vis->a<=s.length->0<=vis/\vis<=100000->X[j0]?=some (.arr 5 0 [r.av])->r.m.l<(((s.take a).countP Z3:Nat):Int)+1->Rk (S Tb) k Q .norm [(9,.ptr A.length 5 0 0 0),(14,.ptr A.length j0 0 0 0),(16,.ptr A.length ic 0 0 0),(19,x),(99,y)] ⟨A,false,X⟩) :
 Ru (S Tb) p_quartolaw21_CursorLines_23.loop (.blk 0::k) Q [(9,.ptr A.length 5 0 0 0),(14,.ptr A.length j0 0 0 0),(16,.ptr A.length ic 0 0 0),(19,.int .i64 ((((s.take a0).countP Z3:Nat):Int)+1))] ⟨A,false,X0⟩:=by
 have hm:=h.m hN
 have hml:r.m.l=s.countP Z3:=by rw [hm];rfl
 have hcl:=List.countP_le_length (p:=Z3) (l:=s)
 refine Z2 (α:=Nat × List Blk × Nat × Int) (fun p=>[(9,.ptr A.length 5 0 0 0),(14,.ptr A.length j0 0 0 0),(16,.ptr A.length ic 0 0 0),(19,.int .i64 ((p.1:Int)+1))]) (fun p=>⟨A,false,p.2.1⟩)
  (fun p=>CurA A p.2.1 ic li A.length 0 im r N s p.2.2.1 p.2.2.2/\p.2.2.1<=s.length/\(s.take p.2.2.1).countP Z3=p.1/\0<=p.2.2.2/\p.2.2.2<=1000+20*p.1/\p.2.1[j0]?=some (.arr 5 0 [r.av])) (fun p=>s.countP Z3-p.1) ((s.take a0).countP Z3,X0,a0,vis0) rfl rfl ⟨hc,ha0,rfl,hv0.1,by simp only;omega,hj⟩ ?_
 clear hc ha0 hv0 hj
 rintro ⟨n,X,a,vis⟩ ⟨hc,ha,hn,hv1,hv2,hj⟩
 simp only at hc ha hn hv1 hv2 hj ⊢
 have hle:=JV (p:=Z3) (s:=s) ha;rw [List.take_length,hn] at hle;have hAt:=hc.at_c
 rcases Nat.lt_or_ge n (s.countP Z3) with hlt|hge
 ·obtain ⟨x,x1,x2,x3,x4,hL⟩:=ZkL (la:=A.length) (b:=0) hN h (by omega) (k:=(n:Int)+1) (by omega) (by omega)
  obtain ⟨x,rfl⟩:∃ y:Nat,x=y:=⟨x.toNat,by omega⟩
  rw [show ((x:Nat):Int).toNat=x by omega] at x3
  obtain ⟨X',vis2,hNx,hc2,st2,e1,e2⟩:=hc.nextLine hN h (by omega) (by omega) ha (by omega) x (by omega) (by rw [hn];exact hL)
  have hLi:=hL hc.rd.rd;have hA2:=hc2.at_c;have hj2:X'[j0]?=some (.arr 5 0 [r.av]):=(st2.get j0 hji hjl).trans hj
  have hnl:(n:Int)+1<=r.m.l:=by omega
  repeat' (first|refine ZU rfl hj rfl (ZKl _) ?_|refine ZU rfl hj rfl rfl ?_|refine ZE ?_|refine ZD ?_|refine ZH rfl ?_|refine ZJ rfl rfl ?_|refine QB rfl ?_|refine Zi rfl rfl rfl rfl ?_|refine Zr rfl rfl ?_|refine ZB rfl ?_|refine ZC ?_|(refine ZAd rfl rfl (fun _=>?_) (fun _=>?_)<;>try (exfalso;omega))|(refine Zd rfl rfl (fun _=>?_) (fun _=>?_)<;>try (exfalso;omega))|refine ZS rfl ?_|refine ZG rfl ?_|refine Zo rfl rfl (by omega) ?_|refine ZA rfl rfl rfl (hLi) ?_|refine ZA rfl rfl rfl (hNx) ?_|refine ZA rfl rfl rfl (hA2) ?_|refine ZI ?_|refine ZQ ?_|refine QF ?_|refine QG ?_)
  all_goals try contradiction
  all_goals try (exfalso;omega)
  refine ⟨(n+1,X',x,vis2),⟨?_,rfl⟩,⟨hc2,by simp only;omega,by simp only;omega,by simp only;omega,by simp only;omega,hj2⟩,by simp only;omega⟩
  simp only
  rw [show (((n+1:Nat):Int)+1)=(n:Int)+1+1 by omega]
 ·have hq:=fun x y=>hQ X a vis x y hc ha ⟨hv1,by omega⟩ hj (by omega)
  have hnl:¬ (n:Int)+1<=r.m.l:=by omega
  repeat' (first|exact hq _ _|refine ZU rfl hj rfl rfl ?_|refine ZE ?_|refine ZD ?_|refine ZH rfl ?_|refine ZJ rfl rfl ?_|refine ZB rfl ?_|refine ZC ?_|(refine ZAd rfl rfl (fun _=>?_) (fun _=>?_)<;>try (exfalso;omega))|refine ZG rfl ?_|refine Zy ?_|refine Zk ?_|refine Zf rfl ?_|refine Zw ?_)
  all_goals try contradiction
  all_goals try (exfalso;omega)
theorem ZoB (hN:GoodN N) (h:Rt N r s) (hs:s.length<=3300) {X0:List Blk} {a0:Nat} {vis0:Int} (hc:CurA A X0 ic li A.length 0 im r N s a0 vis0) (ha0:a0<=s.length) (hv0:0<=vis0/\vis0<=100000) (hj:X0[j0]?=some (.arr 5 0 [r.av])) (hji:j0≠ic) (hjl:j0≠li) {k:List Fr} {Q:Jp}
 (hQ:∀ X vis (x y:AV),CurA A X ic li A.length 0 im r N s 0 vis->Rk (S Tb) k Q .norm [(9,.ptr A.length 5 0 0 0),(14,.ptr A.length j0 0 0 0),(16,.ptr A.length ic 0 0 0),(22,x),(129,y)] ⟨A,false,X⟩) :
 Ru (S Tb) p_quartolaw21_CursorLines_35.loop (.blk 2::k) Q [(9,.ptr A.length 5 0 0 0),(14,.ptr A.length j0 0 0 0),(16,.ptr A.length ic 0 0 0),(22,.int .i64 r.m.l)] ⟨A,false,X0⟩:=by
 have hm:=h.m hN
 have hml:r.m.l=s.countP Z3:=by rw [hm];rfl
 have hcl:=List.countP_le_length (p:=Z3) (l:=s)
 refine Z2 (α:=Nat × List Blk × Nat × Int) (fun p=>[(9,.ptr A.length 5 0 0 0),(14,.ptr A.length j0 0 0 0),(16,.ptr A.length ic 0 0 0),(22,.int .i64 ((p.1:Int)-1))]) (fun p=>⟨A,false,p.2.1⟩)
  (fun p=>p.1<=s.countP Z3+1/\CurA A p.2.1 ic li A.length 0 im r N s p.2.2.1 p.2.2.2/\p.2.2.1<=s.length/\(∀ m,m<p.2.2.1->(s.take m).countP Z3+1<=p.1)/\0<=p.2.2.2/\p.2.2.2+20*p.1<=100000+20*(s.countP Z3+1)/\p.2.1[j0]?=some (.arr 5 0 [r.av])) (fun p=>p.1) (s.countP Z3+1,X0,a0,vis0) ?_ rfl ⟨Nat.le_refl _,hc,ha0,fun m hm=>?_,hv0.1,by simp only;omega,hj⟩ ?_
 ·simp only
  rw [hml,show (((s.countP Z3+1:Nat):Int)-1)=((s.countP Z3:Nat):Int) by omega]
 ·have:=JV (p:=Z3) (s:=s) (i:=m) (j:=s.length) (by simp only at hm;omega)
  rw [List.take_length] at this
  simp only;omega
 clear hc ha0 hv0 hj
 rintro ⟨n,X,a,vis⟩ ⟨hn,hc,ha,hcnt,hv1,hv2,hj⟩
 simp only at hn hc ha hcnt hv1 hv2 hj ⊢
 have hAt:=hc.at_c
 cases n with
 | zero =>
  have ha0:a=0:=by
   rcases Nat.eq_zero_or_pos a with w|w
   ·exact w
   ·have:=hcnt 0 w;omega
  subst ha0
  have hq:=fun x y=>hQ X vis x y hc
  repeat' (first|exact hq _ _|refine ZE ?_|refine ZD ?_|refine ZH rfl ?_|refine ZB rfl ?_|refine ZC ?_|(refine Jt rfl rfl (fun _=>?_) (fun _=>?_)<;>try (exfalso;omega))|refine ZG rfl ?_|refine Zy ?_|refine Zk ?_|refine Zf rfl ?_|refine Zw ?_)
  all_goals try contradiction
  all_goals try (exfalso;omega)
 | succ n =>
  have ek:(((n+1:Nat):Int)-1)=(n:Int):=by omega
  rw [ek]
  obtain ⟨x,x1,x2,x3,x4,hL⟩:=ZkL (la:=A.length) (b:=0) hN h (by omega) (k:=(n:Int)) (by omega) (by omega)
  obtain ⟨x,rfl⟩:∃ y:Nat,x=y:=⟨x.toNat,by omega⟩
  rw [show ((x:Nat):Int).toNat=x by omega] at x3
  have hbelow:∀ m,m<x->(s.take m).countP Z3+1<=n:=by
   intro m hm
   have hp:s[x-1]?=some 10:=by
    have:=x4 (by omega)
    rw [show (((x:Nat):Int)-1).toNat=x-1 by omega] at this
    exact this
   have h2:=J2 (p:=Z3) hp
   rw [show x-1+1=x by omega,if_pos (by decide)] at h2
   have h3:=JV (p:=Z3) (s:=s) (i:=m) (j:=x-1) (by omega)
   omega
  have hLi:=hL hc.rd.rd
  rcases Nat.lt_or_ge x a with hlt|hge
  ·have h4 : (s.take (a - 1)).countP Z3 = n := by
    have h5:=hcnt (a-1) (by omega)
    have h6:=JV (p:=Z3) (s:=s) (i:=x) (j:=a-1) (by omega)
    omega
   obtain ⟨X',vis2,hPv,hc2,st2,e1,e2⟩:=hc.prevLine hN h (by omega) (by omega) ha (by omega) (by omega) x (by omega) (by rw [h4];exact hL)
   have hA2:=hc2.at_c;have hj2:X'[j0]?=some (.arr 5 0 [r.av]):=(st2.get j0 hji hjl).trans hj
   have hlti:((x:Nat):Int)<a:=by omega
   repeat' (first|refine ZU rfl hj rfl (ZKl _) ?_|refine ZE ?_|refine ZD ?_|refine ZH rfl ?_|refine QB rfl ?_|refine Zi rfl rfl rfl rfl ?_|refine Zr rfl rfl ?_|refine ZB rfl ?_|refine ZC ?_|(refine Jt rfl rfl (fun _=>?_) (fun _=>?_)<;>try (exfalso;omega))|(refine Zd rfl rfl (fun _=>?_) (fun _=>?_)<;>try (exfalso;omega))|refine ZS rfl ?_|refine ZG rfl ?_|refine QZ rfl rfl (by omega) ?_|refine ZA rfl rfl rfl (hLi) ?_|refine ZA rfl rfl rfl (hAt) ?_|refine ZA rfl rfl rfl (hPv) ?_|refine ZA rfl rfl rfl (hA2) ?_|refine ZI ?_|refine ZQ ?_|refine QF ?_|refine QG ?_)
   all_goals try contradiction
   all_goals try (exfalso;omega)
   exact ⟨(n,X',x,vis2),⟨rfl,rfl⟩,⟨by simp only;omega,hc2,by simp only;omega,hbelow,by simp only;omega,by simp only;omega,hj2⟩,Nat.lt_succ_self _⟩
  ·have hgei:¬ ((x:Nat):Int)<a:=by omega
   repeat' (first|refine ZU rfl hj rfl (ZKl _) ?_|refine ZE ?_|refine ZD ?_|refine ZH rfl ?_|refine Zr rfl rfl ?_|refine ZB rfl ?_|refine ZC ?_|(refine Jt rfl rfl (fun _=>?_) (fun _=>?_)<;>try (exfalso;omega))|(refine Zd rfl rfl (fun _=>?_) (fun _=>?_)<;>try (exfalso;omega))|refine ZS rfl ?_|refine ZG rfl ?_|refine QZ rfl rfl (by omega) ?_|refine ZA rfl rfl rfl (hLi) ?_|refine ZA rfl rfl rfl (hAt) ?_|refine ZI ?_|refine Zy ?_|refine ZQ ?_|refine Zk ?_|refine Zf rfl ?_|refine QG ?_)
   all_goals try contradiction
   all_goals try (exfalso;omega)
   exact ⟨(n,X,a,vis),⟨rfl,rfl⟩,⟨by simp only;omega,hc,by simp only;omega,fun m hm=>hbelow m (by simp only at hm;omega),by simp only;omega,by simp only;omega,hj⟩,Nat.lt_succ_self _⟩
end
theorem Zco (texts:List (List UInt8)) (ys:List Ed) (which at_:Int) (hb:texts.length<9223372036854775808) (hbs:∀ s∈texts,s.length<9223372036854775808) (hy:ys.length<9223372036854775808) (hys:∀ y∈ys,y.text.length<9223372036854775808) (st:St) :
 S Tb Jx [.lit (texts.map .str),.lit (ys.map Ed.av),.int .i64 which,.int .i64 at_] st=some (.bool true,st):=by
 refine QD rfl (fun A hA=>?_)
 have hBy:=fun st=>Zn5 texts ys hb hbs hy hys st
 have hWk:=fun st=>Zlf st
 by_cases hl:ZD5 texts ys
 ·simp only [decide_eq_true hl] at hBy
  repeat' (first|refine ZE ?_|refine ZD ?_|refine ZH rfl ?_|refine ZB rfl ?_|refine ZC ?_|refine ZS rfl ?_|refine ZA rfl rfl rfl (hBy _) ?_|refine ZA rfl rfl rfl (hWk _) ?_|refine ZO ?_|refine ZL ?_|refine ZW ?_)
  all_goals try contradiction
  all_goals refine ZZ hA (by first|exact .inl rfl|exact .inr rfl) rfl rfl rfl rfl ?_
  all_goals rfl
 simp only [decide_eq_false hl] at hBy;obtain ⟨h9,h12,hy2⟩:=Zn9 hl;obtain ⟨v,st',hMk,r,c,ros,ss,G0,G1,n,rfl,rfl,hI⟩:=ZrQ texts ys h9 h12 hy2 A;have hn20:=hI.n20;have hrs:=hI.len;have hsl:=hI.rts.1
 rcases Nat.eq_zero_or_pos n with hn0|hpos
 ·subst hn0
  repeat' (first|refine ZE ?_|refine ZD ?_|refine ZH rfl ?_|refine Zr rfl rfl ?_|refine ZB rfl ?_|refine ZC ?_|refine Ql rfl ?_|(refine Ze rfl rfl (fun _=>?_) (fun _=>?_)<;>try (exfalso;omega))|refine ZS rfl ?_|refine ZG rfl ?_|refine Yd rfl rfl ?_|refine ZA rfl rfl rfl (hBy _) ?_|refine ZA rfl rfl rfl (hWk _) ?_|refine ZA rfl rfl rfl (hMk) ?_|refine ZI ?_|refine ZO ?_|refine ZL ?_|refine ZW ?_)
  all_goals try contradiction
  all_goals try (exfalso;omega)
  all_goals refine ZZ hA (by first|exact .inl rfl|exact .inr rfl) rfl rfl rfl rfl ?_
  all_goals rfl
 have hpb:=JE (x:=which) (n:=(n:Int)-1) (by omega)
 have hPk:=fun st=>Zn6 which ((n:Int)-1) (by omega) (by omega) st
 generalize JS which ((n:Int)-1)=z at *
 obtain ⟨ro,hro⟩:∃ x,ros[z.toNat]?=some x:=⟨_,jE (by omega)⟩
 obtain ⟨s,hs⟩:∃ x,ss[z.toNat]?=some x:=⟨_,jE (by omega)⟩
 have hRt:=hI.rts.2 z.toNat ro s hro hs;have hsm:=hI.small s (jM hs);have hGd:=hI.good
 have hpb2:=JE (x:=at_) (n:=(s.length:Int)) (by omega)
 have hPk2:=fun st=>Zn6 at_ (s.length:Int) (by omega) (by omega) st
 generalize JS at_ (s.length:Int)=z2 at *
 obtain ⟨a0,rfl⟩:∃ k:Nat,z2=k:=⟨z2.toNat,by omega⟩
 have ha0:a0<=s.length:=by omega
 have f6:(ltL A.length r n ros G0 c ss G1)[6]?=_:=ZrO;have f7:(ltL A.length r n ros G0 c ss G1)[7+G0.length]?=_:=lt_7
 have g6:(ros.map Ro.av)[0+z.toNat]?=some ro.av:=by rw [Nat.zero_add,jG,hro];rfl
 have g7:(ss.map AV.str)[0+z.toNat]?=some (.str s):=by rw [Nat.zero_add,jG,hs];rfl
 have hz:=ZrS (n:=A.length) (r:=r) (v:=n) (ros:=ros) (G0:=G0) (w:=c) (ss:=ss) (G1:=G1)
 have hne:¬ (A.length=A.length/\(ltL A.length r n ros G0 c ss G1).length=7+G0.length):=by rw [hz];omega
 have hHas:=ZZq (A:=A) (r:=r) (v:=n) (ros:=ros) (G0:=G0) (w:=c) (ss:=ss) (G1:=G1)
 generalize ltL A.length r n ros G0 c ss G1=X at *
 have hRM:RdM ⟨A,false,X++[.arr 5 0 [ro.av]]⟩ A.length (0+5) (0+4) r.nodes:=RdM.app ⟨_,_,_,_,_,hHas.h5,hHas.h4⟩ _
 obtain ⟨X1,ic,li,hNew,c1,c5,c2,c3,vis1,hc,hv1,hv2⟩:=Zn8 hGd hRt (by omega) hRM (Nat.le_refl _)
 have hj0:(X++[Blk.arr 5 0 [ro.av]])[X.length]?=some (.arr 5 0 [ro.av]):=by rw [List.getElem?_append_right (Nat.le_refl _),Nat.sub_self];rfl
 have hj1:X1[X.length]?=some (.arr 5 0 [ro.av]):=(c3 X.length (by simp)).trans hj0
 have n1:X.length≠ic:=by rw [lL] at c1;simp at c1;omega
 have n2:X.length≠li:=by rw [lL] at c5;simp at c5;omega
 obtain ⟨X2,vis2,hSk,hc2,st2,e1,e2⟩:=hc.seek hGd hRt (by omega) (Nat.zero_le _) (by omega) a0 ha0
 have hA2:=hc2.at_c;have hj2:X2[X.length]?=some (.arr 5 0 [ro.av]):=(st2.get _ n1 n2).trans hj1
 have hLO:=ZPI (b:=0) hGd hc2.rd.rd hRt (a:=(a0:Int)) (by omega) (by omega) (by omega)
 rw [show ((a0:Nat):Int).toNat=a0 by omega] at hLO
 have hcl:=List.countP_le_length (p:=Z3) (l:=s.take a0)
 have htl:(s.take a0).length<=s.length:=by simp;omega
 have hml:ro.m.l=s.countP Z3:=by rw [hRt.m hGd];rfl
 have hk1:=fun (k:List Fr) (Q:Jp)=>ZoA (k:=k) (Q:=Q) hGd hRt hsm hc2 ha0 ⟨by omega,by omega⟩ hj2 n1 n2
 have hk2:=fun (X:List Blk) (a:Nat) (vis:Int) (j0:Nat) (k:List Fr) (Q:Jp)=>ZoB (A:=A) (X0:=X) (a0:=a) (vis0:=vis) (ic:=ic) (li:=li) (j0:=j0) (k:=k) (Q:=Q) hGd hRt hsm (im:=0+4)
 unfold Ro.av at hNew
 have hbox:∀ c:Blk,(X++[c])[X.length]?=some c:=fun c=>by rw [List.getElem?_append_right (Nat.le_refl _),Nat.sub_self];rfl
 repeat' (first|refine ZNA rfl rfl (by omega) f6 ?_|refine ZU rfl f6 g6 (ZKl _) ?_|refine Zlg rfl rfl rfl (by omega) f7 ?_|refine ZjJ rfl rfl f7 g7 rfl ?_|refine ZrR rfl rfl rfl hne rfl ?_|refine ZU rfl hj2 rfl (ZKl _) ?_|refine ZE ?_|refine ZD ?_|refine ZH rfl ?_|refine QB rfl ?_|refine Zi rfl rfl rfl rfl ?_|refine Zr rfl rfl ?_|refine ZB rfl ?_|refine ZC ?_|refine JJ rfl ?_|refine Ql rfl ?_|refine QW rfl rfl rfl ?_|(refine Ze rfl rfl (fun _=>?_) (fun _=>?_)<;>try (exfalso;omega))|(refine Zd rfl rfl (fun _=>?_) (fun _=>?_)<;>try (exfalso;omega))|refine ZG rfl ?_|refine Yd rfl rfl ?_|refine Zo rfl rfl (by omega) ?_|refine QZ rfl rfl (by omega) ?_|refine Qy rfl rfl rfl rfl ?_|refine Zu rfl rfl rfl ?_|refine Q6 rfl rfl rfl rfl rfl rfl ?_|refine ZA rfl rfl rfl (hBy _) ?_|refine ZA rfl rfl rfl (hMk) ?_|refine ZA rfl rfl rfl (hPk _) ?_|refine ZA rfl rfl rfl (hPk2 _) ?_|refine ZA rfl rfl rfl (hNew) ?_|refine ZA rfl rfl rfl (hSk) ?_|refine ZA rfl rfl rfl (hA2) ?_|refine ZA rfl rfl rfl (hLO) ?_|refine ZI ?_|refine ZQ ?_)
 all_goals try contradiction
 all_goals try (exfalso;omega)
 refine hk1 _ _ (fun X3 a3 vis3 x y hc3 ha3 hv3 hj3 he3=>?_)
 have hNE:=hc3.nextEnd hGd hRt (by omega) ha3 he3
 repeat' (first|refine ZU rfl hj3 rfl rfl ?_|refine ZE ?_|refine ZD ?_|refine ZH rfl ?_|refine ZJ rfl rfl ?_|refine ZB rfl ?_|refine ZC ?_|(refine Zd rfl rfl (fun _=>?_) (fun _=>?_)<;>try (exfalso;omega))|refine ZG rfl ?_|refine ZA rfl rfl rfl (hNE) ?_|refine ZI ?_|refine ZQ ?_)
 all_goals try contradiction
 all_goals try (exfalso;omega)
 refine hk2 X3 a3 vis3 X.length _ _ hc3 ha3 hv3 hj3 n1 n2 (fun X4 vis4 x y hc4=>?_)
 have hA4:=hc4.at_c;have hP4:=hc4.prev0 hGd hRt rfl
 repeat' (first|refine ZE ?_|refine ZD ?_|refine ZH rfl ?_|refine QB rfl ?_|refine Zi rfl rfl rfl rfl ?_|refine ZB rfl ?_|refine ZC ?_|(refine Ze rfl rfl (fun _=>?_) (fun _=>?_)<;>try (exfalso;omega))|refine ZA rfl rfl rfl (hA4) ?_|refine ZA rfl rfl rfl (hP4) ?_|refine ZA rfl rfl rfl (hWk _) ?_|refine ZO ?_|refine ZL ?_)
 all_goals try contradiction
 all_goals try (exfalso;omega)
 refine ZZ hA (by first|exact .inl rfl|exact .inr rfl) rfl rfl rfl rfl ?_
 rfl
end Go.Q15
namespace Go.QAbs
open Go.ChangeShapes Go.WideShapes Go.RowKit Go.Deep
variable {P:Program}
def rho0:Rho:=⟨fun _ _=>⟨0,0,0⟩,fun _=>(0,[])⟩
theorem Zlh (lv ix:Nat):St.empty.get lv ix=none:=by
 unfold St.empty St.get
 split<;>simp [vis]
theorem ZoC {W:World} {b o:Nat} {v:Value} (h:W.cell? ⟨b,o,none⟩=some v):(cx .empty rho0 W 0).im b o v :=
 ⟨h,fun ⟨lv,ix,w,ver,es,hg,_⟩=>by rw [Zlh] at hg;simp at hg⟩
theorem walk_in (hm:P.follows .mixedOrders=true) {T:Tab} (hT:TabOk P T) {f:FuncId} {args:List AV} (h:∃ st',S T f args .empty=some (.bool true,st')) {W:World} {xs:List Value} (hg:KG P W (.of W)) (hx:RL (cx .empty rho0 W 0) args xs) :
 Calls P f xs.toArray W fun e W'=>e=.returned (.bool true)/\Below W.heap.size W W':=by
 obtain ⟨st',h⟩:=h
 refine (ZpA hm hT h hg (Zkq W) hx).mono fun e' W' ⟨x,_,he,g,hv⟩=>?_
 subst he
 exact ⟨by rw [YK hv],g.rel.below.b⟩
theorem ZkP {W:World} {b off len cap w:Nat} (es:List AV) (g:Nat->Value) (hlen:es.length=len) (hc:len<=cap) (he:∀ (i:Nat) (e:AV),es[i]?=some e->R (cx .empty rho0 W 0).pure e (g i))
 (hg:∀ i,i<len->(g i).cells.size=w/\∀ (j:Nat) (v:Value),(g i).cells[j]?=some v->W.cell? ⟨b,off+i*w+j,none⟩=some v):R (cx .empty rho0 W 0) (.lit es) (.slice (some ⟨b,off,none⟩) len cap):=by
 subst hlen
 exact .lit (w:=w) g he (fun i hi=>⟨(hg i hi).1,fun j v hv=>ZoC ((hg i hi).2 j v hv)⟩) hc
section
variable {H:Type} {enc:TypeId × Value->H}
theorem open_strs_arg {W:World} {base:Nat} {t e:TypeId} {v:Value} {d:DataW H} {ps:List MemPlace} (ht:P.underlying t=some (.slice e)) (he:P.underlying e=some .string) (hc:P.cellsOf e=1)
 (hval:Value.okWide P W .any base t v) (h:DataW.Trod enc P W 0 (fun _=>true) true t v d ps) :
 ∃ ss:List (List UInt8),(∀ s∈ss,s.length<=maxLen)/\ss.length<=maxLen/\R (cx .empty rho0 W 0) (.lit (ss.map .str)) v:=by
 obtain ⟨a0,len,cap,rfl⟩:=okWide_slice ht hval;obtain ⟨fuel,hf⟩:=h
 rcases open_strings ht he hc hf with ⟨hcs,hx⟩|⟨a,len',cap',ss,hcs,_,hl,hm,hz,hx,hcell,hsz⟩
 ·refine ⟨[],by simp,by simp,?_⟩
  have:(Value.slice a0 len cap)=.slice none 0 0:=by simpa [Value.cells] using hcs
  rw [this];exact .lit0 _ _
 ·have hv:(Value.slice a0 len cap)=.slice (some a) len' cap':=by simpa [Value.cells] using hcs
  rw [hv];simp only [if_true] at hz
  refine ⟨(ss.take len').map (fun s=>s.data.toList),?_,?_,?_⟩
  ·intro s hs
   obtain ⟨s',hs',rfl⟩:=List.mem_map.1 hs;rw [Array.length_toList];exact hsz s' (List.mem_of_mem_take hs')
  ·rw [List.length_map,List.length_take];omega
  ·cases len' with
   | zero=>exact .lit0 _ _
   | succ n =>
    obtain ⟨b,off,spot⟩:=a
    have hspot:spot=none:=by simpa [Addr.add] using World.cell?_spot (hcell 0 (by omega))
    subst hspot
    refine ZkP (w:=1) _ (fun i=>.string (ss.getD i ByteArray.empty)) (by simp;omega) hl (fun i e he=>?_) (fun i hi=>⟨rfl,fun j v hv=>?_⟩)
    ·rw [jG,jG,List.getElem?_take] at he
     by_cases hi:i<n+1
     ·rw [if_pos hi] at he
      have hs:ss[i]?=some (ss.getD i ByteArray.empty):=by
       have:i<ss.length:=by omega
       simp [List.getD,this]
      rw [hs] at he;simp only [Option.map_some,oJ] at he;subst he;rw [Zmm (ss.getD i ByteArray.empty)];exact .str _
     ·rw [if_neg hi] at he;simp at he
    ·have hj : j = 0 := by
      have:j<(Value.string (ss.getD i ByteArray.empty)).cells.size:=(Array.getElem?_eq_some_iff.1 hv).1
      simp [Value.cells] at this;omega
     subst hj
     have hv':Value.string (ss.getD i ByteArray.empty)=v:=by simpa [Value.cells] using hv
     rw [<- hv']
     have:=hcell i (by omega)
     simpa [Addr.add_lit] using this
theorem open_ops_arg {W:World} {base:Nat} {t e t0 t1 t2 t3 t4:TypeId} {f0 f1 f2 f3 f4:Field} {v:Value} {d:DataW H} {ps:List MemPlace} (ht:P.underlying t=some (.slice e)) (he:P.underlying e=some (.struct #[f0,f1,f2,f3,f4])) (hc:P.cellsOf e=5)
 (hf0:f0.type=t0/\f0.offset=0/\P.underlying t0=some (.int .u8)/\P.cellsOf t0=1) (hf1:f1.type=t1/\f1.offset=1/\P.underlying t1=some (.int .i64)/\P.cellsOf t1=1) (hf2:f2.type=t2/\f2.offset=2/\P.underlying t2=some (.int .i64)/\P.cellsOf t2=1)
 (hf3:f3.type=t3/\f3.offset=3/\P.underlying t3=some (.int .i64)/\P.cellsOf t3=1) (hf4:f4.type=t4/\f4.offset=4/\P.underlying t4=some .string/\P.cellsOf t4=1) (hval:Value.okWide P W .any base t v) (h:DataW.Trod enc P W 0 (fun _=>true) true t v d ps) :
 ∃ l:List (Nat × Int × Int × Int × List UInt8),(∀ s∈l,s.2.2.2.2.length<=maxLen)/\l.length<=maxLen/\R (cx .empty rho0 W 0) (.lit (l.map fun q=>.agg [.int .u8 q.1,.int .i64 q.2.1,.int .i64 q.2.2.1,.int .i64 q.2.2.2.1,.str q.2.2.2.2])) v:=by
 obtain ⟨a0,len,cap,rfl⟩:=okWide_slice ht hval;obtain ⟨fuel,hf⟩:=h
 rcases open_slice ht hf with ⟨hcs,hx⟩|⟨a,len',cap',m,n,D,Pl,hcs,_,hl,hm,hmm,hx,hall⟩
 ·refine ⟨[],by simp,by simp,?_⟩
  have:(Value.slice a0 len cap)=.slice none 0 0:=by simpa [Value.cells] using hcs
  rw [this];exact .lit0 _ _
 ·have hv:(Value.slice a0 len cap)=.slice (some a) len' cap':=by simpa [Value.cells] using hcs
  rw [hv];simp only [if_true] at hmm;subst hmm;rw [hc] at hall
  have each:∀ i,i<len'->∃ q:Nat × Int × Int × Int × List UInt8,q.2.2.2.2.length<=maxLen/\W.cell? (a.add (i*5))=some (.int .u8 q.1)/\W.cell? (a.add (i*5+1))=some (.int .i64 q.2.1)/\W.cell? (a.add (i*5+2))=some (.int .i64 q.2.2.1)/\W.cell? (a.add (i*5+3))=some (.int .i64 q.2.2.2.1)/\W.cell? (a.add (i*5+4))=some (.string ⟨q.2.2.2.2.toArray⟩):=by
   intro i hi
   obtain ⟨cs',h1,h2⟩:=hall i (by omega)
   obtain ⟨_,hlen,hcell⟩:=World.cells?_some h1;obtain ⟨xs,k,_,_,_,hxl,hfs⟩:=DataW.trod_struct he h2;have g0:=hfs 0 f0 rfl;have g1:=hfs 1 f1 rfl;have g2:=hfs 2 f2 rfl;have g3:=hfs 3 f3 rfl;have g4:=hfs 4 f4 rfl
   match cs',hlen,xs,hxl with
   | [c0,c1,c2,c3,c4],_,[y0,y1,y2,y3,y4],_ =>
    simp only [hf0.1,hf0.2.1,hf0.2.2.2,hf1.1,hf1.2.1,hf1.2.2.2,hf2.1,hf2.2.1,hf2.2.2.2,hf3.1,hf3.2.1,hf3.2.2.2,hf4.1,hf4.2.1,hf4.2.2.2,List.drop,List.take,List.getElem?_cons_zero,List.getElem?_cons_succ] at g0 g1 g2 g3 g4;obtain ⟨n0,e0,_,w0⟩:=DataW.trod_int hf0.2.2.1 g0;obtain ⟨n1,e1,_,_⟩:=DataW.trod_int hf1.2.2.1 g1;obtain ⟨n2,e2,_,_⟩:=DataW.trod_int hf2.2.2.1 g2;obtain ⟨n3,e3,_,_⟩:=DataW.trod_int hf3.2.2.1 g3;obtain ⟨s,e4,_,hs⟩:=DataW.trod_string hf4.2.2.1 g4;simp only [List.cons.injEq,and_true] at e0 e1 e2 e3 e4;subst e0;subst e1;subst e2;subst e3;subst e4
    have hn0:0<=n0:=by
     simp only [Lit.wf,Bool.and_eq_true,decide_eq_true_eq] at w0;exact w0.1
    refine ⟨(n0.toNat,n1,n2,n3,s.data.toList),by simp only [Array.length_toList];exact hs,?_,?_,?_,?_,?_⟩
    ·have:=hcell 0 (by omega)
     simp only [add_add,Nat.add_zero,List.getElem?_cons_zero] at this;rw [this];simp only [Int.toNat_of_nonneg hn0]
    ·have:=hcell 1 (by omega)
     simpa only [add_add,List.getElem?_cons_succ,List.getElem?_cons_zero] using this
    ·have:=hcell 2 (by omega)
     simpa only [add_add,List.getElem?_cons_succ,List.getElem?_cons_zero] using this
    ·have:=hcell 3 (by omega)
     simpa only [add_add,List.getElem?_cons_succ,List.getElem?_cons_zero] using this
    ·have:=hcell 4 (by omega)
     simp only [add_add,List.getElem?_cons_succ,List.getElem?_cons_zero] at this;rw [this,Zmm s]
  obtain ⟨q,hq⟩:=choose_lt each
  refine ⟨(List.range len').map q,?_,by simp;omega,?_⟩
  ·intro s hs
   obtain ⟨i,hi,rfl⟩:=List.mem_map.1 hs;exact (hq i (List.mem_range.1 hi)).1
  ·cases len' with
   | zero=>exact .lit0 _ _
   | succ len' =>
    obtain ⟨b,off,spot⟩:=a
    have hspot:spot=none:=by simpa [Addr.add] using World.cell?_spot (hq 0 (by omega)).2.1
    subst hspot
    refine ZkP (w:=5) _ (fun i=>.agg #[.int .u8 (q i).1,.int .i64 (q i).2.1,.int .i64 (q i).2.2.1,.int .i64 (q i).2.2.2.1,.string ⟨(q i).2.2.2.2.toArray⟩]) (by simp) hl (fun i e he=>?_) (fun i hi=>⟨by simp [Value.cells],fun j v hv=>?_⟩)
    ·rw [jG,jG] at he
     by_cases hi:i<len'+1
     ·rw [List.getElem?_range hi] at he
      simp only [Option.map_some,oJ] at he;subst he;have hr:=RL.cons (C:=(cx .empty rho0 W 0).pure) (.int .u8 ((q i).1:Int)) (.cons (.int .i64 (q i).2.1) (.cons (.int .i64 (q i).2.2.1) (.cons (.int .i64 (q i).2.2.2.1) (.cons (.str (q i).2.2.2.2) (.nil _)))));exact .agg (xs:=[_,_,_,_,_]) hr.1 hr.2
     ·have:(List.range (len'+1))[i]?=none:=by simp;omega
      rw [this] at he;simp at he
    ·obtain ⟨_,k0,k1,k2,k3,k4⟩:=hq i hi
     have hj:j<5:=by
      have:=(Array.getElem?_eq_some_iff.1 hv).1
      simpa [Value.cells] using this
     simp only [Addr.add_lit] at k0 k1 k2 k3 k4
     match j,hj with
     | 0,_ =>
      have:v=.int .u8 (q i).1:=by simpa [Value.cells] using hv.symm
      subst this;simpa using k0
     | 1,_ =>
      have:v=.int .i64 (q i).2.1:=by simpa [Value.cells] using hv.symm
      subst this;simpa [Nat.add_assoc] using k1
     | 2,_ =>
      have:v=.int .i64 (q i).2.2.1:=by simpa [Value.cells] using hv.symm
      subst this;simpa [Nat.add_assoc] using k2
     | 3,_ =>
      have:v=.int .i64 (q i).2.2.2.1:=by simpa [Value.cells] using hv.symm
      subst this;simpa [Nat.add_assoc] using k3
     | 4,_ =>
      have:v=.string ⟨(q i).2.2.2.2.toArray⟩:=by simpa [Value.cells] using hv.symm
      subst this;simpa [Nat.add_assoc] using k4
end
end Go.QAbs
namespace Go.Proofs
open Go.Shelf
def Tryz.lays156_ren:Go.Shelf.Ren:=⟨fun|156=>21|165=>79|166=>80|169=>81|240=>147|241=>148|276=>209|277=>210|n=>n,fun|31=>22|9=>9|3=>3|4=>4|0=>0|20=>20|72=>134|76=>138|70=>131|37=>132|75=>137|127=>238|164=>296|5=>5|80=>140|n=>n,fun|n=>n⟩
theorem Tryz.lays156:Go.Proofs.Lays.n156 Tryz.prog Tryz.lays156_ren:={
 mixed:=by kernel_rfl
 f156:=Tryz.func21.trans (congrArg some (by kernel_rfl))
 f165:=Tryz.func79.trans (congrArg some (by kernel_rfl))
 f166:=Tryz.func80.trans (congrArg some (by kernel_rfl))
 f169:=Tryz.func81.trans (congrArg some (by kernel_rfl))
 f240:=Tryz.func147.trans (congrArg some (by kernel_rfl))
 f241:=Tryz.func148.trans (congrArg some (by kernel_rfl))
 f276:=Tryz.func209.trans (congrArg some (by kernel_rfl))
 f277:=Tryz.func210.trans (congrArg some (by kernel_rfl))
 t0:=Tryz.underlying0
 a0:=Tryz.isAgg0
 z0:=Tryz.sizeOf0
 v0:=Tryz.zeroValue0
 t3:=Tryz.underlying3
 a3:=Tryz.isAgg3
 z3:=Tryz.sizeOf3
 v3:=Tryz.zeroValue3
 t4:=Tryz.underlying4
 a4:=Tryz.isAgg4
 z4:=Tryz.sizeOf4
 v4:=Tryz.zeroValue4
 t9:=Tryz.underlying9
 a9:=Tryz.isAgg9
 z9:=Tryz.sizeOf9
 v9:=Tryz.zeroValue9
 t20:=Tryz.underlying20
 a20:=Tryz.isAgg20
 z20:=Tryz.sizeOf20
 v20:=Tryz.zeroValue20
 t31:=Tryz.underlying22
 a31:=Tryz.isAgg22
 z31:=Tryz.sizeOf22
 v31:=Tryz.zeroValue22
 t37:=Tryz.underlying132
 a37:=Tryz.isAgg132
 z37:=Tryz.sizeOf132
 v37:=Tryz.zeroValue132
 t70:=Tryz.underlying131
 a70:=Tryz.isAgg131
 z70:=Tryz.sizeOf131
 v70:=Tryz.zeroValue131
 t72:=Tryz.underlying134
 a72:=Tryz.isAgg134
 z72:=Tryz.sizeOf134
 v72:=Tryz.zeroValue134
 t75:=Tryz.underlying137
 a75:=Tryz.isAgg137
 z75:=Tryz.sizeOf137
 v75:=Tryz.zeroValue137
 t76:=Tryz.underlying138
 a76:=Tryz.isAgg138
 z76:=Tryz.sizeOf138
 v76:=Tryz.zeroValue138
 t127:=Tryz.underlying238
 a127:=Tryz.isAgg238
 z127:=Tryz.sizeOf238
 v127:=Tryz.zeroValue238
 t164:=Tryz.underlying296
 a164:=Tryz.isAgg296
 z164:=Tryz.sizeOf296
 v164:=Tryz.zeroValue296 }
theorem Tryz.Builder_Extra_156:Builder.Extra Tryz.prog Tryz.lays156_ren:={
 sizeBuilder:=by kernel_rfl
 liesBuilder:=by kernel_rfl
 t5:=Tryz.underlying5
 a5:=Tryz.isAgg5
 z5:=Tryz.sizeOf5
 v5:=Tryz.zeroValue5
 infoByte:=by kernel_rfl
 cellsByte:=by kernel_rfl
 sizeByte:=by kernel_rfl
 neB5:=by decide }
open Go.RowKit in
theorem Tryz.strings_Join_none (a:Option Addr) (c:Nat) (sep:ByteArray) (w:World) :
 Calls Tryz.prog 21 #[.slice a 0 c,.string sep] w fun e w'=>e=.returned (.string ⟨#[]⟩)/\w'=w:=Any.strings_Join_none Tryz.lays156 Tryz.Builder_Extra_156 a c sep w
open Go.RowKit in
theorem Tryz.strings_Join (bk o c:Nat) (xs:List ByteArray) (sep:ByteArray) (w:World) (hcells:∀ (j:Nat) x,xs[j]?=some x->w.cell? ⟨bk,o+j,none⟩=some (.string x)) (hbk:bk<w.heap.size) (hN:xs.length<=140737488355328) (hcap:xs.length<=c) (hlen:(Lib.join (xs.map (·.data.toList)) sep.data.toList).length<=140737488355328) :
 Calls Tryz.prog 21 #[.slice (some ⟨bk,o,none⟩) xs.length c,.string sep] w fun e w'=>e=.returned (.string ⟨(Lib.join (xs.map (·.data.toList)) sep.data.toList).toArray⟩)/\Below w.heap.size w w':=Any.strings_Join Tryz.lays156 Tryz.Builder_Extra_156 bk o c xs sep w hcells hbk hN hcap hlen
end Go.Proofs
namespace Go.Q15
open Go Go.QAbs
set_option maxRecDepth 100000
open Go.Shelf in
def ZoD:Ren:=⟨fun|41=>179|n=>n,fun|22=>185|23=>191|n=>n,fun n=>n⟩
theorem ZoE:Go.Proofs.SlLaysE0.n41 Proofs.Tryz.prog ZoD:={
 mixed:=by kernel_rfl
 f41 := ⟨"slices.Clone[[]quarto/api.Kid,quarto/api.Kid]", by decide, Proofs.Tryz.func179.trans (congrArg some (by kernel_rfl))⟩
 t4:=Proofs.Tryz.underlying4
 a4:=Proofs.Tryz.isAgg4
 z4:=Proofs.Tryz.sizeOf4
 v4:=Proofs.Tryz.zeroValue4
 t22:=Proofs.Tryz.underlying185
 a22:=Proofs.Tryz.isAgg185
 z22:=Proofs.Tryz.sizeOf185
 v22:=Proofs.Tryz.zeroValue185 }
theorem ZoF:∃ i z,Proofs.Tryz.prog.info? 191=some i/\i.zero=some z/\i.size=4/\i.bytes=32/\z.cells.size=4:=⟨_,_,rfl,rfl,rfl,rfl,rfl⟩
theorem ZjN:ZdE Proofs.Tryz.prog Z9 (.base (ZLn 4)):=by
 obtain ⟨i,z,h1,h2,h3,h4,h5⟩:=ZoF
 refine Zmn (T:=191) (fun n c W=>Go.Proofs.AnyE.slices_Clone_nil ZoE n c W) fun ad n c news W hl hn hc ho=>?_
 exact Zks ZoE i z 4 32 h1 h2 h3 h4 h5 (by decide) Proofs.Tryz.sizeOf191 ad n c news W hl (by unfold maxLen;omega) (by omega) hc ho
theorem ZrU:Zga Proofs.Tryz.prog tl:=⟨⟨Proofs.Tryz.call179,ZjN⟩,⟨Proofs.Tryz.call21,ZpC Proofs.Tryz.strings_Join_none Proofs.Tryz.strings_Join⟩,ZpR⟩
theorem Tb_ok:TabOk Proofs.Tryz.prog Tb:=Zml ZrU
def mkEd (q:Nat × Int × Int × Int × List UInt8):Ed:=⟨q.1,q.2.1,q.2.2.1,q.2.2.2.1,q.2.2.2.2⟩
theorem cursorLines_run (ss:List (List UInt8)) (l:List (Nat × Int × Int × Int × List UInt8)) (which at_:Int) (h1:∀ s∈ss,s.length<=maxLen) (h2:ss.length<=maxLen) (h3:∀ s∈l,s.2.2.2.2.length<=maxLen) (h4:l.length<=maxLen) (_h5:(Lit.int .i64 which).wf=true) (_h6:(Lit.int .i64 at_).wf=true) :
 ∃ st',S Tb Jx [.lit (ss.map .str),.lit (l.map fun q=>.agg [.int .u8 q.1,.int .i64 q.2.1,.int .i64 q.2.2.1,.int .i64 q.2.2.2.1,.str q.2.2.2.2]),.int .i64 which,.int .i64 at_] .empty=some (.bool true,st'):=by
 have hm:maxLen<9223372036854775808:=by decide +kernel
 have:=Zco ss (l.map mkEd) which at_ (by omega) (fun s hs=>by have:=h1 s hs;omega) (by rw [List.length_map];omega) (fun s hs=>by obtain ⟨q,hq,rfl⟩:=List.mem_map.1 hs;have:=h3 q hq;simp only [mkEd];omega) .empty
 rw [List.map_map] at this;exact ⟨_,this⟩
end Go.Q15
