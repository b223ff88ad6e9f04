/- A part of the proof: SN, SO, SPa, SSa, SSb, SSc, SSd, SSe, SSf, SSg, SSh, SSi, SSj, SSk, SPb, SPc, SPd, SQa, SQb, SQc, SQd, SQe, SSl, SQf, SQg, SQh, SSm, SSn, SSna, SSo, SSp, FYs, TYy. No condition. -/
import Derived.Test.YtbmllhocajbcfaaEtT8
set_option linter.unusedVariables false
set_option linter.unusedSimpArgs false
namespace Go.Q15
open Go Go.QAbs
set_option maxRecDepth 100000
set_option maxHeartbeats 16000000
theorem Zka {N:ZW} (hN:GoodN N) {ros:List Ro} (h:PlanOk N ros) {y:Ed} (hy:y.text.length≤200) {B:Int} (hB:0≤B) (hr:∀ r∈ros,r.m.b≤B):(ZCd N ros y).bytes≤B+200:=by
 unfold ZCd
 match hq:Zao ros y.n with
 | none =>
  obtain ⟨b1,b2,b3⟩:=Xl hN (s:=y.text) (by omega)
  show (Qs y.text).bytes≤_;omega
 | some r =>
  have hm:=List.mem_of_getElem? (show ros[_]?=some r from hq)
  obtain ⟨h1,h2,h3,h4⟩:=h.rt r hm
  have h5:=hr r hm
  have p1:=Qb (x:=y.at_) h3
  have p2:=Qb (x:=y.len) (n:=r.m.b-Q4 y.at_ r.m.b) (by omega)
  have:=ZMj hN (s:=y.text) h1.keep (a:=Q4 y.at_ r.m.b) (n:=Q4 y.len (r.m.b-Q4 y.at_ r.m.b)) p1.1 p2.1 (by omega) (by omega) (by omega)
  show (Tr.own _).bytes≤_
  rw [ZD1,this.bytes];omega
structure MkInv (r:AR) (ros:List Ro) (ss:List (List UInt8)) (n:Nat) (B:Nat):Prop where
 ok:AROk r
 good:GoodN r.nodes
 rts:Rts r.nodes ros ss
 len:ros.length=n
 n20:n≤20
 small:∀ s∈ss,s.length≤B
 nl:r.nodes.length+r.n=1500
theorem MkInv.plan {r:AR} {ros:List Ro} {ss:List (List UInt8)} {n B:Nat} (h:MkInv r ros ss n B) (hB:B≤60000):PlanOk r.nodes ros:=h.rts.plan h.good (by have:=h.len;have:=h.n20;omega) (fun s hs=>by have:=h.small s hs;omega)
theorem MkInv.mb {r:AR} {ros:List Ro} {ss:List (List UInt8)} {n B:Nat} (h:MkInv r ros ss n B):∀ ro∈ros,ro.m.b≤(B:Int):=by
 intro ro hr
 obtain ⟨i,hi,rfl⟩:=List.getElem_of_mem hr
 have hi2:i<ss.length:=by rw [← h.rts.1];exact hi
 have g:=h.rts.2 i _ _ (List.getElem?_eq_getElem hi) (List.getElem?_eq_getElem hi2)
 have:=(g.b h.good).2
 have:=h.small _ (List.getElem_mem hi2)
 omega
theorem ZnY (texts:List (List UInt8)) (ys:List Ed) (h9:texts.flatten.length≤900∧texts.length≤4) (hy12:ys.length≤12) (hys:∀ y∈ys,y.text.length≤200) (A:List (Bool × List Blk)) :
 Sp Tb YN [.lit (texts.map .str),.lit (ys.map Ed.av)] ⟨A,false,[]⟩ (fun v st'=>∃ r c ros ss G0 G1 n,v=.tup [.ptr A.length 5 0 0 0,.ref A.length 6 n 0 n,.ref A.length (7+G0.length) c 0 n,.bool true]∧st'=⟨A,false,ltL A.length r n ros G0 c ss G1⟩∧MkInv r ros ss n 3300):=by
 refine Zg2 (rfl:Tb YN=some (.pf Xe)) ?_
 have hLd:=ZnU texts h9.1 h9.2 A []
 have hLok:=ZXM texts h9.1 texts.length (Nat.le_refl _)
 have hnl0:=ZkZ texts h9.1 texts.length (Nat.le_refl _)
 rw [List.take_length] at hLok hnl0
 have hrl:=hLok.rts.1
 obtain ⟨r0,ros0,hV⟩:∃ r0 ros0,XB texts=(r0,ros0):=⟨_,_,rfl⟩
 rw [hV] at hLd hLok hrl hnl0
 simp only at hLd hLok hrl hnl0
 have hG:(ZDM ros0).length=texts.length:=by unfold ZDM;rw [List.length_map,hrl]
 generalize ZDM ros0=G0 at *
 change S Tb YM [.lit (texts.map .str)] ⟨A,false,[]⟩=some (.tup [.ptr A.length 5 0 0 0,.ref A.length 6 texts.length 0 texts.length,.bool true],⟨A,false,r0.b0::r0.b1::r0.b2::r0.b3 A.length 0::r0.b4::r0.b5 A.length 0::.arr 5 texts.length (ros0.map Ro.av)::G0⟩) at hLd
 repeat' (first|refine ZE ?_|refine ZD ?_|refine ZG rfl ?_|refine Zr rfl rfl ?_|refine ZB rfl ?_|refine ZC ?_|refine ZH rfl ?_|refine JA rfl rfl ?_|refine QP rfl rfl rfl rfl ?_|refine ZA rfl rfl rfl (hLd) ?_|refine ZI ?_)
 all_goals try contradiction
 refine ZFD (vx:=.lit (texts.map .str)) (ys:=texts.map .str) (bytes:=16) rfl rfl rfl (by rw [List.length_map];omega) (by decide) (ZiX _) ?_
 repeat' (first|refine ZE ?_|refine ZD ?_|refine ZG rfl ?_|refine ZB rfl ?_|refine ZC ?_|refine ZL ?_)
 have hl7:(r0.b0::r0.b1::r0.b2::r0.b3 A.length 0::r0.b4::r0.b5 A.length 0::Blk.arr 5 texts.length (ros0.map Ro.av)::G0).length=7+G0.length:=by simp;omega
 rw [hl7,List.length_map]
 refine Z1 (α:=Nat × Nat × AR × List Ro × List (List UInt8) × List Blk) (fun q=>[(1,.lit (ys.map Ed.av)),(8,.ptr A.length 5 0 0 0),(9,.ref A.length 6 (texts.length+q.2.1) 0 (texts.length+q.2.1)),(11,.ref A.length (7+G0.length) q.2.1 0 (texts.length+q.2.1)),(12,.int .i64 q.1)])
  (fun q=>⟨A,false,ltL A.length q.2.2.1 (texts.length+q.2.1) q.2.2.2.1 G0 q.2.1 q.2.2.2.2.1 q.2.2.2.2.2⟩) (fun q=>q.1≤ys.length∧q.2.1≤q.1∧MkInv q.2.2.1 q.2.2.2.1 q.2.2.2.2.1 (texts.length+q.2.1) (900+200*q.1)) (fun q=>ys.length-q.1) (0,0,r0,ros0,texts,[]) rfl rfl ⟨Nat.zero_le _,Nat.zero_le _,hLok.ok,hLok.good,hLok.rts,hrl,by simp only;omega,ZgX h9.1,hnl0⟩ ?_
 rintro ⟨i,c,r,ros,ss,G1⟩ ⟨hi,hci,hI⟩
 simp only at hi hci hI ⊢
 have hsl:=hI.rts.1
 have hrs:=hI.len
 rcases Nat.lt_or_ge i ys.length with hlt|hge
 ·obtain ⟨y,hyi⟩:∃ y,ys[i]?=some y:=⟨ys[i]'(by omega),by simp [hlt]⟩
  have hy2:=hys y (List.mem_of_getElem? hyi)
  have hP:PlanOk r.nodes ros:=hI.plan (by omega)
  obtain ⟨hv,hvb⟩:=ZkS hI.good hP hy2
  have hvs:=Zka hI.good hP hy2 (B:=((900+200*i:Nat):Int)) (by omega) hI.mb
  have hPl:=fun L (hR:Rd ⟨A,false,L⟩ A.length 5 r.nodes) (hg:St.get ⟨A,false,L⟩ A.length 6=some (.arr 5 (texts.length+c) (ros.map Ro.av)))=>ZmX (b:=0) hI.good hR hg hP (ys:=[y]) (by simp) (fun z hz=>by rw [List.mem_singleton] at hz;rw [hz];exact hy2)
  have hPl:=hPl _ ZP6 (Zc2 (ZkX (r:=r) (v:=texts.length+c) (G0:=G0) (w:=c) (ss:=ss) (G1:=G1)) rfl)
  have hTx:=ZnI hI.good (ZP6 (A:=A) (r:=r) (v:=texts.length+c) (ros:=ros) (G0:=G0) (w:=c) (ss:=ss) (G1:=G1)) hv (by omega)
  have hln:=hv.len hI.good
  simp only [List.map_cons,List.map_nil] at hPl
  rw [hrs] at hPl
  generalize hT:ZCd r.nodes ros y=t at *
  rcases Nat.lt_or_ge r.n (nw t) with hfull|hroom
  ·have hWr:=ZXI (ZDN (A:=A) (r:=r) (v:=texts.length+c) (ros:=ros) (G0:=G0) (w:=c) (ss:=ss) (G1:=G1)) hI.ok hI.good hv (by omega) hfull
   have eb:=ZCe (n:=A.length) (r:=r) (v:=texts.length+c) (ros:=ros) (G0:=G0) (w:=c) (ss:=ss) (G1:=G1) (.arr 5 0 [Ro.zero.av])
   generalize ltL A.length r (texts.length+c) ros G0 c ss G1=L1 at *
   repeat' (first|refine Yj rfl ?_|refine ZhR rfl rfl rfl rfl hyi ?_|refine Jz (f:=Tr.av) (l:=[t]) rfl rfl ⟨by decide,rfl⟩ Zy ?_|refine ZE ?_|refine ZD ?_|refine ZG rfl ?_|refine Zr rfl rfl ?_|refine ZB rfl ?_|refine ZC ?_|(refine Zl rfl rfl (fun _=>?_) (fun _=>?_)<;>try (exfalso;omega))|(refine Zo rfl rfl (fun _=>?_) (fun _=>?_)<;>try (exfalso;omega))|(refine Zi rfl rfl (fun _=>?_) (fun _=>?_)<;>try (exfalso;omega))|refine ZX rfl ?_|refine ZH rfl ?_|refine JA rfl rfl ?_|refine Zm rfl rfl (by omega) ?_|refine Zw rfl rfl rfl ?_|refine Js rfl rfl rfl rfl rfl rfl ?_|refine QM rfl (Zh _) ?_|refine ZA rfl rfl (by first|rfl|(simp only [lE,lN,lC,ZZ,ZU,ZV];first|done|rfl)) (hPl) ?_|refine ZA rfl rfl (by first|rfl|(simp only [lE,lN,lC,ZZ,ZU,ZV];first|done|rfl)) (hTx) ?_|refine ZA rfl rfl (by first|rfl|(simp only [lE,lN,lC,ZZ,ZU,ZV];first|done|rfl)) (hWr) ?_|refine ZI ?_|refine Zu ?_|refine ZL ?_|refine Zf ?_|refine Zc rfl ?_|refine QC ?_)
   all_goals try contradiction
   all_goals try (exfalso;omega)
   refine ⟨(i+1,c,r,ros,ss,G1++[Blk.arr 5 0 [Ro.zero.av]]),⟨rfl,?_⟩,⟨by simp only;omega,by simp only;omega,hI.ok,hI.good,hI.rts,hrs,hI.n20,fun s hs=>by have:=hI.small s hs;simp only;omega,hI.nl⟩,by simp only;omega⟩
   exact congrArg (St.mk A false) eb
  ·have hWr:=Zc3 (ZDN (A:=A) (r:=r) (v:=texts.length+c) (ros:=ros) (G0:=G0) (w:=c) (ss:=ss) (G1:=G1)) hI.ok hI.good hv (by omega) hroom
   rw [ZgV] at hWr
   obtain ⟨w1,w2⟩:=ZXJ (ZDN (A:=A) (r:=r) (v:=texts.length+c) (ros:=ros) (G0:=G0) (w:=c) (ss:=ss) (G1:=G1)) hI.ok hI.good hv (by omega) hroom
   have f6:(ltL A.length (wrV t r).1 (texts.length+c) ros G0 c ss G1)[6]?=_:=ZkX
   have f7:(ltL A.length (wrV t r).1 (texts.length+c) ros G0 c ss G1)[7+G0.length]?=_:=ZmY
   have n1:=w1.n
   have n2:=w1.nl
   have n3:=hI.nl
   have n4:=hI.n20
   generalize hL2:ltL A.length (wrV t r).1 (texts.length+c) ros G0 c ss G1=L2 at *
   generalize ltL A.length r (texts.length+c) ros G0 c ss G1=L1 at *
   generalize (wrV t r).1=r2 at *
   generalize (wrV t r).2.1=ro at *
   generalize (wrV t r).2.2=hh at *
   generalize hTT:t.txt r.nodes=T at *
   have hl6:=(List.getElem?_eq_some_iff.1 f6).1
   have hl7':=(List.getElem?_eq_some_iff.1 f7).1
   repeat' (first|refine Yj rfl ?_|refine ZhR rfl rfl rfl rfl hyi ?_|refine Jz (f:=Tr.av) (l:=[t]) rfl rfl ⟨by decide,rfl⟩ Zy ?_|refine ZE ?_|refine ZD ?_|refine ZG rfl ?_|refine Zr rfl rfl ?_|refine ZB rfl ?_|refine ZC ?_|refine Qe rfl rfl rfl ?_|(refine Zl rfl rfl (fun _=>?_) (fun _=>?_)<;>try (exfalso;omega))|(refine Zo rfl rfl (fun _=>?_) (fun _=>?_)<;>try (exfalso;omega))|(refine Zi rfl rfl (fun _=>?_) (fun _=>?_)<;>try (exfalso;omega))|refine ZX rfl ?_|refine ZH rfl ?_|refine JA rfl rfl ?_|refine Zm rfl rfl (by omega) ?_|refine Zw rfl rfl rfl ?_|refine Js rfl rfl rfl rfl rfl rfl ?_|refine QP rfl rfl rfl rfl ?_|refine QM rfl (Zh _) ?_|refine ZA rfl rfl (by first|rfl|(simp only [lE,lN,lC,ZZ,ZU,ZV];first|done|rfl)) (hPl) ?_|refine ZA rfl rfl (by first|rfl|(simp only [lE,lN,lC,ZZ,ZU,ZV];first|done|rfl)) (hTx) ?_|refine ZA rfl rfl (by first|rfl|(simp only [lE,lN,lC,ZZ,ZU,ZV];first|done|rfl)) (hWr) ?_|refine ZI ?_|refine ZL ?_)
   all_goals try contradiction
   all_goals try (exfalso;omega)
   refine ZBO (es:=ros.map Ro.av) (ys:=[ro.av]) rfl rfl (Qc f6) (by rw [List.length_map];omega) rfl rfl (by rw [List.length_map,List.length_singleton];omega) (by decide) ?_
   repeat' (first|refine ZD ?_|refine ZG rfl ?_|refine ZB rfl ?_|refine ZC ?_|refine QP rfl rfl rfl rfl ?_)
   refine ZBO (es:=ss.map .str) (ys:=[.str T]) rfl rfl ((List.getElem?_set_ne (by omega)).trans (Qc f7)) (by rw [List.length_map];omega) rfl rfl (by rw [List.length_map,List.length_singleton];omega) (by decide) ?_
   repeat' (first|refine ZD ?_|refine ZG rfl ?_|refine ZB rfl ?_|refine ZC ?_|refine Zm rfl rfl (by omega) ?_|refine Z2 ?_|refine QC ?_)
   refine ⟨(i+1,c+1,r2,ros++[ro],ss++[T],G1++[.arr 5 0 [ro.av]]),⟨rfl,?_⟩,⟨by simp only;omega,by simp only;omega,w1.ok,w1.good,(hI.rts.ext hI.good w1.ext).snoc w2,by simp only [lL,List.length_singleton];omega,by simp only;omega,fun s hs=>?_,by simp only;omega⟩,by simp only;omega⟩
   ·show (⟨A,false,((L2++[Blk.arr 5 0 [ro.av]]).set 6 (Blk.arr 5 (texts.length+c+1) (ros.map Ro.av++[ro.av]))).set (7+G0.length) (Blk.arr 1 (c+1) (ss.map AV.str++[AV.str T]))⟩:St)=_
    rw [← hL2,ZCe,ZmZ,Zma]
    rfl
   ·rcases List.mem_append.1 hs with q|q
    ·have:=hI.small s q;simp only;omega
    ·rw [List.mem_singleton.1 q];simp only;omega
 ·obtain rfl:i=ys.length:=by omega
  repeat' (first|refine Yj rfl ?_|refine ZE ?_|refine ZD ?_|refine ZG rfl ?_|refine ZB rfl ?_|refine ZC ?_|(refine Zl rfl rfl (fun _=>?_) (fun _=>?_)<;>try (exfalso;omega))|refine ZH rfl ?_|refine ZP ?_|refine Zu ?_|refine ZJ ?_|refine Zf ?_|refine Zc rfl ?_|refine Zt ?_)
  all_goals try (exfalso;omega)
  refine ⟨_,_,YW (.inr rfl) rfl rfl rfl rfl,r,c,ros,ss,G0,G1,texts.length+c,rfl,rfl,hI.ok,hI.good,hI.rts,hrs,hI.n20,fun s hs=>?_,hI.nl⟩
  have:=hI.small s hs
  omega
end Go.Q15
namespace Go.Q15
open Go Go.QAbs
set_option maxRecDepth 100000
set_option maxHeartbeats 8000000
end Go.Q15
namespace Go.Q15
open Go Go.QAbs
set_option maxRecDepth 100000
set_option maxHeartbeats 8000000
end Go.Q15
namespace Go.Q15
open Go Go.QAbs
set_option maxRecDepth 100000
set_option maxHeartbeats 8000000
def bel (N:ZW):Nat→Nat→List Nat→List Nat
 | 0,h,s=>if h∈s then s else s++[h]
 | n+1,h,s=>if h∈s then s else (ZS2 N h).ks.foldl (fun s k=>bel N n k.at_ s) (s++[h])
structure Visit (τ:List Nat→List Nat→St) (lm mx:Nat) (g:FuncId) (caps:List AV):Prop where
 len:∀ u w u' w',(τ u w).ps.length=(τ u' w').ps.length
 wr:∀ u w,(τ u w).wr lm
 get:∀ u w,(τ u w).get lm mx=some (.map (J5 u))
 upd:∀ u w v,(τ u w).upd lm mx (.map (J5 v))=τ v w
 call:∀ u w h more L,w.length<1000000000→∃ v,S Tb g ([.int .u64 (h:Nat)]++caps) ⟨(τ u w).ps++more,false,L⟩=some (v,⟨(τ u (w++[h])).ps++more,false,L⟩)
 wk:∀ h:Nat,ZV (ZZ ([]++[.int .u64 (h:Nat)]++caps))=some ([.int .u64 (h:Nat)]++caps)
 wk2:∀ la b h:Nat,ZV (ZZ ([]++[.ptr la b 0 0 0,.int .u64 (h:Nat),.map lm mx,.func (.func g) [] caps]++[]))=some [.ptr la b 0 0 0,.int .u64 (h:Nat),.map lm mx,.func (.func g) [] caps]
theorem Zkb {O:Orc} {k:List Fr} {Q:YU} {e:Env} {L:List Blk} {keep:List Nat} {is:List QAbs.PI} {s0:St} {more:List (Bool × List Blk)} {x i v:Opd} {lv ix h:Nat} {w:AV} {es es':List (AV × AV)} (hx:Zb e x=some (.map lv ix)) (hi:Zb e i=some (.int .u64 h)) (hv:Zb e v=some w) (hw:s0.wr lv) (hg:s0.get lv ix=some (.map es))
 (hs:ZY QA (lv+1) ⟨s0.ps++more,false,L⟩ w=some (w,⟨s0.ps++more,false,L⟩)) (hp:ZD4 (.int .u64 h) w es=some es')
 (hh:Is O is keep k Q e ⟨(s0.upd lv ix (.map es')).ps++more,false,L⟩):Is O (⟨none,none,false,.mupd 0 x i v⟩::is) keep k Q e ⟨s0.ps++more,false,L⟩:=by
 have hl:=St.get_le hg
 have g':=ZBY hg more false L
 have w':=ZhM hl hw more false L
 refine Z0 (od:=none) (v:=.undef) (st':=St.upd ⟨s0.ps++more,false,L⟩ lv ix (.map es')) ?_ ?_
 ·simp only [Zd,evalPO,ZF hx,ZF hi,ZF hv,ZIk,YQ,if_true,hs,oS,ZKP,g',ZKO,hp,St.put_upd w' g',ZAv]
 ·rw [Ze1 hl];exact hh
theorem Ze8 {N:ZW} {n P:Nat} (ih:∀ (h:Nat) (s:List Nat) (x:Nd),lk N h=some x→x.h=n→3*(bel N n h s).length+1≤3*s.length+P):∀ (ks:List Kid) (s:List Nat),(∀ k∈ks,∃ y,lk N k.at_=some y∧y.h=n)→3*(ks.foldl (fun s k=>bel N n k.at_ s) s).length+ks.length≤3*s.length+ks.length*P:=by
 intro ks
 induction ks with
 | nil=>intro s _;simp
 | cons k l ihl =>
  intro s hk
  rw [List.foldl_cons]
  obtain ⟨y,y1,y2⟩:=hk k (by simp)
  have a1:=ih k.at_ s y y1 y2
  have a2:=ihl (bel N n k.at_ s) (fun z hz=>hk z (List.mem_cons_of_mem _ hz))
  rw [List.length_cons,Nat.add_mul]
  omega
theorem Zmb {N:ZW} (hN:GoodN N):∀ (n h:Nat) (s:List Nat) (x:Nd),lk N h=some x→x.h=n→3*(bel N n h s).length+1≤3*s.length+4 ^ (n+1):=by
 intro n
 induction n with
 | zero =>
  intro h s x hx hh
  rw [bel]
  split
  ·omega
  ·rw [lL];simp;omega
 | succ n ih =>
  intro h s x hx hh
  rw [bel,ZAC hx]
  have hp:4 ^ (n+1+1)=4*4 ^ (n+1):=by rw [Nat.pow_succ];omega
  have h1:0<4 ^ (n+1):=Nat.pow_pos (by decide)
  split
  ·omega
  ·have hk4:=(hN h x hx).1.len
   have hkids:=(hN h x hx).2
   have:=Ze8 ih x.ks (s++[h]) (fun k hk=>by obtain ⟨_,y,y1,y2,_⟩:=hkids k hk;exact ⟨y,y1,by omega⟩)
   rw [lL,List.length_singleton] at this
   have h3:(4-x.ks.length)*4 ^ (n+1)+x.ks.length*4 ^ (n+1)=4*4 ^ (n+1):=by rw [← Nat.add_mul];congr 1;omega
   have h4:(4-x.ks.length)*1≤(4-x.ks.length)*4 ^ (n+1):=Nat.mul_le_mul_left _ h1
   generalize 4 ^ (n+1)=P at *
   generalize (4-x.ks.length)*P=P1 at *
   generalize x.ks.length*P=P2 at *
   omega
theorem ZXP {τ:List Nat→List Nat→St} {lm mx:Nat} {g:FuncId} {caps:List AV} (hV:Visit τ lm mx g caps) {N:ZW} {la b:Nat} (hR:∀ u w,Rd (τ u w) la (b+5) N) {h:Nat} {x:Nd} (hx:lk N h=some x) (hk4:x.ks.length≤4) (s:List Nat) (hs:h∉s) (f:Kid→List Nat→List Nat) {B:Nat} (hB:B≤900000000)
 (hlen:∀ i,((x.ks.take i).foldl (fun s k=>f k s) (s++[h])).length≤B)
 (hf:∀ k∈x.ks,∀ (s:List Nat) (more:List (Bool × List Blk)) (L:List Blk),s.length≤B→S Tb JJ [.ptr la (b+5) 0 0 0,.int .u64 k.at_,.map lm mx,.func (.func g) [] caps] ⟨(τ s s).ps++more,false,L⟩=some (.int .i64 0,⟨(τ (f k s) (f k s)).ps++more,false,L⟩))
 {more:List (Bool × List Blk)} {st st':St} (hst:st.ps=(τ s s).ps++more) (hst':st'.ps=(τ (x.ks.foldl (fun s k=>f k s) (s++[h])) (x.ks.foldl (fun s k=>f k s) (s++[h]))).ps++more) :
 S Tb JJ [.ptr la (b+5) 0 0 0,.int .u64 h,.map lm mx,.func (.func g) [] caps] st=some (.int .i64 0,st'):=by
 refine ZAs rfl (fun A hA=>?_)
 have hA2:A=(τ s s).ps++more:=hA.trans hst
 clear hA
 subst hA2
 have hlk:=fun L=>ZFF (ZBY (hV.get s s) more false L) h
 simp only [decide_eq_false hs] at hlk
 have hl0:=hlen 0
 simp only [List.take_zero,List.foldl_nil,lL,List.length_singleton] at hl0
 repeat' (first|refine ZE ?_|refine ZD ?_|refine ZG rfl ?_|refine ZB rfl ?_|refine ZC ?_|refine ZH rfl ?_|refine Y1 rfl rfl (hlk _) ?_|refine ZI ?_)
 all_goals try contradiction
 refine Zkb rfl rfl rfl (hV.wr s s) (hV.get s s) rfl (ZMs h s hs) ?_
 rw [hV.upd]
 have hG:=fun L=>Zed ((hR (s++[h]) s).more more false L) hx hk4
 have hcp:x.copy.av=.agg [.int .i64 x.h,.str x.text,.lit (x.ks.map Kid.av)]:=rfl
 rw [hcp] at hG
 obtain ⟨v,hc⟩:=hV.call (s++[h]) s h more [.arr 3 0 [.agg [.int .i64 x.h,.str x.text,.lit (x.ks.map Kid.av)]]] (by omega)
 generalize hA1:(τ (s++[h]) s).ps++more=A1 at *
 repeat' (first|refine ZA rfl rfl (hV.wk h) hc ?_|refine ZE ?_|refine ZD ?_|refine ZG rfl ?_|refine ZS rfl rfl ?_|refine Zr rfl rfl ?_|refine ZB rfl ?_|refine ZC ?_|(refine Zi rfl rfl (fun _=>?_) (fun _=>?_)<;>try (exfalso;omega))|refine ZH rfl ?_|refine Zg rfl rfl rfl ?_|refine Zp rfl rfl rfl rfl rfl rfl ?_|refine ZA rfl rfl rfl (hG _) ?_|refine ZI ?_)
 all_goals try contradiction
 obtain ⟨A2,hA2⟩:∃ A2,A2=(τ (s++[h]) (s++[h])).ps++more:=⟨_,rfl⟩
 have e12:A1.length=A2.length:=by
  have:=hV.len (s++[h]) s (s++[h]) (s++[h])
  rw [← hA1,hA2]
  simp only [lL] at this ⊢
  omega
 rw [← hA2,e12]
 repeat' (first|refine Yj rfl ?_|refine ZG rfl ?_|refine ZO rfl rfl rfl rfl ?_|refine ZB rfl ?_|refine ZC ?_|refine ZL ?_)
 refine Z1 (α:=Nat × List Blk) (fun p=>[(0,.ptr la (b+5) 0 0 0),(2,.map lm mx),(3,.func (.func g) [] caps),(32,.lit (x.ks.map Kid.av)),(33,.int .i64 x.ks.length),(34,.int .i64 p.1)])
  (fun p=>⟨(τ ((x.ks.take p.1).foldl (fun s k=>f k s) (s++[h])) ((x.ks.take p.1).foldl (fun s k=>f k s) (s++[h]))).ps++more,false,.arr 3 0 [.agg [.int .i64 x.h,.str x.text,.lit (x.ks.map Kid.av)]]::p.2⟩) (fun p=>p.1≤x.ks.length) (fun p=>x.ks.length-p.1) (0,[]) rfl (by rw [hA2];rfl) (Nat.zero_le _) ?_
 rintro ⟨i,G⟩ hi
 simp only at hi ⊢
 rcases Nat.lt_or_ge i x.ks.length with hlt|hge
 ·obtain ⟨kd,hk⟩:∃ k,x.ks[i]?=some k:=⟨x.ks[i]'hlt,List.getElem?_eq_getElem _⟩
  have qk:0≤((i:Nat):Int)∧x.ks[((i:Nat):Int).toNat]?=some kd:=⟨by omega,by rw [show ((i:Nat):Int).toNat=i by omega];exact hk⟩
  have hcl:=fun L=>hf kd (List.mem_of_getElem? hk) _ more L (hlen i)
  have hnx:(x.ks.take (i+1)).foldl (fun s k=>f k s) (s++[h])=f kd ((x.ks.take i).foldl (fun s k=>f k s) (s++[h])):=by
   rw [Ze hk,List.foldl_append];rfl
  rw [← hnx] at hcl
  generalize hP:(τ ((x.ks.take (i+1)).foldl (fun s k=>f k s) (s++[h])) ((x.ks.take (i+1)).foldl (fun s k=>f k s) (s++[h]))).ps++more=P at *
  generalize (τ ((x.ks.take i).foldl (fun s k=>f k s) (s++[h])) ((x.ks.take i).foldl (fun s k=>f k s) (s++[h]))).ps++more=A3 at *
  repeat' (first|refine Jz (f:=Kid.av) rfl rfl qk (fun _=>rfl) ?_|refine ZA rfl rfl (hV.wk2 _ _ _) (hcl _) ?_|refine ZE ?_|refine ZD ?_|refine ZG rfl ?_|refine ZS rfl rfl ?_|refine ZB rfl ?_|refine ZC ?_|refine Qe rfl rfl rfl ?_|refine QM rfl rfl ?_|(refine Zl rfl rfl (fun _=>?_) (fun _=>?_)<;>try (exfalso;omega))|(refine Zi rfl rfl (fun _=>?_) (fun _=>?_)<;>try (exfalso;omega))|refine ZX rfl ?_|refine ZH rfl ?_|refine Zm rfl rfl (by omega) ?_|refine Zw rfl rfl rfl ?_|refine Js rfl rfl rfl rfl rfl rfl ?_|refine ZI ?_|refine ZL ?_|refine Z2 ?_|refine QC ?_)
  all_goals try contradiction
  all_goals try (exfalso;omega)
  refine ⟨(i+1,G++[.arr 4 0 [kd.av]]),⟨rfl,?_⟩,by simp only;omega,by simp only;omega⟩
  simp only
  rw [hP]
  rfl
 ·obtain rfl:i=x.ks.length:=by omega
  rw [List.take_length]
  repeat' (first|refine ZE ?_|refine ZD ?_|refine ZG rfl ?_|refine ZB rfl ?_|refine ZC ?_|(refine Zl rfl rfl (fun _=>?_) (fun _=>?_)<;>try (exfalso;omega))|refine ZH rfl ?_|refine ZP ?_|refine Zu ?_|refine ZJ ?_|refine Zf ?_|refine Zc rfl ?_|refine Zt ?_)
  all_goals try (exfalso;omega)
  refine Zj (st:=st') hst'.symm (.inr rfl) rfl rfl rfl rfl ?_
  rfl
theorem ZXQ {τ:List Nat→List Nat→St} {lm mx:Nat} {g:FuncId} {caps:List AV} (hV:Visit τ lm mx g caps) {la b:Nat} {h:Nat} (s:List Nat) (hs:h∈s) {more:List (Bool × List Blk)} {st:St} (hst:st.ps=(τ s s).ps++more) :
 S Tb JJ [.ptr la (b+5) 0 0 0,.int .u64 h,.map lm mx,.func (.func g) [] caps] st=some (.int .i64 0,st):=by
 refine ZAs rfl (fun A hA=>?_)
 have hA2:A=(τ s s).ps++more:=hA.trans hst
 have hA0:=hA
 clear hA
 subst hA2
 have hlk:=fun L=>ZFF (ZBY (hV.get s s) more false L) h
 simp only [decide_eq_true hs] at hlk
 repeat' (first|refine ZE ?_|refine ZD ?_|refine ZG rfl ?_|refine ZB rfl ?_|refine ZC ?_|refine ZX rfl ?_|refine Y1 rfl rfl (hlk _) ?_|refine ZP ?_|refine ZJ ?_|refine Za ?_)
 all_goals try contradiction
 refine Zj (st:=st) hA0 (.inr rfl) rfl rfl rfl rfl ?_
 rfl
theorem Zkc {s t:St} (h:s.ps=t.ps):s=t:=by
 obtain ⟨A,r,L⟩:=s
 obtain ⟨A',r',L'⟩:=t
 have:=List.append_inj' h rfl
 obtain ⟨rfl,h2⟩:=this
 simp only [List.cons.injEq,Prod.mk.injEq,and_true] at h2
 obtain ⟨rfl,rfl⟩:=h2
 rfl
theorem ZhS {τ:List Nat→List Nat→St} {lm mx:Nat} {g:FuncId} {caps:List AV} (hV:Visit τ lm mx g caps) {N:ZW} (hN:GoodN N) {la b:Nat} (hR:∀ u w,Rd (τ u w) la (b+5) N):∀ (n h:Nat) (x:Nd) (s:List Nat),lk N h=some x→x.h=n→s.length+4 ^ (n+1)≤900000000→∀ {more:List (Bool × List Blk)} {st st':St},st.ps=(τ s s).ps++more→st'.ps=(τ (bel N n h s) (bel N n h s)).ps++more →
 S Tb JJ [.ptr la (b+5) 0 0 0,.int .u64 h,.map lm mx,.func (.func g) [] caps] st=some (.int .i64 0,st'):=by
 intro n
 induction n with
 | zero =>
  intro h x s hx hh hb more st st' hst hst'
  by_cases hm:h∈s
  ·rw [bel,if_pos hm,← hst] at hst'
   rw [Zkc hst']
   exact ZXQ hV s hm hst
  ·rw [bel,if_neg hm] at hst'
   have hks:x.ks=[]:=by
    rcases (hN h x hx).1 with q|⟨m,ks,q⟩
    ·exact q.ks
    ·have e:=q.eq;subst e;simp at hh
   refine ZXP hV hR hx (by rw [hks];decide) s hm (fun _ s=>s) (Nat.le_refl _) (fun i=>?_) (fun k hk=>by rw [hks] at hk;simp at hk) hst (by rw [hks];exact hst')
   rw [hks,List.take_nil,List.foldl_nil,lL,List.length_singleton]
   simp at hb;omega
 | succ n ih =>
  intro h x s hx hh hb more st st' hst hst'
  by_cases hm:h∈s
  ·rw [bel,if_pos hm,← hst] at hst'
   rw [Zkc hst']
   exact ZXQ hV s hm hst
  ·rw [bel,if_neg hm,ZAC hx] at hst'
   have hk4:=(hN h x hx).1.len
   have hkids:=(hN h x hx).2
   have hp:4 ^ (n+1+1)=4*4 ^ (n+1):=by rw [Nat.pow_succ];omega
   have h1:4≤4 ^ (n+1):=by rw [Nat.pow_succ];have:0<4 ^ n:=Nat.pow_pos (by decide);omega
   refine ZXP hV hR hx hk4 s hm (fun k s=>bel N n k.at_ s) (B:=900000000-4 ^ (n+1)) (by omega) (fun i=>?_) (fun k hk s' more' L hl=>?_) hst hst'
   ·have:=Ze8 (Zmb hN n) (x.ks.take i) (s++[h]) (fun k hk=>by obtain ⟨_,y,y1,y2,_⟩:=hkids k (List.mem_of_mem_take hk);exact ⟨y,y1,by omega⟩)
    rw [lL,List.length_singleton] at this
    have hti:(x.ks.take i).length≤4:=by rw [List.length_take];omega
    have h4:(x.ks.take i).length*4 ^ (n+1)≤4*4 ^ (n+1):=Nat.mul_le_mul_right _ hti
    generalize (x.ks.take i).length*4 ^ (n+1)=P2 at *
    generalize 4 ^ (n+1)=P at *
    omega
   ·obtain ⟨_,y,y1,y2,_⟩:=hkids k hk
    exact ih k.at_ y s' y1 (by omega) (by omega) (more:=more'++[(false,L)]) (List.append_assoc ..) (List.append_assoc ..)
end Go.Q15
namespace Go.Q15
open Go Go.QAbs
set_option maxRecDepth 100000
set_option maxHeartbeats 8000000
theorem Ze9:∀ l:List Tr,(∀ t∈l,4*(t.siz:Int)+4≤t.bytes)→4*(Tr.sizL l:Int)+4*l.length≤Tr.bytesL l
 | [],_=>by simp [Tr.sizL,Tr.bytesL]
 | t::l,h=>by
  have h1:=h t (by simp)
  have h2:=Ze9 l fun u hu=>h u (by simp [hu])
  simp only [Tr.sizL,Tr.bytesL,List.length_cons]
  omega
theorem Zkd {N:ZW} (hN:GoodN N) {t:Tr} (hv:Val N t):(t.siz:Int)≤t.bytes+1∧(Big t→4*(t.siz:Int)+4≤t.bytes):=by
 have hsz:=hv.size hN
 have hps:=hv.pos.2
 induction hv with
 | @kept o h m k x h0 hx hok hh hm hk =>
  have ec:(Tr.mk o h m [] k).siz=1:=by rw [Tr.siz,Tr.sizO_getD,hk];rfl
  have hl:h≤16:=by
   rcases hok with q|⟨n,ks,q⟩
   ·rw [← hh,q.h];omega
   ·have:=q.n15;have e:=q.eq;subst e;simp only at hh;omega
  rw [ec]
  refine ⟨by omega,fun q=>?_⟩
  have h1:=hsz q
  have h2:=(ZDv hl).1
  simp only [Tr.h] at h1
  omega
 | @leaf s k h1 h2 hk =>
  have ec:(Tr.mk 0 0 .zero s k).siz=1:=by rw [Tr.siz,Tr.sizO_getD,hk];rfl
  rw [ec]
  refine ⟨by omega,fun q=>?_⟩
  have:=q rfl
  omega
 | @inner h l hh h2 h4 hl hb hv ih =>
  have ec:(Tr.mk 0 (h+1) .zero [] (some l)).siz=Tr.sizL l+1:=by rw [Tr.siz,Tr.sizO];omega
  have eb:(Tr.mk 0 (h+1) .zero [] (some l)).bytes=Tr.bytesL l:=by rw [Tr.bytes,Tr.bytesO];simp [Mea.zero]
  have:=Ze9 l fun u hu=>(ih u hu ((hv u hu).size hN) (hv u hu).pos.2).2 (fun q=>hb u hu (by rw [← hl u hu];exact q))
  rw [ec,eb]
  exact ⟨by omega,fun _=>by omega⟩
theorem Zke {N:ZW} {t:Tr} (hv:Val N t):∀ out:List Nat,(∀ h∈out,∃ x,lk N h=some x)→∀ h∈t.kwT out,∃ x,lk N h=some x:=by
 induction hv with
 | @kept o h m k x h0 hx hok hh hm hk =>
  intro out ho a ha
  rw [Tr.kwT,Tr.kwO_getD,hk,Tr.kwL] at ha
  split at ha
  ·rcases List.mem_append.1 ha with q|q
   ·exact ho a q
   ·rw [List.mem_singleton.1 q];exact ⟨x,hx⟩
  ·exact ho a ha
 | @leaf s k h1 h2 hk =>
  intro out ho a ha
  rw [Tr.kwT,Tr.kwO_getD,hk,Tr.kwL,if_neg (by simp)] at ha
  exact ho a ha
 | @inner h l hh h2 h4 hl hb hv ih =>
  intro out ho a ha
  rw [Tr.kwT,Tr.kwO,if_neg (by simp)] at ha
  have key:∀ (l:List Tr) (out:List Nat),(∀ t∈l,∀ out:List Nat,(∀ h∈out,∃ x,lk N h=some x)→∀ h∈t.kwT out,∃ x,lk N h=some x)→(∀ h∈out,∃ x,lk N h=some x)→∀ a∈Tr.kwL l out,∃ x,lk N a=some x:=by
   intro l
   induction l with
   | nil=>intro out _ ho a ha;exact ho a ha
   | cons t l ihl =>
    intro out hi ho a ha
    rw [Tr.kwL] at ha
    exact ihl (t.kwT out) (fun u hu=>hi u (List.mem_cons_of_mem _ hu)) (hi t (by simp) out ho) a ha
  exact key l out ih ho a ha
theorem Zn2 (h:Nat) (st:St):S Tb J9 [.int .u64 h] st=some (.tup [],st):=by
 refine QI rfl (fun A hA=>?_)
 repeat' (first|refine ZI ?_|refine ZJ ?_)
 refine Zj hA (by first|exact .inl rfl|exact .inr rfl) rfl rfl rfl rfl ?_
 rfl
def dr1 (A:List (Bool × List Blk)) (b4 b5 b8:Blk) (u:List Nat):St:=⟨A,false,[b4,b5,b8,.map (J5 u),.arr 1 0 [.map A.length 3]]⟩
def dr2 (A:List (Bool × List Blk)) (b4 b5 b8:Blk) (has u o:List Nat):St:=⟨A,false,[b4,b5,b8,.map (J5 has),.arr 1 0 [.map A.length 3],.arr 1 o.length (o.map QN),.arr 1 0 [.ref A.length 5 o.length 0 o.length],.map (J5 u)]⟩
theorem ZnZ (A:List (Bool × List Blk)) (b4 b5 b8:Blk):Visit (fun u _=>dr1 A b4 b5 b8 u) A.length 3 J9 [] where
 len _ _ _ _:=by simp [dr1]
 wr _ _:=by simp [St.wr,dr1]
 get _ _:=St.get_cur ..
 upd _ _ _:=by simp [St.upd,dr1]
 call u w h more L _:=⟨_,Zn2 h _⟩
 wk _:=rfl
 wk2 _ _ _:=rfl
theorem Zna (A:List (Bool × List Blk)) (b4 b5 b8:Blk) (has u o:List Nat):Cl (dr2 A b4 b5 b8 has u o) [(A.length,5),(A.length,6)] [.arr 1 o.length (o.map QN),.arr 1 0 [.ref A.length 5 o.length 0 o.length]]:=by
 refine ⟨by simp,rfl,fun k hk=>?_,fun j lv ix b h1 h2=>?_⟩
 ·simp only [List.mem_cons,List.not_mem_nil,or_false] at hk
  rcases hk with rfl|rfl<;>simp [St.wr,dr2]
 ·match j,h1,h2 with
  | 0,h1,h2=>obtain ⟨rfl,rfl⟩:=Prod.mk.inj (Option.some.inj h1);obtain rfl:=Option.some.inj h2;exact St.get_cur ..
  | 1,h1,h2=>obtain ⟨rfl,rfl⟩:=Prod.mk.inj (Option.some.inj h1);obtain rfl:=Option.some.inj h2;exact St.get_cur ..
  | n+2,h1,h2=>simp at h1
theorem Zmc (A:List (Bool × List Blk)) (b4 b5 b8:Blk) (has u o o':List Nat):JV (dr2 A b4 b5 b8 has u o) [(A.length,5),(A.length,6)] [.arr 1 o'.length (o'.map QN),.arr 1 0 [.ref A.length 5 o'.length 0 o'.length]]=dr2 A b4 b5 b8 has u o':=by
 simp [JV,St.upd,dr2]
theorem Zn3 (A:List (Bool × List Blk)) (b4 b5 b8:Blk) (has u o:List Nat) (h:Nat) (more:List (Bool × List Blk)) (L:List Blk) (hl:o.length<1000000000) :
 S Tb YA [.int .u64 h,.ptr A.length 4 0 0 0,.ptr A.length 6 0 0 0] ⟨(dr2 A b4 b5 b8 has u o).ps++more,false,L⟩=some (.tup [],⟨(dr2 A b4 b5 b8 has u (if h∈has then o else o++[h])).ps++more,false,L⟩):=by
 have H:=(Zna A b4 b5 b8 has u o).more more false L
 have hm4:St.get ⟨(dr2 A b4 b5 b8 has u o).ps++more,false,L⟩ A.length 4=some (.arr 1 0 [.map A.length 3]):=ZBY (s:=dr2 A b4 b5 b8 has u o) (St.get_cur ..) more false L
 have hm3:St.get ⟨(dr2 A b4 b5 b8 has u o).ps++more,false,L⟩ A.length 3=some (.map (J5 has)):=ZBY (s:=dr2 A b4 b5 b8 has u o) (St.get_cur ..) more false L
 by_cases hm:h∈has
 ·rw [if_pos hm]
  refine QI rfl (fun A1 hA=>?_)
  have g4:=fun L'=>ZQ hA (ro:=false) (L:=L') hm4
  have hlk:=fun L'=>ZFF (ZQ hA (ro:=false) (L:=L') hm3) h
  simp only [decide_eq_true hm] at hlk
  repeat' (first|refine ZE ?_|refine ZD ?_|refine ZG rfl ?_|refine ZB rfl ?_|refine ZC ?_|refine ZH rfl ?_|refine JA rfl rfl ?_|refine Z9 rfl (g4 _) rfl rfl ?_|refine Y1 rfl rfl (hlk _) ?_|refine ZI ?_|refine ZJ ?_)
  all_goals try contradiction
  refine Zj hA (by first|exact .inl rfl|exact .inr rfl) rfl rfl rfl rfl ?_
  rfl
 ·rw [if_neg hm]
  have e:JV ⟨(dr2 A b4 b5 b8 has u o).ps++more,false,L⟩ [(A.length,5),(A.length,6)] [.arr 1 (o++[h]).length ((o++[h]).map QN),.arr 1 0 [.ref A.length 5 (o++[h]).length 0 (o++[h]).length]]=⟨(dr2 A b4 b5 b8 has u (o++[h])).ps++more,false,L⟩:=by
   rw [ZIK (fun k hk=>by simp only [List.mem_cons,List.not_mem_nil,or_false] at hk;rcases hk with rfl|rfl<;>exact Nat.le_refl _),Zmc]
  rw [← e]
  refine ZAs rfl (fun A1 hA=>?_)
  have hA':A1=(JV ⟨(dr2 A b4 b5 b8 has u o).ps++more,false,L⟩ [(A.length,5),(A.length,6)] [.arr 1 o.length (o.map QN),.arr 1 0 [.ref A.length 5 o.length 0 o.length]]).ps:=by rw [H.same];exact hA
  have g4:=fun L'=>ZQ hA (ro:=false) (L:=L') hm4
  have hlk:=fun L'=>ZFF (ZQ hA (ro:=false) (L:=L') hm3) h
  simp only [decide_eq_false hm] at hlk
  have g6:=fun L'=>H.old hA' rfl rfl (ro:=false) (L:=L') (j:=1) rfl rfl
  repeat' (first|refine ZE ?_|refine ZD ?_|refine ZG rfl ?_|refine ZB rfl ?_|refine ZC ?_|refine ZX rfl ?_|refine JA rfl rfl ?_|refine QP rfl rfl rfl rfl ?_|refine Z9 rfl (g4 _) rfl rfl ?_|refine Y1 rfl rfl (hlk _) ?_|refine Z9 rfl (g6 _) rfl rfl ?_)
  all_goals try contradiction
  refine Zcq (es:=o.map QN) (ys:=[.int .u64 h]) H hA' rfl rfl (j:=0) rfl rfl (by rw [List.length_map];rfl) rfl rfl rfl rfl (by rw [List.length_map,List.length_singleton];omega) (by decide) (fun A2 hA2 _=>?_)
  skip
  refine Zf5 H hA2 rfl rfl (j:=1) rfl rfl rfl rfl rfl (JB _ (Nat.lt_succ_self _)) rfl (fun A3 hA3 _=>?_)
  repeat' (first|refine ZB rfl ?_|refine ZJ ?_)
  have e3:((([Blk.arr 1 o.length (o.map QN),Blk.arr 1 0 [.ref A.length 5 o.length 0 o.length]].set 0 (.arr 1 (o.length+1) (o.map QN++[.int .u64 h]))).set 1 (.arr 1 0 ([AV.ref A.length 5 o.length 0 o.length].set 0 (.ref A.length 5 (o.length+1) 0 ((o.map QN).length+[AV.int .u64 (h:Int)].length))))))=[.arr 1 (o++[h]).length ((o++[h]).map QN),.arr 1 0 [.ref A.length 5 (o++[h]).length 0 (o++[h]).length]]:=by
   simp [QN]
  replace hA3:A3=(JV ⟨(dr2 A b4 b5 b8 has u o).ps++more,false,L⟩ [(A.length,5),(A.length,6)] [.arr 1 (o++[h]).length ((o++[h]).map QN),.arr 1 0 [.ref A.length 5 (o++[h]).length 0 (o++[h]).length]]).ps:=by rw [← e3];exact hA3
  refine Zj hA3 (.inl rfl) rfl rfl rfl rfl ?_
  rfl
theorem Znb (A:List (Bool × List Blk)) (b4 b5 b8:Blk) (has:List Nat):Visit (fun u w=>dr2 A b4 b5 b8 has u (w.filter fun h=>decide (h∉has))) A.length 7 YA [.ptr A.length 4 0 0 0,.ptr A.length 6 0 0 0] where
 len _ _ _ _:=by simp [dr2]
 wr _ _:=by simp [St.wr,dr2]
 get _ _:=St.get_cur ..
 upd _ _ _:=by simp [St.upd,dr2]
 call u w h more L hl:=by
  refine ⟨.tup [],(Zn3 A b4 b5 b8 has u (w.filter fun h=>decide (h∉has)) h more L (Nat.lt_of_le_of_lt (List.length_filter_le ..) hl)).trans ?_⟩
  rw [List.filter_append]
  by_cases hm:h∈has
  ·rw [if_pos hm,show ([h].filter fun h=>decide (h∉has))=[] by simp [hm],lN]
  ·rw [if_neg hm,show ([h].filter fun h=>decide (h∉has))=[h] by simp [hm]]
 wk _:=rfl
 wk2 _ _ _:=rfl
end Go.Q15
namespace Go.Q15
open Go Go.QAbs
set_option maxRecDepth 100000
set_option maxHeartbeats 8000000
def ZPY (N:ZW) (l:List Nat):List Nat:=l.foldl (fun s h=>bel N (ZS2 N h).h h s) []
def ZI3 (N:ZW) (r:Ro) (t:Tr):List Nat:=if r.at_=0 then [] else (bel N r.h r.at_ []).filter fun h=>decide (h∉ZPY N (t.kwT []))
theorem Znc {N:ZW} (hN:GoodN N) {h:Nat} {x:Nd} (h0:h≠0) (hx:lk N h=some x):x.h≤13 :=
 RtOk.h13 hN (r:=⟨h,x.h,x.mea⟩) (.inr ⟨h0,x,hx,(hN h x hx).1,rfl,rfl⟩)
def Lv (N:ZW) (l:List Nat):Prop:=l.Nodup∧∀ o∈l,∃ x,lk N o=some x
theorem Lv.snoc {N:ZW} {l:List Nat} (h:Lv N l) {o:Nat} (ho:∃ x,lk N o=some x) (hn:o∉l):Lv N (l++[o]):=by
 refine ⟨?_,fun a ha=>?_⟩
 ·rw [List.nodup_append]
  refine ⟨h.1,by simp,fun x hx y hy=>?_⟩
  rw [List.mem_singleton] at hy
  intro e;rw [e,hy] at hx;exact hn hx
 ·rcases List.mem_append.1 ha with q|q
  ·exact h.2 a q
  ·rw [List.mem_singleton.1 q];exact ho
theorem Zkf {N:ZW} (hN:GoodN N):∀ (n h:Nat) (s:List Nat) (x:Nd),lk N h=some x→x.h=n→Lv N s→Lv N (bel N n h s):=by
 intro n
 induction n with
 | zero =>
  intro h s x hx hh hs
  rw [bel]
  split
  ·exact hs
  ·rename_i q;exact hs.snoc ⟨x,hx⟩ q
 | succ n ih =>
  intro h s x hx hh hs
  rw [bel,ZAC hx]
  split
  ·exact hs
  ·rename_i q
   have key:∀ (ks:List Kid) (s:List Nat),(∀ k∈ks,∃ y,lk N k.at_=some y∧y.h=n)→Lv N s→Lv N (ks.foldl (fun s k=>bel N n k.at_ s) s):=by
    intro ks
    induction ks with
    | nil=>intro s _ h;exact h
    | cons k l ihl =>
     intro s hk h
     obtain ⟨y,y1,y2⟩:=hk k (by simp)
     exact ihl _ (fun z hz=>hk z (List.mem_cons_of_mem _ hz)) (ih k.at_ s y y1 y2 h)
   exact key x.ks _ (fun k hk=>by obtain ⟨_,y,y1,y2,_⟩:=(hN h x hx).2 k hk;exact ⟨y,y1,by omega⟩) (hs.snoc ⟨x,hx⟩ q)
theorem Zmd {N:ZW} (hN:GoodN N) {l:List Nat} (hl:∀ h∈l,∃ x,lk N h=some x):Lv N (ZPY N l):=by
 have key:∀ (l s:List Nat),(∀ h∈l,∃ x,lk N h=some x)→Lv N s→Lv N (l.foldl (fun s h=>bel N (ZS2 N h).h h s) s):=by
  intro l
  induction l with
  | nil=>intro s _ h;exact h
  | cons a l ih =>
   intro s hl h
   obtain ⟨x,hx⟩:=hl a (by simp)
   refine ih _ (fun z hz=>hl z (List.mem_cons_of_mem _ hz)) ?_
   show Lv N (bel N (ZS2 N a).h a s)
   rw [ZAC hx]
   exact Zkf hN _ a s x hx rfl h
 exact key l [] hl ⟨by simp,by simp⟩
theorem Znd {N:ZW} (hN:∀ o x,lk N o=some x→o≠0) {t:Tr} (hv:VE N t):∀ h∈t.kwT [],h≠0∧∃ x,lk N h=some x:=by
 intro h hh
 rcases hv with q|q
 ·obtain ⟨o,th,m,s,k⟩:=t
  have e1:=q.old
  have e2:=q.ks
  simp only [Tr.old,Tr.ks] at e1 e2
  rw [Tr.kwT,Tr.kwO_getD,e2,Tr.kwL,e1] at hh
  simp at hh
 ·obtain ⟨x,hx⟩:=Zke q [] (by simp) h hh
  exact ⟨hN h x hx,x,hx⟩
theorem Zkg {N:ZW} (hN:GoodN N) {t:Tr} (hv:VE N t) (hb:t.bytes≤65536):t.siz<4294967296:=by
 rcases hv with q|q
 ·obtain ⟨o,th,m,s,k⟩:=t
  have e2:=q.ks
  simp only [Tr.ks] at e2
  rw [Tr.siz,Tr.sizO_getD,e2,Tr.sizL];omega
 ·have:=(Zkd hN q).1;omega
theorem Zic {st:St} {la b:Nat} {N:ZW} (hN:GoodN N) (hK:∀ l,Lv N l→l.length≤16384) (hz:∀ o x,lk N o=some x→o≠0) (hR:Rd st la (b+5) N) {r:Ro} (hr:RtOk N r) {t:Tr} (hv:VE N t) (hb:t.bytes≤65536) :
 S Tb ZBn [.ptr la (b+5) 0 0 0,r.av,t.av] st=some (.tup [.lit ((ZI3 N r t).map QN),.int .i64 0],st):=by
 refine QI rfl (fun A hA=>?_)
 have hRA:=fun L=>hR.push hA (ro:=false) (L:=L)
 have hKp:=fun L=>ZIJ (hRA L) hr
 have hCk:=fun L=>ZHr (hRA L) hv hb
 have hKt:=fun st=>ZnO hv.pos.1 (Zkg hN hv hb) st
 have hkw:=Znd hz hv
 have hkl:=Tr.kwT_len t []
 have hsz:=Zkg hN hv hb
 unfold ZI3
 generalize t.kwT []=kl at *
 simp only [List.length_nil] at hkl
 have hP13:∀ n,n≤13→4 ^ (n+1)≤268435456:=fun n hn=>by
  have:4 ^ (n+1)≤4 ^ 14:=Nat.pow_le_pow_right (by decide) (by omega)
  exact this
 have hB1:∀ (i h:Nat),kl[i]?=some h→S Tb JJ [.ptr la (b+5) 0 0 0,.int .u64 h,.map A.length 3,.func (.func J9) [] []] (dr1 A (.arr 5 0 [r.av]) (.arr 7 0 [t.av]) (.arr 7 0 [(Jp r).av]) (ZPY N (kl.take i)))=some (.int .i64 0,dr1 A (.arr 5 0 [r.av]) (.arr 7 0 [t.av]) (.arr 7 0 [(Jp r).av]) (ZPY N (kl.take (i+1)))):=by
  intro i h hi
  obtain ⟨h0,x,hx⟩:=hkw h (List.mem_of_getElem? hi)
  have hlv:=Zmd hN (l:=kl.take i) (fun z hz=>(hkw z (List.mem_of_mem_take hz)).2)
  have:=hK _ hlv
  have:=hP13 _ (Znc hN h0 hx)
  have e:ZPY N (kl.take (i+1))=bel N x.h h (ZPY N (kl.take i)):=by
   rw [Ze hi]
   unfold ZPY
   rw [List.foldl_append,List.foldl_cons,List.foldl_nil,ZAC hx]
  rw [e]
  exact ZhS (ZnZ A _ _ _) hN (fun _ _=>hRA _) x.h h x _ hx rfl (by omega) (more:=[]) (lN _).symm (lN _).symm
 have hB2:r.at_≠0→S Tb JJ [.ptr la (b+5) 0 0 0,.int .u64 r.at_,.map A.length 7,.func (.func YA) [] [.ptr A.length 4 0 0 0,.ptr A.length 6 0 0 0]] (dr2 A (.arr 5 0 [r.av]) (.arr 7 0 [t.av]) (.arr 7 0 [(Jp r).av]) (ZPY N kl) [] [])=some (.int .i64 0,dr2 A (.arr 5 0 [r.av]) (.arr 7 0 [t.av]) (.arr 7 0 [(Jp r).av]) (ZPY N kl) (bel N r.h r.at_ []) ((bel N r.h r.at_ []).filter fun h=>decide (h∉ZPY N kl))):=by
  intro h0
  obtain ⟨x,x1,x2,x3,x4⟩:∃ x,lk N r.at_=some x∧NdOk x∧x.h=r.h∧x.mea=r.m:=by
   rcases hr with rfl|w
   ·exact absurd rfl h0
   ·exact w.2
  have:=hP13 _ (hr.h13 hN)
  exact ZhS (Znb A (.arr 5 0 [r.av]) (.arr 7 0 [t.av]) (.arr 7 0 [(Jp r).av]) (ZPY N kl)) hN (fun _ _=>hRA _) r.h r.at_ x [] x1 x3 (by simp only [List.length_nil];omega) (more:=[]) (lN _).symm (lN _).symm
 have hkll:kl.length<1000000000:=by
  have:kl.length≤t.siz:=by omega
  have h2:(t.siz:Int)≤65537:=by
   rcases hv with q|q
   ·obtain ⟨o,th,m,s,k⟩:=t
    have e2:=q.ks
    simp only [Tr.ks] at e2
    rw [Tr.siz,Tr.sizO_getD,e2,Tr.sizL];decide
   ·have:=(Zkd hN q).1;omega
  omega
 unfold dr1 at hB1
 unfold dr2 at hB2
 obtain ⟨ra,rh,rm⟩:=r
 unfold Ro.av at *
 generalize Jp ⟨ra,rh,rm⟩=kt at *
 repeat' (first|refine ZE ?_|refine ZD ?_|refine ZG rfl ?_|refine ZO rfl rfl rfl rfl ?_|refine Zr rfl rfl ?_|refine ZB rfl ?_|refine ZC ?_|(refine Zi rfl rfl (fun _=>?_) (fun _=>?_)<;>try (exfalso;omega))|refine ZH rfl ?_|refine Zg rfl rfl rfl ?_|refine ZBi rfl ?_|refine ZA rfl rfl (by first|rfl|(simp only [lE,lN,lC,ZZ,ZU,ZV];first|done|rfl)) (hKp _) ?_|refine ZA rfl rfl (by first|rfl|(simp only [lE,lN,lC,ZZ,ZU,ZV];first|done|rfl)) (hCk _) ?_|refine ZO rfl rfl rfl (Zh _) ?_|refine Zp rfl rfl rfl (QD _ _ _) (QX _ _) rfl ?_|refine Zw rfl (Zy _) (Z8 _) ?_|refine ZI ?_)
 all_goals try contradiction
 refine Zp rfl rfl rfl (by simp only [ZY,QA,if_pos (Nat.lt_succ_self _)]) rfl rfl ?_
 repeat' (first|refine ZO rfl rfl rfl (Zh _) ?_|refine Yj rfl ?_|refine ZE ?_|refine ZD ?_|refine ZG rfl ?_|refine ZB rfl ?_|refine ZC ?_|refine ZA rfl rfl (by first|rfl|(simp only [lE,lN,lC,ZZ,ZU,ZV];first|done|rfl)) (hKt _) ?_|refine ZL ?_)
 refine Z1 (α:=Nat) (fun i=>[(0,.ptr la (b+5) 0 0 0),(4,.ptr A.length 0 0 0 0),(11,.ptr A.length 4 0 0 0),(34,.lit (kl.map QN)),(35,.int .i64 kl.length),(36,.int .i64 i)])
  (fun i=>⟨A,false,[.arr 5 0 [Ro.av ⟨ra,rh,rm⟩],.arr 7 0 [t.av],.arr 7 0 [kt.av],.map (J5 (ZPY N (kl.take i))),.arr 1 0 [.map A.length 3]]⟩) (fun i=>i≤kl.length) (fun i=>kl.length-i) 0 rfl rfl (Nat.zero_le _) ?_
 intro i hi
 replace hi:i≤kl.length:=hi
 unfold Ro.av
 rcases Nat.lt_or_ge i kl.length with hlt|hge
 ·obtain ⟨h,hh⟩:∃ x,kl[i]?=some x:=⟨kl[i]'hlt,List.getElem?_eq_getElem _⟩
  have q:0≤((i:Nat):Int)∧kl[((i:Nat):Int).toNat]?=some h:=⟨by omega,by rw [show ((i:Nat):Int).toNat=i by omega];exact hh⟩
  have hB:=hB1 i h hh
  repeat' (first|refine Jz (f:=QN) rfl rfl q (fun _=>rfl) ?_|refine ZA rfl rfl rfl hB ?_|refine ZE ?_|refine ZD ?_|refine ZG rfl ?_|refine ZO rfl rfl rfl rfl ?_|refine ZB rfl ?_|refine ZC ?_|refine QM rfl rfl ?_|(refine Zl rfl rfl (fun _=>?_) (fun _=>?_)<;>try (exfalso;omega))|(refine Zi rfl rfl (fun _=>?_) (fun _=>?_)<;>try (exfalso;omega))|refine ZX rfl ?_|refine ZH rfl ?_|refine Zm rfl rfl (by omega) ?_|refine ZI ?_|refine ZL ?_|refine Z2 ?_|refine QC ?_)
  all_goals try contradiction
  all_goals try (exfalso;omega)
  exact ⟨i+1,⟨rfl,rfl⟩,by omega,by omega⟩
 ·obtain rfl:i=kl.length:=by omega
  rw [List.take_length]
  by_cases h0:ra=0
  ·subst h0
   repeat' (first|refine ZKL ?_|refine ZE ?_|refine ZD ?_|refine ZG rfl ?_|refine ZS rfl rfl ?_|refine ZO rfl rfl rfl rfl ?_|refine ZB rfl ?_|refine ZC ?_|(refine Zl rfl rfl (fun _=>?_) (fun _=>?_)<;>try (exfalso;omega))|(refine Zo rfl rfl (fun _=>?_) (fun _=>?_)<;>try (exfalso;omega))|refine ZX rfl ?_|refine ZH rfl ?_|refine YK rfl rfl ?_|refine ZBi rfl ?_|refine ZI ?_|refine ZP ?_|refine Zu ?_|refine ZJ ?_|refine Za ?_|refine Zf ?_|refine Zc rfl ?_|refine Zt ?_)
   all_goals try contradiction
   all_goals try (exfalso;omega)
   refine Zj hA (by first|exact .inl rfl|exact .inr rfl) rfl rfl rfl rfl ?_
   rfl
  ·have hB:=hB2 h0
   have h0i:((ra:Nat):Int)≠0:=by omega
   simp only [if_neg h0]
   generalize (bel N rh ra []).filter (fun h=>decide (h∉ZPY N kl))=out at *
   repeat' (first|refine ZKL ?_|refine ZA rfl rfl rfl hB ?_|refine ZE ?_|refine ZD ?_|refine ZG rfl ?_|refine ZS rfl rfl ?_|refine ZO rfl rfl rfl rfl ?_|refine ZB rfl ?_|refine ZC ?_|(refine Zl rfl rfl (fun _=>?_) (fun _=>?_)<;>try (exfalso;omega))|(refine Zo rfl rfl (fun _=>?_) (fun _=>?_)<;>try (exfalso;omega))|(refine Zi rfl rfl (fun _=>?_) (fun _=>?_)<;>try (exfalso;omega))|refine ZH rfl ?_|refine YK rfl rfl ?_|refine ZBi rfl ?_|refine ZI ?_|refine ZP ?_|refine Zu ?_|refine ZJ ?_|refine Zf ?_|refine Zc rfl ?_|refine Zt ?_)
   all_goals try contradiction
   all_goals try (exfalso;omega)
   exact ZDX hA (.inr rfl) rfl rfl (by simp) (fun v hv=>by obtain ⟨x,_,rfl⟩:=List.mem_map.1 hv;rfl) rfl rfl
end Go.Q15
namespace Go.Q15
open Go Go.QAbs
set_option maxRecDepth 100000
set_option maxHeartbeats 8000000
def DrOk (M:Nat) (G:List Blk) (dv:AV) (w:List Nat):Prop:=(w=[]∧dv=.nils)∨∃ j ver,dv=.ref M (j+4) ver 0 w.length∧w≠[]∧G[j]?=some (.arr 1 ver (w.map QN))
def chL (b6:Blk) (t:Tr) (dv:AV) (w:List Nat) (G:List Blk):List Blk :=
 b6::.arr 7 0 [t.av]::.arr 7 0 [.agg [.int .u64 0,.int .i64 0,.int .i64 0,.int .i64 0,.int .i64 0,.nils,dv]]::.map (J5 w)::G
theorem ZfA {O:Orc} {k:List Fr} {Q:YU} {e:Env} {A:List (Bool × List Blk)} {L:List Blk} {keep:List Nat} {is:List QAbs.PI} {x i v:Opd} {ix h:Nat} {w:AV} {es es':List (AV × AV)} (hx:Zb e x=some (.map A.length ix)) (hi:Zb e i=some (.int .u64 h)) (hv:Zb e v=some w) (hg:L[ix]?=some (.map es))
 (hs:ZY QA (A.length+1) ⟨A,false,L⟩ w=some (w,⟨A,false,L⟩)) (hp:ZD4 (.int .u64 h) w es=some es')
 (hh:Is O is keep k Q e ⟨A,false,L.set ix (.map es')⟩):Is O (⟨none,none,false,.mupd 0 x i v⟩::is) keep k Q e ⟨A,false,L⟩:=by
 have hlt:=(List.getElem?_eq_some_iff.1 hg).1
 refine Z0 (od:=none) (v:=.undef) (st':=⟨A,false,L.set ix (.map es')⟩) ?_ hh
 simp only [Zd,evalPO,ZF hx,ZF hi,ZF hv,ZIk,YQ,if_true,hs,oS,ZKP,St.get_cur,hg,vis,ZKO,hp,St.put,if_false,Bool.false_eq_true,if_pos hlt,ZAv]
theorem Zaq:∀ (l w:List Nat),(l.foldl Jd w).length≤w.length+l.length:=by
 intro l
 induction l with
 | nil=>intro w;simp
 | cons a l ih =>
  intro w
  rw [List.foldl_cons]
  have h1:(Jd w a).length≤w.length+1:=by unfold Jd;split<;>simp
  have h2:=ih (Jd w a)
  rw [List.length_cons];omega
theorem Zkh {A:List (Bool × List Blk)} {b6:Blk} {t:Tr} {dv:AV} {w dl:List Nat} {G:List Blk} (h0:DrOk A.length G dv w) (hl:w.length+dl.length<100000000) {v0 v29 v30 v31:AV} {k:List Fr} {Q:YU}
 (hQ:∀ G' dv',DrOk A.length G' dv' (dl.foldl Jd w)→Rk (S Tb) k Q .norm [(0,v0),(6,.ptr A.length 0 0 0 0),(8,.ptr A.length 1 0 0 0),(10,.ptr A.length 2 0 0 0),(11,.map A.length 3),(29,v29),(30,v30),(31,v31),(46,.lit (dl.map QN)),(47,.int .i64 dl.length),(48,.int .i64 dl.length),(49,.bool false)] ⟨A,false,chL b6 t dv' (dl.foldl Jd w) G'⟩) :
 Ru (S Tb) p_edit_change_19.loop (.blk 2::k) Q [(0,v0),(6,.ptr A.length 0 0 0 0),(8,.ptr A.length 1 0 0 0),(10,.ptr A.length 2 0 0 0),(11,.map A.length 3),(29,v29),(30,v30),(31,v31),(46,.lit (dl.map QN)),(47,.int .i64 dl.length),(48,.int .i64 0)] ⟨A,false,chL b6 t dv w G⟩:=by
 refine Z1 (α:=Nat × AV × List Blk) (fun p=>[(0,v0),(6,.ptr A.length 0 0 0 0),(8,.ptr A.length 1 0 0 0),(10,.ptr A.length 2 0 0 0),(11,.map A.length 3),(29,v29),(30,v30),(31,v31),(46,.lit (dl.map QN)),(47,.int .i64 dl.length),(48,.int .i64 p.1)])
  (fun p=>⟨A,false,chL b6 t p.2.1 ((dl.take p.1).foldl Jd w) p.2.2⟩) (fun p=>p.1≤dl.length∧DrOk A.length p.2.2 p.2.1 ((dl.take p.1).foldl Jd w)) (fun p=>dl.length-p.1) (0,dv,G) rfl rfl ⟨Nat.zero_le _,h0⟩ ?_
 rintro ⟨i,dv1,G1⟩ ⟨hi,hD⟩
 simp only at hi hD ⊢
 have hwl:=Zaq (dl.take i) w
 rw [List.length_take,Nat.min_eq_left hi] at hwl
 rcases Nat.lt_or_ge i dl.length with hlt|hge
 ·obtain ⟨h,hh⟩:∃ x,dl[i]?=some x:=⟨dl[i]'hlt,List.getElem?_eq_getElem _⟩
  have q:0≤((i:Nat):Int)∧dl[((i:Nat):Int).toNat]?=some h:=⟨by omega,by rw [show ((i:Nat):Int).toNat=i by omega];exact hh⟩
  have hnx:(dl.take (i+1)).foldl Jd w=Jd ((dl.take i).foldl Jd w) h:=by rw [Ze hh,List.foldl_append];rfl
  generalize (dl.take i).foldl Jd w=W at *
  have hlk:=ZFF (st:=⟨A,false,chL b6 t dv1 W G1⟩) (lv:=A.length) (mx:=3) (St.get_cur ..) h
  by_cases hm:h∈W
  ·simp only [decide_eq_true hm] at hlk
   rw [show Jd W h=W by unfold Jd;rw [if_pos hm]] at hnx
   unfold chL at *
   repeat' (first|refine Jz (f:=QN) rfl rfl q (fun _=>rfl) ?_|refine ZE ?_|refine ZD ?_|refine ZG rfl ?_|refine ZB rfl ?_|refine ZC ?_|refine QM rfl rfl ?_|(refine Zl rfl rfl (fun _=>?_) (fun _=>?_)<;>try (exfalso;omega))|refine ZX rfl ?_|refine ZH rfl ?_|refine JA rfl rfl ?_|refine Zm rfl rfl (by omega) ?_|refine Y1 rfl rfl hlk ?_|refine ZI ?_|refine ZL ?_|refine Z2 ?_|refine QC ?_)
   all_goals try contradiction
   all_goals try (exfalso;omega)
   exact ⟨(i+1,dv1,G1),⟨rfl,by simp only [hnx]⟩,⟨by simp only;omega,by simp only [hnx];exact hD⟩,by simp only;omega⟩
  ·simp only [decide_eq_false hm] at hlk
   rw [show Jd W h=W++[h] by unfold Jd;rw [if_neg hm]] at hnx
   have hpe:=ZMs h W hm
   rcases hD with ⟨rfl,rfl⟩|⟨j,ver,rfl,hW,hg⟩
   ·unfold chL at *
    repeat' (first|refine Jz (f:=QN) rfl rfl q (fun _=>rfl) ?_|refine ZE ?_|refine ZD ?_|refine ZG rfl ?_|refine ZB rfl ?_|refine ZC ?_|refine QM rfl rfl ?_|(refine Zl rfl rfl (fun _=>?_) (fun _=>?_)<;>try (exfalso;omega))|refine ZX rfl ?_|refine JA rfl rfl ?_|refine Y1 rfl rfl hlk ?_|refine ZI ?_|refine ZL ?_)
    all_goals try contradiction
    all_goals try (exfalso;omega)
    refine ZfA rfl rfl rfl rfl rfl hpe ?_
    repeat' (first|refine ZD ?_|refine ZG rfl ?_|refine ZS rfl rfl ?_|refine ZO rfl rfl rfl rfl ?_|refine ZB rfl ?_|refine ZC ?_|refine QP rfl rfl rfl rfl ?_)
    refine ZFD (vx:=.lit [.int .u64 h]) (ys:=[.int .u64 h]) (bytes:=8) rfl rfl rfl (by simp) (by decide) rfl ?_
    repeat' (first|refine ZD ?_|refine ZG rfl ?_|refine ZS rfl rfl ?_|refine ZB rfl ?_|refine ZC ?_|refine Zm rfl rfl (by omega) ?_|refine Qx rfl rfl rfl rfl (JB _ (Nat.lt_succ_self _)) rfl ?_|refine Z2 ?_|refine QC ?_)
    refine ⟨(i+1,.ref A.length (G1.length+4) 0 0 1,G1++[.arr 1 0 [.int .u64 h]]),⟨rfl,?_⟩,⟨by simp only;omega,?_⟩,by simp only;omega⟩
    ·simp only [hnx];rfl
    ·simp only [hnx]
     exact .inr ⟨G1.length,0,rfl,by simp,List.getElem?_concat_length ..⟩
   ·have hj:=(List.getElem?_eq_some_iff.1 hg).1
    have hg2:∀ b0 b1 b2 b3:Blk,(b0::b1::b2::b3::G1)[j+4]?=some (.arr 1 ver (W.map QN)):=fun _ _ _ _=>hg
    unfold chL at *
    repeat' (first|refine Jz (f:=QN) rfl rfl q (fun _=>rfl) ?_|refine ZE ?_|refine ZD ?_|refine ZG rfl ?_|refine ZB rfl ?_|refine ZC ?_|refine QM rfl rfl ?_|(refine Zl rfl rfl (fun _=>?_) (fun _=>?_)<;>try (exfalso;omega))|refine ZX rfl ?_|refine JA rfl rfl ?_|refine Y1 rfl rfl hlk ?_|refine ZI ?_|refine ZL ?_)
    all_goals try contradiction
    all_goals try (exfalso;omega)
    refine ZfA rfl rfl rfl rfl rfl hpe ?_
    repeat' (first|refine ZD ?_|refine ZG rfl ?_|refine ZS rfl rfl ?_|refine ZO rfl rfl rfl rfl ?_|refine ZB rfl ?_|refine ZC ?_|refine QP rfl rfl rfl rfl ?_)
    refine ZBO (es:=W.map QN) (ys:=[.int .u64 h]) rfl rfl (hg2 _ _ _ _) (by rw [List.length_map]) rfl rfl (by simp;omega) (by decide) ?_
    repeat' (first|refine ZD ?_|refine ZG rfl ?_|refine ZS rfl rfl ?_|refine ZB rfl ?_|refine ZC ?_|refine Zm rfl rfl (by omega) ?_|refine Qx rfl rfl rfl rfl (JB _ (Nat.lt_succ_self _)) rfl ?_|refine Z2 ?_|refine QC ?_)
    refine ⟨(i+1,.ref A.length (j+4) (ver+1) 0 (W.length+1),G1.set j (.arr 1 (ver+1) (W.map QN++[.int .u64 h]))),⟨rfl,?_⟩,⟨by simp only;omega,?_⟩,by simp only;omega⟩
    ·simp only [hnx];rfl
    ·simp only [hnx]
     refine .inr ⟨j,ver+1,by simp,by simp,?_⟩
     rw [List.getElem?_set_self hj,List.map_append];rfl
 ·obtain rfl:i=dl.length:=by omega
  rw [List.take_length] at hD ⊢
  repeat' (first|refine ZE ?_|refine ZD ?_|refine ZB rfl ?_|refine ZC ?_|(refine Zl rfl rfl (fun _=>?_) (fun _=>?_)<;>try (exfalso;omega))|refine ZH rfl ?_|refine Zu ?_|refine Zf ?_|refine Zc rfl ?_|refine Zt ?_)
  all_goals try (exfalso;omega)
  exact hQ G1 dv1 hD
end Go.Q15
namespace Go.Q15
open Go Go.QAbs
set_option maxRecDepth 100000
set_option maxHeartbeats 8000000
def slH (l:List Nat):AV:=if l=[] then .nils else .lit (l.map QN)
def QV (ro:Ro) (fresh:List Nat) (d:AV):AV:=.agg [.int .u64 ro.at_,.int .i64 ro.h,.int .i64 ro.m.b,.int .i64 ro.m.r,.int .i64 ro.m.l,.lit (fresh.map QN),d]
def chZ:AV:=.agg [.int .u64 0,.int .i64 0,.int .i64 0,.int .i64 0,.int .i64 0,.nils,.nils]
theorem Zki {b lv ix ver q n:Nat} {ro:Ro} {fr:List Nat} (st:St) (hl:lv<b):ZY QA b st (QV ro fr (.ref lv ix ver q n))=some (QV ro fr (.ref lv ix ver q n),st):=by
 show (mapSt (keepN (ZY 5 b)) _ _).bind ZIN=_
 simp only [mapSt,keepN,XV,Bool.false_eq_true,if_false,ZY,oS,if_pos hl,Ye,ZIN]
 rfl
theorem Zkj {A:List (Bool × List Blk)} {L:List Blk} {ix ver n:Nat} {ro:Ro} {fr d:List Nat} {z:Int} (hg:L[ix]?=some (.arr 1 ver (d.map QN))) (hn:n=d.length) :
 ZY QA A.length ⟨A,false,L⟩ (.tup [QV ro fr (.ref A.length ix ver 0 n),.int .i64 z])=some (.tup [QV ro fr (.lit (d.map QN)),.int .i64 z],⟨A,false,L.set ix .dead⟩):=by
 subst hn
 have h1:=ZH8 (n:=3) (A:=A) (s:=0) (m:=d.length) hg (by simp) (es':=d.map QN) (by
  rw [List.drop_zero,List.take_of_length_le (by simp)]
  exact ZPU (k:=.u64) (fun n:Nat=>(n:Int)) 2 0 _ d)
 show (mapSt (ZY 5 A.length) _ _).bind Zau=_
 have h2:ZY 5 A.length ⟨A,false,L⟩ (QV ro fr (.ref A.length ix ver 0 d.length))=some (QV ro fr (.lit (d.map QN)),⟨A,false,L.set ix .dead⟩):=by
  show (mapSt (keepN (ZY 4 A.length)) _ _).bind ZIN=_
  simp only [mapSt,keepN,XV,Bool.false_eq_true,if_false,oS]
  simp only [ZY,oS] at h1 ⊢
  simp only [h1,oS,Ye,ZIN]
  rfl
 simp only [mapSt,h2,oS]
 rfl
theorem ZA4 {e:Env} {A:List (Bool × List Blk)} {st:St} {L L':List Blk} {x:Ex} {c4 c5 j4 w4 v4:Nat} {v w:AV} {cs:List AV} {z:Int} (hA:A=st.A++[(st.ro,st.L)]) (hx:x=.norm∨x=.ret) (h4:Jn e c4=some (.ptr A.length j4 v4 0 0)) (hg4:L[j4]?=some (.arr w4 v4 [v])) (hv:v=.agg cs) (hc:cs.length=7) (h5:Jn e c5=some (.int .i64 z))
 (hs:ZY QA A.length ⟨A,false,L⟩ (.tup [v,.int .i64 z])=some (.tup [w,.int .i64 z],⟨A,false,L'⟩)):JM false [.c c4 true 7,.s c5] (x,e,⟨A,false,L⟩)=some (.tup [w,.int .i64 z],st):=by
 refine ZDA (v:=.tup [v,.int .i64 z]) hA hx ?_ hs rfl
 have h1:ZAw ⟨A,false,L⟩ e (.c c4 true 7)=some v:=by
  subst hv
  simp only [ZAw,QG h4,loadP,St.get_cur,hg4,vis,ZDO,if_true,List.getElem?_cons_zero,oS,JK,AV.cells,List.drop_zero]
  rw [List.take_of_length_le (by omega)]
  simp [hc]
  rfl
 simp only [QQ,ZC8,h1,oS]
 simp only [ZAw,QG h5,oS,Option.map_some,ZFH]
end Go.Q15
namespace Go.Q15
open Go Go.QAbs
set_option maxRecDepth 100000
set_option maxHeartbeats 16000000
def XC (N:ZW) (rs:List Ro) (t:Tr):List Nat:=(rs.flatMap fun r=>ZI3 N r t).foldl Jd []
theorem AROk.lv {r:AR} (h:AROk r):∀ l,Lv r.nodes l→l.length≤16384:=fun l hl=>h.few hl.1 hl.2
theorem AROk.nz {r:AR} (h:AROk r):∀ o x,lk r.nodes o=some x→o≠0:=fun o x hx=>(h.hnd hx).2
theorem Zar {N:ZW} (hN:GoodN N) (hK:∀ l,Lv N l→l.length≤16384) {r:Ro} (hr:RtOk N r) (t:Tr):(ZI3 N r t).length≤16384:=by
 unfold ZI3
 split
 ·simp
 ·rename_i h0
  obtain ⟨x,x1,x2,x3,x4⟩:∃ x,lk N r.at_=some x∧NdOk x∧x.h=r.h∧x.mea=r.m:=by
   rcases hr with rfl|w
   ·exact absurd rfl h0
   ·exact w.2
  have:=hK _ (Zkf hN r.h r.at_ [] x x1 x3 ⟨by simp,by simp⟩)
  exact Nat.le_trans (List.length_filter_le ..) this
theorem Zkk {N:ZW} (hN:GoodN N) (hK:∀ l,Lv N l→l.length≤16384) (t:Tr):∀ {rs:List Ro},(∀ r∈rs,RtOk N r)→(rs.flatMap fun r=>ZI3 N r t).length≤rs.length*16384:=by
 intro rs
 induction rs with
 | nil=>intro _;simp
 | cons r l ih =>
  intro h
  have h1:=Zar hN hK (h r (by simp)) t
  have h2:=ih (fun z hz=>h z (List.mem_cons_of_mem _ hz))
  rw [List.flatMap_cons,lL,List.length_cons];omega
theorem DrOk.app {M:Nat} {G:List Blk} {dv:AV} {w:List Nat} (h:DrOk M G dv w) (T:List Blk):DrOk M (G++T) dv w:=by
 rcases h with h|⟨j,ver,h1,h2,h3⟩
 ·exact .inl h
 ·exact .inr ⟨j,ver,h1,h2,by rw [List.getElem?_append_left (List.getElem?_eq_some_iff.1 h3).1];exact h3⟩
theorem ZP7 {A:List (Bool × List Blk)} {N:ZW} (hN:GoodN N) (hK:∀ l,Lv N l→l.length≤16384) (hz:∀ o x,lk N o=some x→o≠0) {la b:Nat} (hR:∀ L,Rd ⟨A,false,L⟩ la (b+5) N) {rs:List Ro} (hrs:∀ r∈rs,RtOk N r) (hl:rs.length≤3) {t:Tr} (hv:VE N t) (hb:t.bytes≤65536) {b6:Blk} {k:List Fr} {Q:YU}
 (hQ:∀ G dv,DrOk A.length G dv (XC N rs t)→Rk (S Tb) k Q .norm [(0,.ptr la (b+5) 0 0 0),(6,.ptr A.length 0 0 0 0),(8,.ptr A.length 1 0 0 0),(10,.ptr A.length 2 0 0 0),(11,.map A.length 3),(29,.lit (rs.map Ro.av)),(30,.int .i64 rs.length),(31,.int .i64 rs.length),(32,.bool false)] ⟨A,false,chL b6 t dv (XC N rs t) G⟩) :
 Ru (S Tb) p_edit_change_21.loop (.blk 0::k) Q [(0,.ptr la (b+5) 0 0 0),(6,.ptr A.length 0 0 0 0),(8,.ptr A.length 1 0 0 0),(10,.ptr A.length 2 0 0 0),(11,.map A.length 3),(29,.lit (rs.map Ro.av)),(30,.int .i64 rs.length),(31,.int .i64 0)] ⟨A,false,chL b6 t .nils [] []⟩:=by
 refine Z1 (α:=Nat × AV × List Blk) (fun p=>[(0,.ptr la (b+5) 0 0 0),(6,.ptr A.length 0 0 0 0),(8,.ptr A.length 1 0 0 0),(10,.ptr A.length 2 0 0 0),(11,.map A.length 3),(29,.lit (rs.map Ro.av)),(30,.int .i64 rs.length),(31,.int .i64 p.1)])
  (fun p=>⟨A,false,chL b6 t p.2.1 (XC N (rs.take p.1) t) p.2.2⟩) (fun p=>p.1≤rs.length∧DrOk A.length p.2.2 p.2.1 (XC N (rs.take p.1) t)) (fun p=>rs.length-p.1) (0,.nils,[]) rfl rfl ⟨Nat.zero_le _,.inl ⟨rfl,rfl⟩⟩ ?_
 rintro ⟨i,dv,G⟩ ⟨hi,hD⟩
 simp only at hi hD ⊢
 rcases Nat.lt_or_ge i rs.length with hlt|hge
 ·obtain ⟨ro,hro⟩:∃ x,rs[i]?=some x:=⟨rs[i]'hlt,List.getElem?_eq_getElem _⟩
  have q:0≤((i:Nat):Int)∧rs[((i:Nat):Int).toNat]?=some ro:=⟨by omega,by rw [show ((i:Nat):Int).toNat=i by omega];exact hro⟩
  have hrt:=hrs ro (List.mem_of_getElem? hro)
  have hDp:=fun L=>Zic hN hK hz (hR L) hrt hv hb
  have hdl:=Zar hN hK hrt t
  have hfl:=Zkk hN hK t (rs:=rs.take i) (fun z hz=>hrs z (List.mem_of_mem_take hz))
  rw [List.length_take,Nat.min_eq_left hi] at hfl
  have hwl:=Zaq ((rs.take i).flatMap fun r=>ZI3 N r t) []
  change (XC N (rs.take i) t).length≤_ at hwl
  simp only [List.length_nil] at hwl
  have hnx:XC N (rs.take (i+1)) t=(ZI3 N ro t).foldl Jd (XC N (rs.take i) t):=by
   unfold XC
   rw [Ze hro,List.flatMap_append,List.foldl_append];simp
  have hin:=fun k Q hQ=>Zkh (A:=A) (b6:=b6) (t:=t) (dl:=ZI3 N ro t) (hD.app [.arr 5 0 [ro.av]]) (by omega) (v0:=.ptr la (b+5) 0 0 0) (v29:=.lit (rs.map Ro.av)) (v30:=.int .i64 rs.length) (v31:=.int .i64 i) (k:=k) (Q:=Q) hQ
  rw [← hnx] at hin
  generalize ZI3 N ro t=dl at *
  generalize XC N (rs.take i) t=W at *
  have f13:∀ b0 b1 b2 b3:Blk,(b0::b1::b2::b3::G++[Blk.arr 5 0 [ro.av]])[(b0::b1::b2::b3::G).length]?=some (.arr 5 0 [ro.av]):=fun _ _ _ _=>List.getElem?_concat_length ..
  obtain ⟨ra,rh,rm⟩:=ro
  unfold chL Ro.av at *
  repeat' (first|refine hin _ _ (fun G' dv' hD'=>?_)|refine Jz (f:=Ro.av) rfl rfl q (fun _=>rfl) ?_|refine Yj rfl ?_|refine ZE ?_|refine ZD ?_|refine ZG rfl ?_|refine Zr rfl rfl ?_|refine ZB rfl ?_|refine ZC ?_|refine Qe rfl rfl rfl ?_|refine QM rfl rfl ?_|(refine Zl rfl rfl (fun _=>?_) (fun _=>?_)<;>try (exfalso;omega))|(refine Zi rfl rfl (fun _=>?_) (fun _=>?_)<;>try (exfalso;omega))|refine ZX rfl ?_|refine ZH rfl ?_|refine Zm rfl rfl (by omega) ?_|refine Zw rfl rfl rfl ?_|refine Js rfl rfl rfl rfl rfl rfl ?_|refine ZA rfl rfl (by first|rfl|(simp only [lE,lN,lC,ZZ,ZU,ZV];first|done|rfl)) (hDp _) ?_|refine ZO rfl rfl rfl (Zh _) ?_|refine ZI ?_|refine ZL ?_|refine Z2 ?_|refine QC ?_)
  all_goals try contradiction
  all_goals try (exfalso;omega)
  exact ⟨(i+1,dv',G'),⟨rfl,rfl⟩,⟨by simp only;omega,hD'⟩,by simp only;omega⟩
 ·obtain rfl:i=rs.length:=by omega
  rw [List.take_length] at hD ⊢
  repeat' (first|refine ZE ?_|refine ZD ?_|refine ZB rfl ?_|refine ZC ?_|(refine Zl rfl rfl (fun _=>?_) (fun _=>?_)<;>try (exfalso;omega))|refine ZH rfl ?_|refine Zu ?_|refine Zf ?_|refine Zc rfl ?_|refine Zt ?_)
  all_goals try (exfalso;omega)
  exact hQ G dv hD
end Go.Q15
namespace Go.Q15
open Go Go.QAbs
set_option maxRecDepth 100000
set_option maxHeartbeats 16000000
theorem ZP8 {st:St} {la b:Nat} {r:AR} (hA:Has st la b r) (ho:AROk r) (hg:GoodN r.nodes) {rs:List Ro} (hrs:∀ r'∈rs,RtOk r.nodes r') (hl:rs.length≤3) {t:Tr} (hv:VE r.nodes t) (hb:t.bytes≤65536) {mk:FuncId} {caps:List AV}
 (hmk:∀ A L,A=st.ps→S Tb mk caps ⟨A,false,L⟩=some (.tup [t.av,.int .i64 0],⟨A,false,L⟩)) (hwk:ZV (ZZ ([]++[]++caps))=some caps) (hn:r.n<nw t) :
 S Tb XK [.ptr la (b+5) 0 0 0,.func (.func mk) [] caps,.lit (rs.map Ro.av)] st=some (.tup [chZ,.int .i64 6],st):=by
 refine QI rfl (fun A hA'=>?_)
 have hM:=fun L=>hmk A L hA'
 have hlp:=fun k Q hQ=>ZP7 (A:=A) hg ho.lv ho.nz (fun L=>(hA.r.push hA' (ro:=false) (L:=L)).rd) hrs hl hv hb (b6:=.arr 7 0 [chZ]) (k:=k) (Q:=Q) hQ
 have hWr:=fun L=>ZXI (hA.push hA' (ro:=false) (L:=L)) ho hg hv hb hn
 unfold chL at hlp
 unfold chZ at *
 repeat' (first|refine ZA rfl rfl hwk (hM _) ?_|refine hlp _ _ (fun G dv hD=>?_)|refine Yj rfl ?_|refine ZE ?_|refine ZD ?_|refine ZG rfl ?_|refine Zr rfl rfl ?_|refine ZB rfl ?_|refine ZC ?_|(refine Zi rfl rfl (fun _=>?_) (fun _=>?_)<;>try (exfalso;omega))|refine ZH rfl ?_|refine Zs rfl rfl rfl ?_|refine Zg rfl rfl rfl ?_|refine Zp rfl rfl rfl rfl rfl rfl ?_|refine ZBi rfl ?_|refine ZO rfl rfl rfl (Zh _) ?_|refine Zp rfl rfl rfl (QD _ _ _) (QX _ _) rfl ?_|refine ZI ?_|refine ZL ?_)
 all_goals try contradiction
 rcases hD with ⟨_,rfl⟩|⟨j,ver,rfl,_,_⟩
 ·repeat' (first|refine ZE ?_|refine ZD ?_|refine ZG rfl ?_|refine ZS rfl rfl ?_|refine Zr rfl rfl ?_|refine ZB rfl ?_|refine ZC ?_|(refine Zi rfl rfl (fun _=>?_) (fun _=>?_)<;>try (exfalso;omega))|refine ZX rfl ?_|refine Zs rfl rfl rfl ?_|refine Qx rfl rfl rfl rfl rfl rfl ?_|refine ZA rfl rfl (by first|rfl|(simp only [lE,lN,lC,ZZ,ZU,ZV];first|done|rfl)) (hWr _) ?_|refine ZP ?_|refine ZJ ?_|refine Za ?_)
  all_goals try contradiction
  exact ZA4 hA' (.inr rfl) rfl rfl rfl rfl rfl rfl
 ·repeat' (first|refine ZE ?_|refine ZD ?_|refine ZG rfl ?_|refine ZS rfl rfl ?_|refine Zr rfl rfl ?_|refine ZB rfl ?_|refine ZC ?_|(refine Zi rfl rfl (fun _=>?_) (fun _=>?_)<;>try (exfalso;omega))|refine ZX rfl ?_|refine Zs rfl rfl rfl ?_|refine Qx rfl rfl rfl rfl rfl rfl ?_|refine ZA rfl rfl (by first|rfl|(simp only [lE,lN,lC,ZZ,ZU,ZV];first|done|rfl)) (hWr _) ?_|refine ZP ?_|refine ZJ ?_|refine Za ?_)
  all_goals try contradiction
  exact ZA4 hA' (.inr rfl) rfl rfl rfl rfl rfl rfl
theorem ZfB {st:St} {la b:Nat} {r:AR} (hA:Has st la b r) (ho:AROk r) (hg:GoodN r.nodes) {rs:List Ro} (hrs:∀ r'∈rs,RtOk r.nodes r') (hl:rs.length≤3) {t:Tr} (hv:VE r.nodes t) (hb:t.bytes≤65536) {mk:FuncId} {caps:List AV}
 (hmk:∀ A L,A=st.ps→S Tb mk caps ⟨A,false,L⟩=some (.tup [t.av,.int .i64 0],⟨A,false,L⟩)) (hwk:ZV (ZZ ([]++[]++caps))=some caps) (hn:nw t≤r.n) :
 S Tb XK [.ptr la (b+5) 0 0 0,.func (.func mk) [] caps,.lit (rs.map Ro.av)] st=some (.tup [QV (wrV t r).2.1 (wrV t r).2.2 (slH (XC r.nodes rs t)),.int .i64 0],QU st la b (wrV t r).1):=by
 refine ZAs rfl (fun A hA'=>?_)
 have hM:=fun L=>hmk A L hA'
 have hlp:=fun k Q hQ=>ZP7 (A:=A) hg ho.lv ho.nz (fun L=>(hA.r.push hA' (ro:=false) (L:=L)).rd) hrs hl hv hb (b6:=.arr 7 0 [chZ]) (k:=k) (Q:=Q) hQ
 have hle:=hA.le
 have hWr:=fun L=>Zc3 (hA.push hA' (ro:=false) (L:=L)) ho hg hv hb hn
 simp only [Y7 hA' hle] at hWr
 have hAl:A.length=((QU st la b (wrV t r).1).ps).length:=by rw [hA'];simp [ZDL]
 generalize (wrV t r).2.1=ro at *
 generalize (wrV t r).2.2=fr at *
 obtain ⟨A2,hA2⟩:∃ A2,A2=(QU st la b (wrV t r).1).ps:=⟨_,rfl⟩
 rw [← hA2] at hWr hAl
 unfold chL at hlp
 unfold chZ at *
 repeat' (first|refine ZA rfl rfl hwk (hM _) ?_|refine hlp _ _ (fun G dv hD=>?_)|refine Yj rfl ?_|refine ZE ?_|refine ZD ?_|refine ZG rfl ?_|refine Zr rfl rfl ?_|refine ZB rfl ?_|refine ZC ?_|(refine Zi rfl rfl (fun _=>?_) (fun _=>?_)<;>try (exfalso;omega))|refine ZH rfl ?_|refine Zs rfl rfl rfl ?_|refine Zg rfl rfl rfl ?_|refine Zp rfl rfl rfl rfl rfl rfl ?_|refine ZBi rfl ?_|refine ZO rfl rfl rfl (Zh _) ?_|refine Zp rfl rfl rfl (QD _ _ _) (QX _ _) rfl ?_|refine ZI ?_|refine ZL ?_)
 all_goals try contradiction
 obtain ⟨ra,rh,rm⟩:=ro
 unfold Ro.av at hWr
 rcases hD with ⟨e,rfl⟩|⟨j,ver,rfl,hne,hgd⟩
 ·rw [e]
  repeat' (first|refine ZG rfl ?_|refine ZS rfl rfl ?_|refine Zr rfl rfl ?_|refine ZA rfl rfl (by first|rfl|(simp only [lE,lN,lC,ZZ,ZU,ZV];first|done|rfl)) (hWr _) ?_)
  rw [hAl]
  repeat' (first|refine ZE ?_|refine ZD ?_|refine ZG rfl ?_|refine ZS rfl rfl ?_|refine ZO rfl rfl rfl rfl ?_|refine ZB rfl ?_|refine ZC ?_|(refine Zi rfl rfl (fun _=>?_) (fun _=>?_)<;>try (exfalso;omega))|refine ZH rfl ?_|refine Qx rfl rfl rfl rfl rfl rfl ?_|refine ZI ?_|refine ZP ?_|refine ZJ ?_)
  all_goals try contradiction
  exact ZA4 (w:=QV ⟨ra,rh,rm⟩ fr .nils) hA2 (.inr rfl) rfl rfl rfl rfl rfl rfl
 ·have hg3:∀ b0 b1 b2 b3:Blk,(b0::b1::b2::b3::G)[j+4]?=some (.arr 1 ver ((XC r.nodes rs t).map QN)):=fun _ _ _ _=>hgd
  unfold slH
  rw [if_neg hne]
  generalize XC r.nodes rs t=dd at *
  repeat' (first|refine ZG rfl ?_|refine ZS rfl rfl ?_|refine Zr rfl rfl ?_|refine ZA rfl rfl (by first|rfl|(simp only [lE,lN,lC,ZZ,ZU,ZV];first|done|rfl)) (hWr _) ?_)
  rw [hAl]
  repeat' (first|refine Qx rfl rfl rfl rfl (Zki (ro:=⟨ra,rh,rm⟩) (fr:=fr) _ (Nat.lt_succ_self _)) rfl ?_|refine ZE ?_|refine ZD ?_|refine ZG rfl ?_|refine ZS rfl rfl ?_|refine ZO rfl rfl rfl rfl ?_|refine ZB rfl ?_|refine ZC ?_|(refine Zi rfl rfl (fun _=>?_) (fun _=>?_)<;>try (exfalso;omega))|refine ZH rfl ?_|refine Qx rfl rfl rfl rfl rfl rfl ?_|refine ZI ?_|refine ZP ?_|refine ZJ ?_)
  all_goals try contradiction
  exact ZA4 (v:=QV ⟨ra,rh,rm⟩ fr (.ref A2.length (j+4) ver 0 dd.length)) (w:=QV ⟨ra,rh,rm⟩ fr (.lit (dd.map QN))) hA2 (.inr rfl) rfl rfl rfl rfl rfl (Zkj (hg3 _ _ _ _) rfl)
end Go.Q15
namespace Go.Q15
open Go Go.QAbs
set_option maxRecDepth 100000
set_option maxHeartbeats 16000000
noncomputable def edV (N:ZW) (ro:Ro) (a n:Int) (s:List UInt8):Tr:=(ZFW N (Jp ro) a n s).own
noncomputable def apV (N:ZW) (x y:Ro):Tr:=(Yw N (Jp x) (Jp y)).own
structure EdOk (N:ZW) (ro:Ro) (s0:List UInt8) (a n:Int) (s:List UInt8):Prop where
 rt:Rt N ro s0
 a0:0≤a
 n0:0≤n
 le:a+n≤s0.length
 b1:s0.length≤60000
 b2:s.length≤2000
theorem EdOk.ok {N:ZW} (hN:GoodN N) {ro:Ro} {s0:List UInt8} {a n:Int} {s:List UInt8} (h:EdOk N ro s0 a n s) :
 VE N (edV N ro a n s)∧(edV N ro a n s).bytes=s0.length-n+s.length∧(edV N ro a n s).txt N=s0.take a.toNat++s++s0.drop (a+n).toNat:=by
 obtain ⟨hk,htx⟩:=h.rt.keep
 have hb:=(h.rt.b hN).1
 have h1:=h.a0
 have h2:=h.n0
 have h3:=h.le
 have h4:=h.b1
 have h5:=h.b2
 have:=ZMj hN (s:=s) hk h1 h2 (by omega) (by omega) (by omega)
 refine ⟨ZgT this.ve,?_,?_⟩
 ·show (Tr.own _).bytes=_;rw [ZD1,this.bytes,hb]
 ·show (Tr.own _).txt N=_;rw [ZhO,this.txt,htx]
theorem ZgY {N:ZW} (hN:GoodN N) {x y:Ro} {s t:List UInt8} (hx:Rt N x s) (hy:Rt N y t) (hb:s.length+t.length≤65536):VE N (apV N x y)∧(apV N x y).bytes=s.length+t.length∧(apV N x y).txt N=s++t:=by
 obtain ⟨k1,t1⟩:=hx.keep
 obtain ⟨k2,t2⟩:=hy.keep
 have b1:=(hx.b hN).1
 have b2:=(hy.b hN).1
 have:=X8 hN k1 k2 (by omega)
 refine ⟨ZgT this.ve,?_,?_⟩
 ·show (Tr.own _).bytes=_;rw [ZD1,this.bytes];omega
 ·show (Tr.own _).txt N=_;rw [ZhO,this.txt,t1,t2]
theorem Zkl {st:St} {la b:Nat} {N:ZW} (hN:GoodN N) (hR:Rd st la (b+5) N) {ro:Ro} {s0:List UInt8} {a n:Int} {s:List UInt8} (h:EdOk N ro s0 a n s) :
 S Tb ZGa [.ptr la (b+5) 0 0 0,ro.av,.int .i64 a,.int .i64 n,.str s] st=some (.tup [(edV N ro a n s).av,.int .i64 0],st):=by
 refine QI rfl (fun A hA=>?_)
 have hRA:=fun L=>hR.push hA (ro:=false) (L:=L)
 have hKp:=fun L=>ZIJ (hRA L) h.rt.rt
 obtain ⟨hk,htx⟩:=h.rt.keep
 have hb:=(h.rt.b hN).1
 have h1:=h.a0
 have h2:=h.n0
 have h3:=h.le
 have h4:=h.b1
 have h5:=h.b2
 have hRp:=fun L=>Zah hN (hRA L) hk (a:=a) (n:=n) (s:=s) h1 h2 (by omega) (by omega) (by omega)
 unfold edV
 generalize (ZFW N (Jp ro) a n s).own=t at *
 generalize Jp ro=kt at *
 obtain ⟨ra,rh,rm⟩:=ro
 unfold Ro.av at *
 repeat' (first|refine ZA rfl rfl ZhP (hRp _) ?_|refine ZE ?_|refine ZD ?_|refine ZG rfl ?_|refine ZO rfl rfl rfl rfl ?_|refine Zr rfl rfl ?_|refine ZB rfl ?_|refine ZC ?_|(refine Zi rfl rfl (fun _=>?_) (fun _=>?_)<;>try (exfalso;omega))|refine ZH rfl ?_|refine Zg rfl rfl rfl ?_|refine ZA rfl rfl (by first|rfl|(simp only [lE,lN,lC,ZZ,ZU,ZV];first|done|rfl)) (hKp _) ?_|refine ZO rfl rfl rfl (Zh _) ?_|refine Zp rfl rfl rfl (QD _ _ _) (QX _ _) rfl ?_|refine ZI ?_|refine ZP ?_|refine ZJ ?_)
 all_goals try contradiction
 all_goals try (exfalso;omega)
 exact ZAh hA (.inr rfl) rfl rfl rfl rfl
theorem ZfC {st:St} {la b lv:Nat} {N:ZW} (hN:GoodN N) (hR:Rd st la (b+5) N) {ro:Ro} {s0:List UInt8} {a n:Int} {s:List UInt8} (h:EdOk N ro s0 a n s)
 (g0:st.get lv 0=some (.arr 1 0 [.ptr la (b+5) 0 0 0])) (g1:st.get lv 1=some (.arr 5 0 [ro.av])) (g2:st.get lv 2=some (.arr 1 0 [.int .i64 a])) (g3:st.get lv 3=some (.arr 1 0 [.int .i64 n])) (g4:st.get lv 4=some (.arr 1 0 [.str s])) :
 S Tb J7 [.ptr lv 0 0 0 0,.ptr lv 1 0 0 0,.ptr lv 2 0 0 0,.ptr lv 3 0 0 0,.ptr lv 4 0 0 0] st=some (.tup [(edV N ro a n s).av,.int .i64 0],st):=by
 refine QI rfl (fun A hA=>?_)
 have hPl:=fun L=>Zkl hN (hR.push hA (ro:=false) (L:=L)) h
 have k0:=fun L=>ZQ hA (ro:=false) (L:=L) g0
 have k1:=fun L=>ZQ hA (ro:=false) (L:=L) g1
 have k2:=fun L=>ZQ hA (ro:=false) (L:=L) g2
 have k3:=fun L=>ZQ hA (ro:=false) (L:=L) g3
 have k4:=fun L=>ZQ hA (ro:=false) (L:=L) g4
 generalize edV N ro a n s=t at *
 repeat' (first|refine Z9 rfl (k0 _) rfl rfl ?_|refine Z9 rfl (k1 _) rfl (ZAD _) ?_|refine Z9 rfl (k2 _) rfl rfl ?_|refine Z9 rfl (k3 _) rfl rfl ?_|refine Z9 rfl (k4 _) rfl rfl ?_|refine ZE ?_|refine ZD ?_|refine ZG rfl ?_|refine Zr rfl rfl ?_|refine ZB rfl ?_|refine ZC ?_|refine Zg rfl rfl rfl ?_|refine ZA rfl rfl (by first|rfl|(simp only [lE,lN,lC,ZZ,ZU,ZV];first|done|rfl)) (hPl _) ?_|refine Zp rfl rfl rfl (QD _ _ _) (QX _ _) rfl ?_|refine ZP ?_|refine ZJ ?_)
 all_goals try contradiction
 exact ZAh hA (.inr rfl) rfl rfl rfl rfl
theorem ZXR {st:St} {la b:Nat} {r:AR} (hA:Has st la b r) (ho:AROk r) (hg:GoodN r.nodes) {ro:Ro} {s0:List UInt8} {a n:Int} {s:List UInt8} (h:EdOk r.nodes ro s0 a n s) (hn:nw (edV r.nodes ro a n s)≤r.n) :
 S Tb Yq [.ptr la (b+5) 0 0 0,ro.av,.int .i64 a,.int .i64 n,.str s] st=some (.tup [QV (wrV (edV r.nodes ro a n s) r).2.1 (wrV (edV r.nodes ro a n s) r).2.2 (slH (XC r.nodes [ro] (edV r.nodes ro a n s))),.int .i64 0],QU st la b (wrV (edV r.nodes ro a n s) r).1):=by
 refine ZAs rfl (fun A hA'=>?_)
 have hle:=hA.le
 obtain ⟨hv,hvb,_⟩:=h.ok hg
 have h1:=h.n0
 have h4:=h.b1
 have h5:=h.b2
 have hCh:=ZfB (st:=⟨A,false,[.arr 1 0 [.ptr la (b+5) 0 0 0],.arr 5 0 [ro.av],.arr 1 0 [.int .i64 a],.arr 1 0 [.int .i64 n],.arr 1 0 [.str s],.arr 7 0 [chZ]]⟩) (hA.push hA') ho hg (rs:=[ro]) (fun z hz=>by rw [List.mem_singleton] at hz;rw [hz];exact h.rt.rt) (by simp) hv (by omega) (mk:=J7) (caps:=[.ptr A.length 0 0 0 0,.ptr A.length 1 0 0 0,.ptr A.length 2 0 0 0,.ptr A.length 3 0 0 0,.ptr A.length 4 0 0 0])
  (fun A2 L h2=>ZfC hg ((hA.push hA').r.rd.push h2) h (ZQ h2 (St.get_cur ..)) (ZQ h2 (St.get_cur ..)) (ZQ h2 (St.get_cur ..)) (ZQ h2 (St.get_cur ..)) (ZQ h2 (St.get_cur ..))) rfl hn
 rw [Y7 hA' hle] at hCh
 have hAl:A.length=((QU st la b (wrV (edV r.nodes ro a n s) r).1).ps).length:=by rw [hA'];simp [ZDL]
 generalize (wrV (edV r.nodes ro a n s) r).2.1=r2 at *
 generalize (wrV (edV r.nodes ro a n s) r).2.2=fr at *
 generalize XC r.nodes [ro] (edV r.nodes ro a n s)=dd at *
 obtain ⟨A2,hA2⟩:∃ A2,A2=(QU st la b (wrV (edV r.nodes ro a n s) r).1).ps:=⟨_,rfl⟩
 rw [← hA2] at hCh hAl
 simp only [List.map_cons,List.map_nil] at hCh
 obtain ⟨x1,x2,x3⟩:=r2
 unfold chZ at hCh
 unfold Ro.av at hCh ⊢
 by_cases hd:dd=[]
 ·subst hd
  rw [show slH []=.nils from rfl] at hCh ⊢
  unfold QV at hCh
  repeat' (first|refine ZE ?_|refine ZD ?_|refine ZG rfl ?_|refine ZO rfl rfl rfl rfl ?_|refine Zr rfl rfl ?_|refine ZB rfl ?_|refine ZC ?_|refine YK rfl rfl ?_|refine Zg rfl rfl rfl ?_|refine QP rfl rfl rfl rfl ?_|refine ZA rfl rfl rfl (hCh) ?_)
  rw [hAl]
  repeat' (first|refine ZG rfl ?_|refine ZB rfl ?_|refine ZC ?_|refine Zp rfl rfl rfl rfl rfl rfl ?_|refine ZP ?_|refine ZJ ?_)
  all_goals try contradiction
  exact ZA4 (w:=QV ⟨x1,x2,x3⟩ fr .nils) hA2 (.inr rfl) rfl rfl rfl rfl rfl rfl
 ·rw [show slH dd=.lit (dd.map QN) from if_neg hd] at hCh ⊢
  unfold QV at hCh
  repeat' (first|refine ZE ?_|refine ZD ?_|refine ZG rfl ?_|refine ZO rfl rfl rfl rfl ?_|refine Zr rfl rfl ?_|refine ZB rfl ?_|refine ZC ?_|refine YK rfl rfl ?_|refine Zg rfl rfl rfl ?_|refine QP rfl rfl rfl rfl ?_|refine ZA rfl rfl rfl (hCh) ?_)
  rw [hAl]
  repeat' (first|refine ZG rfl ?_|refine ZB rfl ?_|refine ZC ?_|refine Zp rfl rfl rfl rfl rfl rfl ?_|refine ZP ?_|refine ZJ ?_)
  all_goals try contradiction
  exact ZA4 (w:=QV ⟨x1,x2,x3⟩ fr (.lit (dd.map QN))) hA2 (.inr rfl) rfl rfl rfl rfl rfl rfl
end Go.Q15
namespace Go.Q15
open Go Go.QAbs
set_option maxRecDepth 100000
set_option maxHeartbeats 16000000
theorem ZhT {st:St} {la b lv:Nat} {N:ZW} (hN:GoodN N) (hR:Rd st la (b+5) N) {x y:Ro} {s t:List UInt8} (hx:Rt N x s) (hy:Rt N y t) (hb:s.length+t.length≤65536)
 (g0:st.get lv 0=some (.arr 1 0 [.ptr la (b+5) 0 0 0])) (g1:st.get lv 1=some (.arr 5 0 [x.av])) (g2:st.get lv 2=some (.arr 5 0 [y.av])) :
 S Tb YY [.ptr lv 0 0 0 0,.ptr lv 1 0 0 0,.ptr lv 2 0 0 0] st=some (.tup [(apV N x y).av,.int .i64 0],st):=by
 refine QI rfl (fun A hA=>?_)
 have hRA:=fun L=>hR.push hA (ro:=false) (L:=L)
 have hK1:=fun L=>ZIJ (hRA L) hx.rt
 have hK2:=fun L=>ZIJ (hRA L) hy.rt
 obtain ⟨v1,_⟩:=hx.keep
 obtain ⟨v2,_⟩:=hy.keep
 have b1:=(hx.b hN).1
 have b2:=(hy.b hN).1
 have hCo:=fun L=>Zjz hN (hRA L) v1 v2 (by omega)
 have k0:=fun L=>ZQ hA (ro:=false) (L:=L) g0
 have k1:=fun L=>ZQ hA (ro:=false) (L:=L) g1
 have k2:=fun L=>ZQ hA (ro:=false) (L:=L) g2
 unfold apV
 generalize (Yw N (Jp x) (Jp y)).own=u at *
 generalize Jp x=kx at *
 generalize Jp y=ky at *
 repeat' (first|refine Z9 rfl (k0 _) rfl rfl ?_|refine Z9 rfl (k1 _) rfl (ZAD _) ?_|refine Z9 rfl (k2 _) rfl (ZAD _) ?_|refine ZE ?_|refine ZD ?_|refine ZG rfl ?_|refine Zr rfl rfl ?_|refine ZB rfl ?_|refine ZC ?_|(refine Zi rfl rfl (fun _=>?_) (fun _=>?_)<;>try (exfalso;omega))|refine ZH rfl ?_|refine Zg rfl rfl rfl ?_|refine ZA rfl rfl (by first|rfl|(simp only [lE,lN,lC,ZZ,ZU,ZV];first|done|rfl)) (hK1 _) ?_|refine ZA rfl rfl (by first|rfl|(simp only [lE,lN,lC,ZZ,ZU,ZV];first|done|rfl)) (hK2 _) ?_|refine ZA rfl rfl (by first|rfl|(simp only [lE,lN,lC,ZZ,ZU,ZV];first|done|rfl)) (hCo _) ?_|refine ZO rfl rfl rfl (Zh _) ?_|refine Zp rfl rfl rfl (QD _ _ _) (QX _ _) rfl ?_|refine ZI ?_|refine ZP ?_|refine ZJ ?_)
 all_goals try contradiction
 all_goals exact ZAh hA (.inr rfl) rfl rfl rfl rfl
theorem Zid {st:St} {la b:Nat} {r:AR} (hA:Has st la b r) (ho:AROk r) (hg:GoodN r.nodes) {x y:Ro} {s t:List UInt8} (hx:Rt r.nodes x s) (hy:Rt r.nodes y t) (hb:s.length+t.length≤65536) (hn:nw (apV r.nodes x y)≤r.n) :
 S Tb ZAd [.ptr la (b+5) 0 0 0,x.av,y.av] st=some (.tup [QV (wrV (apV r.nodes x y) r).2.1 (wrV (apV r.nodes x y) r).2.2 (slH (XC r.nodes [x,y] (apV r.nodes x y))),.int .i64 0],QU st la b (wrV (apV r.nodes x y) r).1):=by
 refine ZAs rfl (fun A hA'=>?_)
 have hle:=hA.le
 obtain ⟨hv,hvb,_⟩:=ZgY hg hx hy hb
 have hCh:=ZfB (st:=⟨A,false,[.arr 1 0 [.ptr la (b+5) 0 0 0],.arr 5 0 [x.av],.arr 5 0 [y.av],.arr 7 0 [chZ]]⟩) (hA.push hA') ho hg (rs:=[x,y]) (fun z hz=>by rw [List.mem_cons,List.mem_singleton] at hz;rcases hz with hz|hz<;>rw [hz];exact hx.rt;exact hy.rt) (by simp) hv (by omega) (mk:=YY) (caps:=[.ptr A.length 0 0 0 0,.ptr A.length 1 0 0 0,.ptr A.length 2 0 0 0])
  (fun A2 L h2=>ZhT hg ((hA.push hA').r.rd.push h2) hx hy hb (ZQ h2 (St.get_cur ..)) (ZQ h2 (St.get_cur ..)) (ZQ h2 (St.get_cur ..))) rfl hn
 rw [Y7 hA' hle] at hCh
 have hAl:A.length=((QU st la b (wrV (apV r.nodes x y) r).1).ps).length:=by rw [hA'];simp [ZDL]
 generalize (wrV (apV r.nodes x y) r).2.1=r2 at *
 generalize (wrV (apV r.nodes x y) r).2.2=fr at *
 generalize XC r.nodes [x,y] (apV r.nodes x y)=dd at *
 obtain ⟨A2,hA2⟩:∃ A2,A2=(QU st la b (wrV (apV r.nodes x y) r).1).ps:=⟨_,rfl⟩
 rw [← hA2] at hCh hAl
 simp only [List.map_cons,List.map_nil] at hCh
 obtain ⟨x1,x2,x3⟩:=r2
 unfold chZ at hCh
 unfold Ro.av at hCh ⊢
 by_cases hd:dd=[]
 ·subst hd
  rw [show slH []=.nils from rfl] at hCh ⊢
  unfold QV at hCh
  repeat' (first|refine ZE ?_|refine ZD ?_|refine ZG rfl ?_|refine ZO rfl rfl rfl rfl ?_|refine Zr rfl rfl ?_|refine ZB rfl ?_|refine ZC ?_|refine YK rfl rfl ?_|refine Zg rfl rfl rfl ?_|refine QP rfl rfl rfl rfl ?_|refine ZA rfl rfl rfl (hCh) ?_)
  rw [hAl]
  repeat' (first|refine ZG rfl ?_|refine ZB rfl ?_|refine ZC ?_|refine Zp rfl rfl rfl rfl rfl rfl ?_|refine ZP ?_|refine ZJ ?_)
  all_goals try contradiction
  exact ZA4 (w:=QV ⟨x1,x2,x3⟩ fr .nils) hA2 (.inr rfl) rfl rfl rfl rfl rfl rfl
 ·rw [show slH dd=.lit (dd.map QN) from if_neg hd] at hCh ⊢
  unfold QV at hCh
  repeat' (first|refine ZE ?_|refine ZD ?_|refine ZG rfl ?_|refine ZO rfl rfl rfl rfl ?_|refine Zr rfl rfl ?_|refine ZB rfl ?_|refine ZC ?_|refine YK rfl rfl ?_|refine Zg rfl rfl rfl ?_|refine QP rfl rfl rfl rfl ?_|refine ZA rfl rfl rfl (hCh) ?_)
  rw [hAl]
  repeat' (first|refine ZG rfl ?_|refine ZB rfl ?_|refine ZC ?_|refine Zp rfl rfl rfl rfl rfl rfl ?_|refine ZP ?_|refine ZJ ?_)
  all_goals try contradiction
  exact ZA4 (w:=QV ⟨x1,x2,x3⟩ fr (.lit (dd.map QN))) hA2 (.inr rfl) rfl rfl rfl rfl rfl rfl
end Go.Q15
namespace Go.Q15
open Go Go.QAbs
set_option maxRecDepth 100000
set_option maxHeartbeats 16000000
theorem ZZw {st:St} {la b:Nat} {r:AR} (hA:Has st la b r) (ho:AROk r) (hg:GoodN r.nodes) {ro:Ro} {s0:List UInt8} {a n:Int} {s:List UInt8} (h:EdOk r.nodes ro s0 a n s) (hn:r.n<nw (edV r.nodes ro a n s)) :
 S Tb Yq [.ptr la (b+5) 0 0 0,ro.av,.int .i64 a,.int .i64 n,.str s] st=some (.tup [chZ,.int .i64 6],st):=by
 refine QI rfl (fun A hA'=>?_)
 have hle:=hA.le
 obtain ⟨hv,hvb,_⟩:=h.ok hg
 have h1:=h.n0
 have h4:=h.b1
 have h5:=h.b2
 have hCh:=ZP8 (st:=⟨A,false,[.arr 1 0 [.ptr la (b+5) 0 0 0],.arr 5 0 [ro.av],.arr 1 0 [.int .i64 a],.arr 1 0 [.int .i64 n],.arr 1 0 [.str s],.arr 7 0 [chZ]]⟩) (hA.push hA') ho hg (rs:=[ro]) (fun z hz=>by rw [List.mem_singleton] at hz;rw [hz];exact h.rt.rt) (by simp) hv (by omega) (mk:=J7) (caps:=[.ptr A.length 0 0 0 0,.ptr A.length 1 0 0 0,.ptr A.length 2 0 0 0,.ptr A.length 3 0 0 0,.ptr A.length 4 0 0 0])
  (fun A2 L h2=>ZfC hg ((hA.push hA').r.rd.push h2) h (ZQ h2 (St.get_cur ..)) (ZQ h2 (St.get_cur ..)) (ZQ h2 (St.get_cur ..)) (ZQ h2 (St.get_cur ..)) (ZQ h2 (St.get_cur ..))) rfl hn
 simp only [List.map_cons,List.map_nil] at hCh
 unfold chZ at hCh ⊢
 unfold Ro.av at hCh ⊢
 repeat' (first|refine ZE ?_|refine ZD ?_|refine ZG rfl ?_|refine ZO rfl rfl rfl rfl ?_|refine Zr rfl rfl ?_|refine ZB rfl ?_|refine ZC ?_|refine YK rfl rfl ?_|refine Zg rfl rfl rfl ?_|refine Zp rfl rfl rfl rfl rfl rfl ?_|refine QP rfl rfl rfl rfl ?_|refine ZA rfl rfl rfl (hCh) ?_|refine ZP ?_|refine ZJ ?_)
 all_goals try contradiction
 exact ZA4 (w:=chZ) hA' (.inr rfl) rfl rfl rfl rfl rfl rfl
theorem Zc9 {st:St} {la b:Nat} {r:AR} (hA:Has st la b r) (ho:AROk r) (hg:GoodN r.nodes) {x y:Ro} {s t:List UInt8} (hx:Rt r.nodes x s) (hy:Rt r.nodes y t) (hb:s.length+t.length≤65536) (hn:r.n<nw (apV r.nodes x y)) :
 S Tb ZAd [.ptr la (b+5) 0 0 0,x.av,y.av] st=some (.tup [chZ,.int .i64 6],st):=by
 refine QI rfl (fun A hA'=>?_)
 have hle:=hA.le
 obtain ⟨hv,hvb,_⟩:=ZgY hg hx hy hb
 have hCh:=ZP8 (st:=⟨A,false,[.arr 1 0 [.ptr la (b+5) 0 0 0],.arr 5 0 [x.av],.arr 5 0 [y.av],.arr 7 0 [chZ]]⟩) (hA.push hA') ho hg (rs:=[x,y]) (fun z hz=>by rw [List.mem_cons,List.mem_singleton] at hz;rcases hz with hz|hz<;>rw [hz];exact hx.rt;exact hy.rt) (by simp) hv (by omega) (mk:=YY) (caps:=[.ptr A.length 0 0 0 0,.ptr A.length 1 0 0 0,.ptr A.length 2 0 0 0])
  (fun A2 L h2=>ZhT hg ((hA.push hA').r.rd.push h2) hx hy hb (ZQ h2 (St.get_cur ..)) (ZQ h2 (St.get_cur ..)) (ZQ h2 (St.get_cur ..))) rfl hn
 simp only [List.map_cons,List.map_nil] at hCh
 unfold chZ at hCh ⊢
 unfold Ro.av at hCh ⊢
 repeat' (first|refine ZE ?_|refine ZD ?_|refine ZG rfl ?_|refine ZO rfl rfl rfl rfl ?_|refine Zr rfl rfl ?_|refine ZB rfl ?_|refine ZC ?_|refine YK rfl rfl ?_|refine Zg rfl rfl rfl ?_|refine Zp rfl rfl rfl rfl rfl rfl ?_|refine QP rfl rfl rfl rfl ?_|refine ZA rfl rfl rfl (hCh) ?_|refine ZP ?_|refine ZJ ?_)
 all_goals try contradiction
 exact ZA4 (w:=chZ) hA' (.inr rfl) rfl rfl rfl rfl rfl rfl
end Go.Q15
namespace Go.Q15
open Go Go.QAbs
set_option maxRecDepth 100000
set_option maxHeartbeats 16000000
theorem ZXS (w:List Nat) (hl:w.length<9223372036854775808) (st:St):S Tb J3 [.lit (w.map QN),.lit (w.map QN)] st=some (.bool true,st):=by
 refine QI rfl (fun A hA=>?_)
 repeat' (first|refine Yj rfl ?_|refine ZE ?_|refine ZD ?_|refine ZG rfl ?_|refine ZB rfl ?_|refine ZC ?_|(refine Zi rfl rfl (fun _=>?_) (fun _=>?_)<;>try (exfalso;omega))|refine ZH rfl ?_|refine ZI ?_|refine ZL ?_)
 all_goals try contradiction
 refine Z1 (α:=Nat) (fun i=>[(0,.lit (w.map QN)),(1,.lit (w.map QN)),(5,.int .i64 i)]) (fun i=>⟨A,false,[]⟩) (fun i=>i≤w.length) (fun i=>w.length-i) 0 rfl rfl (Nat.zero_le _) ?_
 intro i hi
 replace hi:i≤w.length:=hi
 rcases Nat.lt_or_ge i w.length with hlt|hge
 ·obtain ⟨k,hk⟩:∃ k,w[i]?=some k:=⟨w[i]'hlt,List.getElem?_eq_getElem _⟩
  have q:0≤((i:Nat):Int)∧w[((i:Nat):Int).toNat]?=some k:=⟨by omega,by rw [show ((i:Nat):Int).toNat=i by omega];exact hk⟩
  repeat' (first|refine Yj rfl ?_|refine Jz (f:=QN) rfl rfl q (fun _=>rfl) ?_|refine ZE ?_|refine ZD ?_|refine ZG rfl ?_|refine ZB rfl ?_|refine ZC ?_|refine QM rfl rfl ?_|(refine Zl rfl rfl (fun _=>?_) (fun _=>?_)<;>try (exfalso;omega))|(refine Zi rfl rfl (fun _=>?_) (fun _=>?_)<;>try (exfalso;omega))|refine ZX rfl ?_|refine ZH rfl ?_|refine Zm rfl rfl (by omega) ?_|refine ZI ?_|refine ZL ?_|refine Z2 ?_|refine QC ?_)
  all_goals try contradiction
  all_goals try (exfalso;omega)
  all_goals first|exact absurd rfl ‹_›|exact ⟨i+1,⟨rfl,rfl⟩,by omega,by omega⟩
 ·obtain rfl:i=w.length:=by omega
  repeat' (first|refine Yj rfl ?_|refine ZE ?_|refine ZD ?_|refine ZG rfl ?_|refine ZB rfl ?_|refine ZC ?_|(refine Zl rfl rfl (fun _=>?_) (fun _=>?_)<;>try (exfalso;omega))|refine ZH rfl ?_|refine ZP ?_|refine Zu ?_|refine ZJ ?_|refine Zf ?_|refine Zc rfl ?_|refine Zt ?_)
  all_goals try (exfalso;omega)
  refine Zj hA (by first|exact .inl rfl|exact .inr rfl) rfl rfl rfl rfl ?_
  rfl
structure Op where
 at_:Int
 num:Int
 text:List UInt8
def Op.av (y:Op):AV:=.agg [.int .i64 y.at_,.int .i64 y.num,.str y.text]
def Zkm (l:List Op):Prop:=∃ s∈l,300<s.text.length
noncomputable instance (l:List Op):Decidable (Zkm l):=Classical.propDecidable _
theorem Zne (l:List Op) (hb:l.length<9223372036854775808) (hs:∀ s∈l,s.text.length<9223372036854775808) (st:St):S Tb Xd [.lit (l.map Op.av)] st=some (.bool (decide (Zkm l)),st):=by
 refine QI rfl (fun A hA=>?_)
 repeat' (first|refine ZE ?_|refine ZD ?_|refine ZG rfl ?_|refine ZB rfl ?_|refine ZC ?_|refine ZL ?_)
 refine Z1 (α:=Nat) (fun i=>[(0,.lit (l.map Op.av)),(3,.int .i64 i)]) (fun p=>⟨A,false,[]⟩) (fun i=>i≤l.length∧∀ j s,j<i→l[j]?=some s→s.text.length≤300) (fun i=>l.length-i) 0 rfl rfl ⟨Nat.zero_le _,fun j s h=>by omega⟩ ?_
 rintro i ⟨h1,h3⟩
 rcases Nat.lt_or_ge i l.length with hlt|hge
 ·obtain ⟨k,hk⟩:∃ k,l[i]?=some k:=⟨l[i]'hlt,List.getElem?_eq_getElem _⟩
  have q:0≤((i:Nat):Int)∧l[((i:Nat):Int).toNat]?=some k:=⟨by omega,by rw [show ((i:Nat):Int).toNat=i by omega];exact hk⟩
  have hkb:=hs k (List.mem_of_getElem? hk)
  have hin:=List.mem_of_getElem? hk
  repeat' (first|refine Yj rfl ?_|refine Jz (f:=Op.av) rfl rfl q (fun _=>rfl) ?_|refine ZE ?_|refine ZD ?_|refine ZG rfl ?_|refine ZS rfl rfl ?_|refine ZB rfl ?_|refine ZC ?_|refine JZ rfl ?_|refine QM rfl rfl ?_|(refine Zl rfl rfl (fun _=>?_) (fun _=>?_)<;>try (exfalso;omega))|(refine QW rfl rfl (fun _=>?_) (fun _=>?_)<;>try (exfalso;omega))|refine ZX rfl ?_|refine ZH rfl ?_|refine Zm rfl rfl (by omega) ?_|refine ZI ?_|refine ZP ?_|refine ZL ?_|refine ZJ ?_|refine Za ?_|refine Z2 ?_|refine Qd ?_|refine QC ?_|refine ZEF ?_)
  all_goals try contradiction
  all_goals try (exfalso;omega)
  ·refine XQ hA (by first|exact .inl rfl|exact .inr rfl) rfl rfl ?_
   exact (decide_eq_true ⟨_,hin,by omega⟩).symm
  ·refine ⟨i+1,⟨rfl,rfl⟩,⟨by omega,fun j s2 hj h=>?_⟩,by omega⟩
   rcases Nat.lt_or_ge j i with q|q
   ·exact h3 j s2 q h
   ·obtain rfl:j=i:=by omega
    rw [hk] at h
    have:=Option.some.inj h
    subst this
    omega
 ·obtain rfl:i=l.length:=by omega
  repeat' (first|refine Yj rfl ?_|refine ZE ?_|refine ZD ?_|refine ZG rfl ?_|refine ZB rfl ?_|refine ZC ?_|(refine Zl rfl rfl (fun _=>?_) (fun _=>?_)<;>try (exfalso;omega))|refine ZH rfl ?_|refine ZP ?_|refine Zu ?_|refine ZJ ?_|refine Zf ?_|refine Zc rfl ?_|refine Zt ?_)
  all_goals try (exfalso;omega)
  refine XQ hA (by first|exact .inl rfl|exact .inr rfl) rfl rfl ?_
  refine (decide_eq_false ?_).symm
  rintro ⟨s,hs1,hs2⟩
  obtain ⟨j,hj⟩:=List.mem_iff_getElem?.1 hs1
  have:=h3 j s (List.getElem?_eq_some_iff.1 hj).1 hj
  omega
end Go.Q15
namespace Go.Q15
open Go Go.QAbs
set_option maxRecDepth 100000
set_option maxHeartbeats 8000000
end Go.Q15
namespace Go.Q15
open Go Go.QAbs
set_option maxRecDepth 100000
set_option maxHeartbeats 8000000
end Go.Q15
namespace Go.Q15
open Go Go.QAbs
set_option maxRecDepth 100000
set_option maxHeartbeats 8000000
end Go.Q15
namespace Go.Q15
open Go Go.QAbs
set_option maxRecDepth 100000
set_option maxHeartbeats 8000000
end Go.Q15
namespace Go.Q15
open Go Go.QAbs
set_option maxRecDepth 100000
set_option maxHeartbeats 8000000
theorem RtOk.nz {N:ZW} {r:Ro} (h:RtOk N r) (hb:0<r.m.b):r.at_≠0∧∃ x,lk N r.at_=some x∧NdOk x∧x.h=r.h∧x.mea=r.m:=by
 rcases h with rfl|w
 ·simp [Ro.zero,Mea.zero] at hb
 ·exact w
theorem RtOk.mb {N:ZW} (hN:GoodN N) {r:Ro} (h:RtOk N r):0≤r.m.b:=by
 rcases h with rfl|⟨h0,x,h1,h2,h3,h4⟩
 ·simp [Ro.zero,Mea.zero]
 ·rw [← h4,← ZIE hN _ _ x h1 rfl];simp [XH]
end Go.Q15
namespace Go.Q15
open Go Go.QAbs
set_option maxRecDepth 100000
set_option maxHeartbeats 8000000
theorem ZI4 {p:UInt8→Bool} {s:List UInt8} {i j:Nat} (h:i≤j):(s.take i).countP p≤(s.take j).countP p:=by
 have:s.take i=(s.take j).take i:=by rw [List.take_take,Nat.min_eq_left h]
 rw [this]
 exact List.Sublist.countP_le (List.take_sublist ..)
theorem ZS3 {p:UInt8→Bool} {s:List UInt8} {i:Nat} {c:UInt8} (h:s[i]?=some c):(s.take (i+1)).countP p=(s.take i).countP p+if p c=true then 1 else 0:=by
 rw [Ze h,List.countP_append,List.countP_singleton]
structure NthB (p:UInt8→Bool) (s:List UInt8) (n:Nat) (i:Nat) (c:UInt8):Prop where
 get:s[i]?=some c
 is:p c=true
 cnt:(s.take i).countP p=n
theorem NthB.inner {p:UInt8→Bool} {pre leaf post:List UInt8} {n i:Nat} {c:UInt8} (h:NthB p (pre++leaf++post) n i c) (h1:pre.countP p≤n) (h2:n<(pre++leaf).countP p) :
 ∃ i',i=pre.length+i'∧NthB p leaf (n-pre.countP p) i' c:=by
 obtain ⟨g,g2,g3⟩:=h
 have hs:=ZS3 (p:=p) g
 rw [if_pos g2,g3] at hs
 have a1:pre.length≤i:=by
  rcases Nat.lt_or_ge i pre.length with q|q
  ·have:=ZI4 (p:=p) (s:=pre++leaf++post) (i:=i+1) (j:=pre.length) (by omega)
   rw [hs,List.append_assoc,List.take_left] at this
   omega
  ·exact q
 have a2:i<pre.length+leaf.length:=by
  rcases Nat.lt_or_ge i (pre.length+leaf.length) with q|q
  ·exact q
  ·have:=ZI4 (p:=p) (s:=pre++leaf++post) (i:=(pre++leaf).length) (j:=i) (by rw [lL];omega)
   rw [g3,List.take_left] at this
   omega
 obtain ⟨i',rfl⟩:∃ i',i=pre.length+i':=⟨i-pre.length,by omega⟩
 have e:(pre++leaf++post).take (pre.length+i')=pre++leaf.take i':=by
  rw [List.append_assoc,List.take_length_add_append,List.take_append_of_le_length (by omega)]
 refine ⟨i',rfl,?_,g2,?_⟩
 ·rw [List.append_assoc,List.getElem?_append_right (by omega),List.getElem?_append_left (by omega)] at g
  rw [show pre.length+i'-pre.length=i' by omega] at g
  exact g
 ·rw [e,List.countP_append] at g3;omega
end Go.Q15
namespace Go.Q15
open Go Go.QAbs
set_option maxRecDepth 100000
set_option maxHeartbeats 8000000
end Go.Q15
namespace Go.Q15
open Go Go.QAbs
set_option maxRecDepth 100000
set_option maxHeartbeats 8000000
end Go.Q15
namespace Go.Q15
open Go Go.QAbs
set_option maxRecDepth 100000
set_option maxHeartbeats 16000000
def exU:List UInt8:=[97,98,99,100,101,102,103,104,105,106,107,108,109,110,111,112,113]
theorem ZIM:Qs exU=.mk 0 1 .zero [] (some [Jo [97,98,99,100,101,102,103,104,105],Jo [106,107,108,109,110,111,112,113]]):=by
 rfl
noncomputable def exUR:AR:=(wrV (Qs exU) (Q3 8 4)).1
theorem Zkn:(wrV (Qs exU) (Q3 8 4)).2.1=⟨65538,1,⟨17,17,0⟩⟩:=by
 rw [ZIM];rfl
theorem Zko:nw (Qs exU)=3:=by rw [ZIM];rfl
theorem Zn4:exUR.n=5:=by unfold exUR;rw [ZIM];rfl
theorem Znf:nw (edV exUR.nodes ⟨65538,1,⟨17,17,0⟩⟩ 9 0 [120,121,122])≤5:=by
 unfold exUR;rw [ZIM]
 decide +kernel
def exURo:Ro:=⟨65538,1,⟨17,17,0⟩⟩
theorem Zie (A:List (Bool × List Blk)):S Tb J6 [] ⟨A,false,[]⟩=some (.tup [.ptr A.length 6 0 0 0,exURo.av,.bool true],⟨A,false,[.arr 5 0 [exURo.av]]++(arB A.length 1 exUR++[.arr 5 0 [exURo.av]])⟩):=by
 have hN:=ZhC 8 4 (by omega) (by omega) A [.arr 5 0 [Ro.zero.av]]
 have h1:=ZhN (ZBP A [.arr 5 0 [Ro.zero.av]] [] (Q3 8 4)) (ZXK 8 4 (by omega) (by omega)) ZMk exU (by decide) (by rw [Zko];decide)
 rw [ZMu,Zkn] at h1
 change S Tb ZBk [.ptr A.length 6 0 0 0,.str exU] ⟨A,false,_⟩=some (_,⟨A,false,[.arr 5 0 [Ro.zero.av]]++(arB A.length 1 exUR++[])⟩) at h1
 refine ZAQ rfl ?_
 repeat' (first|refine ZE ?_|refine ZD ?_|refine ZG rfl ?_|refine QE rfl ?_|refine Zn rfl rfl rfl rfl ?_|refine Zr rfl rfl ?_|refine ZB rfl ?_|refine ZC ?_|(refine Zi rfl rfl (fun _=>?_) (fun _=>?_)<;>try (exfalso;omega))|refine ZH rfl ?_|refine Jl rfl rfl rfl rfl ?_|refine Zg rfl rfl rfl ?_|refine ZA rfl rfl rfl (hN) ?_|refine ZI ?_)
 all_goals try contradiction
 all_goals try (exfalso;omega)
 unfold exU at h1
 refine ZA rfl rfl rfl h1 ?_
 change Is _ _ _ _ _ _ ⟨A,false,[.arr 5 0 [Ro.zero.av],exUR.b0,exUR.b1,exUR.b2,exUR.b3 A.length 1,exUR.b4,exUR.b5 A.length 1]⟩
 generalize hb0:exUR.b0=b0 at *
 generalize hb1:exUR.b1=b1 at *
 generalize hb2:exUR.b2=b2 at *
 generalize hb3:exUR.b3 A.length 1=b3 at *
 generalize hb4:exUR.b4=b4 at *
 generalize hb5:exUR.b5 A.length 1=b5 at *
 repeat' (first|refine ZIG rfl rfl rfl rfl rfl rfl ?_|refine ZFA rfl rfl rfl rfl rfl rfl rfl ?_|refine ZE ?_|refine ZD ?_|refine ZG rfl ?_|refine ZS rfl rfl ?_|refine ZO rfl rfl rfl rfl ?_|refine QE rfl ?_|refine Zn rfl rfl rfl rfl ?_|refine Zr rfl rfl ?_|refine ZB rfl ?_|refine ZC ?_|(refine Zo rfl rfl (fun _=>?_) (fun _=>?_)<;>try (exfalso;omega))|refine Zg rfl rfl rfl ?_|refine Zp rfl rfl rfl rfl rfl rfl ?_|refine ZP ?_|refine ZJ ?_)
 all_goals first|exact absurd rfl ‹_›|(refine (Zm6 (.inr rfl) rfl rfl rfl rfl rfl).trans ?_;subst hb0 hb1 hb2 hb3 hb4 hb5;rfl)
theorem exU_ok:AROk exUR∧GoodN exUR.nodes∧Rt exUR.nodes exURo exU:=by
 obtain ⟨b1,b2,b3⟩:=Xl ZMk (s:=exU) (by decide)
 have ho:=ZXK 8 4 (by omega) (by omega)
 obtain ⟨w1,w2⟩:=ZXJ (r:=Q3 8 4) (ZBP [] [] [] _) ho ZMk b1 (by rw [b3];decide) (by rw [Zko];decide)
 rw [show (Q3 8 4).nodes=[] from rfl,b2,Zkn] at w2
 exact ⟨w1.ok,w1.good,w2⟩
theorem exU_edOk:EdOk exUR.nodes exURo exU 9 0 [120,121,122]:=⟨exU_ok.2.2,by decide,by decide,by decide,by decide,by decide⟩
theorem ZhU:nw (edV exUR.nodes exURo 9 0 [120,121,122])≤exUR.n:=by rw [Zn4];exact Znf
theorem Zkp {st:St} {la b:Nat} {r:AR} (hA:Has st la b r) (ho:AROk r) (hg:GoodN r.nodes) {ro:Ro} {s0:List UInt8} {a:Int} {s:List UInt8} (h:EdOk r.nodes ro s0 a 0 s) (hn:nw (edV r.nodes ro a 0 s)≤r.n) :
 S Tb ZAe [.ptr la (b+5) 0 0 0,ro.av,.int .i64 a,.str s] st=some (.tup [QV (wrV (edV r.nodes ro a 0 s) r).2.1 (wrV (edV r.nodes ro a 0 s) r).2.2 (slH (XC r.nodes [ro] (edV r.nodes ro a 0 s))),.int .i64 0],QU st la b (wrV (edV r.nodes ro a 0 s) r).1):=by
 refine ZAs rfl (fun A hA'=>?_)
 have hle:=hA.le
 have hCh:=fun L=>ZXR (hA.push hA' (ro:=false) (L:=L)) ho hg h hn
 simp only [Y7 hA' hle] at hCh
 have hAl:A.length=((QU st la b (wrV (edV r.nodes ro a 0 s) r).1).ps).length:=by rw [hA'];simp [ZDL]
 generalize (wrV (edV r.nodes ro a 0 s) r).2.1=r2 at *
 generalize (wrV (edV r.nodes ro a 0 s) r).2.2=fr at *
 generalize XC r.nodes [ro] (edV r.nodes ro a 0 s)=dd at *
 obtain ⟨A2,hA2⟩:∃ A2,A2=(QU st la b (wrV (edV r.nodes ro a 0 s) r).1).ps:=⟨_,rfl⟩
 rw [← hA2] at hCh hAl
 obtain ⟨x1,x2,x3⟩:=r2
 unfold Ro.av at hCh ⊢
 by_cases hd:dd=[]
 ·subst hd
  rw [show slH []=.nils from rfl] at hCh ⊢
  unfold QV at hCh
  repeat' (first|refine ZE ?_|refine ZD ?_|refine ZG rfl ?_|refine ZO rfl rfl rfl rfl ?_|refine Zr rfl rfl ?_|refine ZB rfl ?_|refine ZC ?_|refine Zg rfl rfl rfl ?_|refine ZA rfl rfl rfl (hCh _) ?_)
  rw [hAl]
  repeat' (first|refine ZG rfl ?_|refine ZB rfl ?_|refine ZC ?_|refine Zp rfl rfl rfl rfl rfl rfl ?_|refine ZP ?_|refine ZJ ?_)
  all_goals try contradiction
  exact ZA4 (w:=QV ⟨x1,x2,x3⟩ fr .nils) hA2 (.inr rfl) rfl rfl rfl rfl rfl rfl
 ·rw [show slH dd=.lit (dd.map QN) from if_neg hd] at hCh ⊢
  unfold QV at hCh
  repeat' (first|refine ZE ?_|refine ZD ?_|refine ZG rfl ?_|refine ZO rfl rfl rfl rfl ?_|refine Zr rfl rfl ?_|refine ZB rfl ?_|refine ZC ?_|refine Zg rfl rfl rfl ?_|refine ZA rfl rfl rfl (hCh _) ?_)
  rw [hAl]
  repeat' (first|refine ZG rfl ?_|refine ZB rfl ?_|refine ZC ?_|refine Zp rfl rfl rfl rfl rfl rfl ?_|refine ZP ?_|refine ZJ ?_)
  all_goals try contradiction
  exact ZA4 (w:=QV ⟨x1,x2,x3⟩ fr (.lit (dd.map QN))) hA2 (.inr rfl) rfl rfl rfl rfl rfl rfl
theorem ZPZ (st:St):S T3 Qf [] st=some (.bool true,st):=by
 refine QI (le3 Qf (.pf XG) rfl) (fun A hA=>?_)
 obtain ⟨o1,o2,o3⟩:=exU_ok
 have hS:=up3 (Zie A)
 obtain ⟨v1,v2,v3⟩:=exU_edOk.ok o2
 obtain ⟨w1,w2⟩:=ZXJ (r:=exUR) (ZBP [] [] [] _) o1 o2 v1 (by rw [v2];decide) ZhU
 rw [v3] at w2
 have hI:=fun T=>up3 (Zkp (ZBP A [.arr 5 0 [exURo.av]] T exUR) o1 o2 exU_edOk ZhU)
 simp only [ZMu] at hI
 generalize edV exUR.nodes exURo 9 0 [120,121,122]=t at *
 generalize XC exUR.nodes [exURo] t=dd at *
 have hT:=fun T=>ZHy w1.good (ZBP A [.arr 5 0 [exURo.av]] T (wrV t exUR).1).r.rd w2.rt (by rw [w2.leaves w1.good];decide)
 rw [w2.leaves w1.good] at hT
 generalize (wrV t exUR).2.2=fr at *
 generalize (wrV t exUR).2.1=r2 at *
 generalize (wrV t exUR).1=R2 at *
 change ∀ T,S T3 Jy [.ptr A.length 6 0 0 0,r2.av] ⟨A,false,.arr 5 0 [exURo.av]::R2.b0::R2.b1::R2.b2::R2.b3 A.length 1::R2.b4::R2.b5 A.length 1::T⟩=some (_,⟨A,false,.arr 5 0 [exURo.av]::R2.b0::R2.b1::R2.b2::R2.b3 A.length 1::R2.b4::R2.b5 A.length 1::T⟩) at hT
 change ∀ T,S T3 ZAe [.ptr A.length 6 0 0 0,exURo.av,.int .i64 9,.str [120,121,122]] ⟨A,false,.arr 5 0 [exURo.av]::exUR.b0::exUR.b1::exUR.b2::exUR.b3 A.length 1::exUR.b4::exUR.b5 A.length 1::T⟩=some (_,⟨A,false,.arr 5 0 [exURo.av]::R2.b0::R2.b1::R2.b2::R2.b3 A.length 1::R2.b4::R2.b5 A.length 1::T⟩) at hI
 change S T3 J6 [] ⟨A,false,[]⟩=some (_,⟨A,false,.arr 5 0 [exURo.av]::exUR.b0::exUR.b1::exUR.b2::exUR.b3 A.length 1::exUR.b4::exUR.b5 A.length 1::[.arr 5 0 [exURo.av]]⟩) at hS
 generalize exUR.b0=b0 at *
 generalize exUR.b1=b1 at *
 generalize exUR.b2=b2 at *
 generalize exUR.b3 A.length 1=b3 at *
 generalize exUR.b4=b4 at *
 generalize exUR.b5 A.length 1=b5 at *
 generalize R2.b0=c0 at *
 generalize R2.b1=c1 at *
 generalize R2.b2=c2 at *
 generalize R2.b3 A.length 1=c3 at *
 generalize R2.b4=c4 at *
 generalize R2.b5 A.length 1=c5 at *
 obtain ⟨x1,x2,x3⟩:=r2
 unfold QV at hI
 unfold exURo Ro.av at *
 unfold exU at hT
 by_cases hd:dd=[]
 ·subst hd
  rw [show slH []=.nils from rfl] at hI
  repeat' (first|refine ZE ?_|refine ZD ?_|refine ZG rfl ?_|refine ZS rfl rfl ?_|refine ZO rfl rfl rfl rfl ?_|refine QE rfl ?_|refine Zn rfl rfl rfl rfl ?_|refine Zr rfl rfl ?_|refine ZB rfl ?_|refine ZC ?_|(refine Zo rfl rfl (fun _=>?_) (fun _=>?_)<;>try (exfalso;omega))|(refine Yg rfl rfl (fun _=>?_) (fun _=>?_)<;>try contradiction)|refine ZH rfl ?_|refine JA rfl rfl ?_|refine Zg rfl rfl rfl ?_|refine Zp rfl rfl rfl rfl rfl rfl ?_|refine ZA rfl rfl rfl (hS) ?_|refine ZA rfl rfl rfl (hI _) ?_|refine ZA rfl rfl rfl (hT _) ?_|refine ZI ?_|refine ZP ?_|refine ZJ ?_)
  all_goals try contradiction
  all_goals try (exfalso;omega)
  all_goals try exact absurd rfl ‹_›
  refine Zj hA (by first|exact .inl rfl|exact .inr rfl) rfl rfl rfl rfl ?_
  rfl
 ·rw [show slH dd=.lit (dd.map QN) from if_neg hd] at hI
  repeat' (first|refine ZE ?_|refine ZD ?_|refine ZG rfl ?_|refine ZS rfl rfl ?_|refine ZO rfl rfl rfl rfl ?_|refine QE rfl ?_|refine Zn rfl rfl rfl rfl ?_|refine Zr rfl rfl ?_|refine ZB rfl ?_|refine ZC ?_|(refine Zo rfl rfl (fun _=>?_) (fun _=>?_)<;>try (exfalso;omega))|(refine Yg rfl rfl (fun _=>?_) (fun _=>?_)<;>try contradiction)|refine ZH rfl ?_|refine JA rfl rfl ?_|refine Zg rfl rfl rfl ?_|refine Zp rfl rfl rfl rfl rfl rfl ?_|refine ZA rfl rfl rfl (hS) ?_|refine ZA rfl rfl rfl (hI _) ?_|refine ZA rfl rfl rfl (hT _) ?_|refine ZI ?_|refine ZP ?_|refine ZJ ?_)
  all_goals try contradiction
  all_goals try (exfalso;omega)
  all_goals try exact absurd rfl ‹_›
  refine Zj hA (by first|exact .inl rfl|exact .inr rfl) rfl rfl rfl rfl ?_
  rfl
end Go.Q15
namespace Go.Q15
open Go Go.QAbs
set_option maxRecDepth 100000
set_option maxHeartbeats 16000000
def ZC6 (texts:List (List UInt8)) (ys:List Ed):Prop:=ZP5 texts∨ZXO ys∨12<ys.length
noncomputable instance (texts:List (List UInt8)) (ys:List Ed):Decidable (ZC6 texts ys):=Classical.propDecidable _
theorem Zkq (texts:List (List UInt8)) (ys:List Ed) (hb:texts.length<9223372036854775808) (hbs:∀ s∈texts,s.length<9223372036854775808) (hy:ys.length<9223372036854775808) (hys:∀ y∈ys,y.text.length<9223372036854775808) (st:St) :
 S Tb Yp [.lit (texts.map .str),.lit (ys.map Ed.av)] st=some (.bool (decide (ZC6 texts ys)),st):=by
 refine QI rfl (fun A hA=>?_)
 have hLg:=fun st=>ZnW texts hb hbs st
 have hMn:=fun st=>ZkU ys hy hys st
 by_cases hl:ZP5 texts
 ·rw [decide_eq_true (show ZC6 texts ys from .inl hl)]
  simp only [decide_eq_true hl] at hLg
  repeat' (first|refine ZE ?_|refine ZD ?_|refine ZG rfl ?_|refine Jb rfl rfl ?_|refine Zn rfl rfl rfl rfl ?_|refine ZB rfl ?_|refine ZC ?_|refine ZA rfl rfl rfl (hLg _) ?_|refine ZP ?_|refine ZJ ?_)
  all_goals try contradiction
  all_goals refine Zj hA (by first|exact .inl rfl|exact .inr rfl) rfl rfl rfl rfl ?_
  all_goals rfl
 simp only [decide_eq_false hl] at hLg
 by_cases hm:ZXO ys
 ·rw [decide_eq_true (show ZC6 texts ys from .inr (.inl hm))]
  simp only [decide_eq_true hm] at hMn
  repeat' (first|refine ZE ?_|refine ZD ?_|refine ZG rfl ?_|refine QE rfl ?_|refine Jb rfl rfl ?_|refine Zn rfl rfl rfl rfl ?_|refine ZB rfl ?_|refine ZC ?_|refine ZA rfl rfl rfl (hLg _) ?_|refine ZA rfl rfl rfl (hMn _) ?_|refine ZP ?_|refine ZJ ?_)
  all_goals try contradiction
  all_goals refine Zj hA (by first|exact .inl rfl|exact .inr rfl) rfl rfl rfl rfl ?_
  all_goals rfl
 simp only [decide_eq_false hm] at hMn
 by_cases h12:12<ys.length
 ·rw [decide_eq_true (show ZC6 texts ys from .inr (.inr h12))]
  repeat' (first|refine Yj rfl ?_|refine ZE ?_|refine ZD ?_|refine ZG rfl ?_|refine QE rfl ?_|refine Zn rfl rfl rfl rfl ?_|refine ZB rfl ?_|refine ZC ?_|(refine QW rfl rfl (fun _=>?_) (fun _=>?_)<;>try (exfalso;omega))|refine ZA rfl rfl rfl (hLg _) ?_|refine ZA rfl rfl rfl (hMn _) ?_|refine ZP ?_|refine ZJ ?_)
  all_goals try contradiction
  all_goals try (exfalso;omega)
  all_goals refine Zj hA (by first|exact .inl rfl|exact .inr rfl) rfl rfl rfl rfl ?_
  all_goals rfl
 ·rw [decide_eq_false (show ¬ ZC6 texts ys from fun q=>q.elim hl fun q=>q.elim hm h12)]
  repeat' (first|refine Yj rfl ?_|refine ZE ?_|refine ZD ?_|refine ZG rfl ?_|refine QE rfl ?_|refine Zn rfl rfl rfl rfl ?_|refine ZB rfl ?_|refine ZC ?_|(refine QW rfl rfl (fun _=>?_) (fun _=>?_)<;>try (exfalso;omega))|refine ZA rfl rfl rfl (hLg _) ?_|refine ZA rfl rfl rfl (hMn _) ?_|refine ZP ?_|refine ZJ ?_)
  all_goals try contradiction
  all_goals try (exfalso;omega)
  all_goals refine Zj hA (by first|exact .inl rfl|exact .inr rfl) rfl rfl rfl rfl ?_
  all_goals rfl
theorem ZdA (x n:Int) (h0:0≤n) (h1:n<4611686018427387904) (st:St):S Tb JD [.int .i64 x,.int .i64 n] st=some (.int .i64 (Q4 x n),st):=by
 refine QI rfl (fun A hA=>?_)
 have hP:=fun st=>Zc8 x n h0 h1 st
 repeat' (first|refine ZE ?_|refine ZD ?_|refine ZG rfl ?_|refine ZB rfl ?_|refine ZC ?_|refine ZA rfl rfl rfl (hP _) ?_|refine ZP ?_|refine ZJ ?_)
 refine Zj hA (by first|exact .inl rfl|exact .inr rfl) rfl rfl rfl rfl ?_
 rfl
end Go.Q15
namespace Go.Q15
open Go Go.QAbs
set_option maxRecDepth 100000
set_option maxHeartbeats 16000000
end Go.Q15
namespace Go.Q15
open Go Go.QAbs
set_option maxRecDepth 100000
set_option maxHeartbeats 16000000
theorem Zif {texts:List (List UInt8)} {ys:List Ed} (h:¬ ZC6 texts ys):(texts.flatten.length≤900∧texts.length≤4)∧ys.length≤12∧∀ y∈ys,y.text.length≤200:=by
 have h1:¬ ZP5 texts:=fun q=>h (.inl q)
 have h2:¬ ZXO ys:=fun q=>h (.inr (.inl q))
 have h3:¬ 12<ys.length:=fun q=>h (.inr (.inr q))
 obtain ⟨a,b,c⟩:=ZnX h1 h2
 exact ⟨a,by omega,c⟩
end Go.Q15
namespace Go.Q15
open Go Go.QAbs
set_option maxRecDepth 100000
set_option maxHeartbeats 16000000
theorem ZhV {T:Tab} {g:FuncId} {ws:List AV} {A:List (Bool × List Blk)} {L L':List Blk} {v:AV} (hc:S T g ws ⟨A++[(false,L)],false,[]⟩=some (v,⟨A++[(false,L')],false,[]⟩))
 (hs:ZY QA (A++[(false,L')]).length ⟨A++[(false,L')],false,[]⟩ v=some (v,⟨A++[(false,L')],false,[]⟩)):Qt (S T) .inner g ws ⟨A,false,L⟩=some (v,⟨A,false,L'⟩):=by
 simp only [Qt,St.push,hc,oS,ZI6,ZA5]
 rw [hs]
 simp only [oS,JY,ZEA,ZKR]
theorem Zkr (b:Nat) (st:St) (x:Ro) (fr dd:List Nat) (z:Int):ZY QA b st (.tup [QV x fr (slH dd),.int .i64 z])=some (.tup [QV x fr (slH dd),.int .i64 z],st):=by
 unfold slH QV
 split<;>rfl
theorem Zks (b:Nat) (st:St) (z:Int):ZY QA b st (.tup [chZ,.int .i64 z])=some (.tup [chZ,.int .i64 z],st):=rfl
theorem Zas (j:Nat):∀ L:List Blk,findH j (L++[Blk.hole j])=some L.length
 | []=>by simp [findH]
 | b::L=>by simp only [lC,findH,Zas j L,List.length_cons]
section
variable {O:Orc} {k:List Fr} {Q:YU} {e:Env} {A:List (Bool × List Blk)} {L:List Blk} {keep:List Nat} {is:List QAbs.PI} {d:Nat}
theorem ZXT {j w:Nat} {x:Opd} {v:AV} (hx:Zb e x=some v) (hw:v.wide=some w) (h:Is O is keep k Q ((d,.ptr A.length L.length 0 0 0)::e) ⟨A,false,L++[Blk.arr w 0 [v]]⟩) :
 Is O (⟨some d,none,false,.w (.here j) (.box x)⟩::is) keep k Q e ⟨A,false,L++[Blk.hole j]⟩:=by
 have hf:findH j (L++[Blk.hole j])=some L.length:=by
  exact Zas j L
 refine Z0 (v:=.ptr A.length L.length 0 0 0) (st':=⟨A,false,L++[Blk.arr w 0 [v]]⟩) ?_ h
 simp only [Zd,Z7,newOf,ZF hx,hw,oS,ZTM,ZdO,and_self,if_true,hf,ZTL]
 simp
end
theorem Zkt {st:St} {A:List (Bool × List Blk)} (hA:A=st.A++[(st.ro,st.L)]) {r:AR} {v w n:Nat} {ros:List Ro} {ss:List (List UInt8)} {G0 G1:List Blk} (hI:MkInv r ros ss n 3300) :
 Ru (S T3) p_quartolaw19_EditTexts_41.loop [Fr.blk 2,Fr.seq (p_quartolaw19_EditTexts_42.seq PC.ret)] (fun x e st'=>JM false [RV.s 10] (x,e,st')=some (AV.bool true,st))
  [(11,.ptr A.length 5 0 0 0),(12,.ref A.length 6 v 0 n),(13,.ref A.length (7+G0.length) w 0 n),(37,.int .i64 0)] ⟨A,false,ltL A.length r v ros G0 w ss G1⟩:=by
 have hWk:=fun st=>ZPZ st
 refine Z1 (α:=Nat) (fun k=>[(11,.ptr A.length 5 0 0 0),(12,.ref A.length 6 v 0 n),(13,.ref A.length (7+G0.length) w 0 n),(37,.int .i64 k)])
  (fun k=>⟨A,false,ltL A.length r v ros G0 w ss G1⟩) (fun k=>k≤n) (fun k=>n-k) 0 rfl rfl (Nat.zero_le _) ?_
 rintro k hk
 have hrs:=hI.len
 have hn:=hI.n20
 have hsl:=hI.rts.1
 rcases Nat.lt_or_ge k n with hlt|hge
 ·obtain ⟨ro,hro⟩:∃ x,ros[k]?=some x:=⟨ros[k]'(by omega),List.getElem?_eq_getElem _⟩
  obtain ⟨s,hs⟩:∃ x,ss[k]?=some x:=⟨ss[k]'(by omega),List.getElem?_eq_getElem _⟩
  have hR:=hI.rts.2 k ro s hro hs
  have hs2:=hI.small s (List.mem_of_getElem? hs)
  have hlf:=hR.leaves hI.good
  have hT:=ZHy hI.good (b:=0) (ZP6 (A:=A) (r:=r) (v:=v) (ros:=ros) (G0:=G0) (w:=w) (ss:=ss) (G1:=G1)) hR.rt (by rw [hlf];omega)
  rw [hlf] at hT
  have f6:(ltL A.length r v ros G0 w ss G1)[6]?=_:=ZkX
  have f7:(ltL A.length r v ros G0 w ss G1)[7+G0.length]?=_:=ZmY
  have g6:(ros.map Ro.av)[0+((k:Nat):Int).toNat]?=some ro.av:=by rw [show 0+((k:Nat):Int).toNat=k by omega,List.getElem?_map,hro];rfl
  have g7:(ss.map AV.str)[0+((k:Nat):Int).toNat]?=some (.str s):=by rw [show 0+((k:Nat):Int).toNat=k by omega,List.getElem?_map,hs];rfl
  generalize ltL A.length r v ros G0 w ss G1=L1 at *
  repeat' (first|refine ZAc rfl rfl (by omega) f6 ?_|refine ZAc rfl rfl (by omega) f7 ?_|refine ZO rfl f6 g6 (ZAD _) ?_|refine ZO rfl f7 g7 rfl ?_|refine ZE ?_|refine ZD ?_|refine ZG rfl ?_|refine QE rfl ?_|refine Zn rfl rfl rfl rfl ?_|refine Zr rfl rfl ?_|refine ZB rfl ?_|refine ZC ?_|refine JI rfl ?_|(refine Zl rfl rfl (fun _=>?_) (fun _=>?_)<;>try (exfalso;omega))|(refine Zi rfl rfl (fun _=>?_) (fun _=>?_)<;>try (exfalso;omega))|(refine ZTB rfl rfl (fun _=>?_) (fun _=>?_)<;>try contradiction)|refine ZX rfl ?_|refine ZH rfl ?_|refine Zm rfl rfl (by omega) ?_|refine ZA rfl rfl rfl (hT) ?_|refine ZI ?_|refine ZL ?_|refine Z2 ?_|refine QC ?_)
  all_goals try contradiction
  all_goals try (exfalso;omega)
  all_goals first|exact ⟨k+1,⟨rfl,rfl⟩,by omega,by omega⟩|exact absurd rfl ‹_›
 ·obtain rfl:k=n:=by omega
  repeat' (first|refine ZE ?_|refine ZD ?_|refine ZG rfl ?_|refine ZB rfl ?_|refine ZC ?_|refine JI rfl ?_|(refine Zl rfl rfl (fun _=>?_) (fun _=>?_)<;>try (exfalso;omega))|refine ZH rfl ?_|refine ZA rfl rfl rfl (hWk _) ?_|refine ZP ?_|refine Zu ?_|refine ZJ ?_|refine Zf ?_|refine Zc rfl ?_|refine Zt ?_)
  all_goals try (exfalso;omega)
  refine Zj hA (by first|exact .inl rfl|exact .inr rfl) rfl rfl rfl rfl ?_
  rfl
end Go.Q15
namespace Go.Q15
open Go Go.QAbs
set_option maxRecDepth 100000
set_option maxHeartbeats 16000000
section
variable {O:Orc} {k:List Fr} {Q:YU} {e:Env} {A:List (Bool × List Blk)} {L:List Blk} {keep:List Nat} {is:List QAbs.PI} {d:Nat} {st:St}
theorem Zig {w:Nat} {x i b:Opd} {ix ver s m v2 s2 m2:Nat} {n:Int} {es:List AV} (hx:Zb e x=some (.ref A.length ix ver s m)) (hb:Zb e b=some (.ref A.length ix v2 s2 m2)) (hi:Zb e i=some (.int .i64 n)) (hn:0≤n∧n<m) (hg:L[ix]?=some (Blk.arr w ver es))
 (h:Is O is keep k Q ((d,.ptr A.length ix ver (s+n.toNat) 0)::e) ⟨A,false,L⟩):Is O (⟨some d,none,false,.w (.only b) (.ixS w x i)⟩::is) keep k Q e ⟨A,false,L⟩:=by
 refine Z0 (v:=.ptr A.length ix ver (s+n.toNat) 0) (st':=⟨A,false,L⟩) ?_ h
 have hgt:(St.hide (fun lv ix=>!Y9 lv ix (b.get e)) ⟨A,false,L⟩).get A.length ix=some (Blk.arr w ver es):=by
  rw [XJ,St.get_cur,hg,ZF hb]
  simp [Y9,vis]
 have hio:Yx m (.int .i64 n)=some n.toNat:=by simp only [Yx,if_pos hn]
 simp only [Zd,Z7,PO.reads,if_true,evalPO,ZF hx,ZF hi,ixSV,hio,hgt,wIs,oS,QY,QL]
 simp [QY,QL]
theorem ZgZ {a b:Opd} {agg:Bool} {n ix ver i o w v2 s2 m2:Nat} {es:List AV} {x v:AV} (ha:Zb e a=some (.ptr A.length ix ver i o)) (hb:Zb e b=some (.ref A.length ix v2 s2 m2))
 (hg:L[ix]?=some (Blk.arr w ver es)) (hx:es[i]?=some x) (hv:JK x agg o n=some v) (h:Is O is keep k Q ((d,v)::e) ⟨A,false,L⟩):Is O (⟨some d,none,false,.w (.only b) (.ld agg n a)⟩::is) keep k Q e ⟨A,false,L⟩:=by
 refine Z0 (v:=v) (st':=⟨A,false,L⟩) ?_ h
 have hgt:(St.hide (fun lv ix=>!Y9 lv ix (b.get e)) ⟨A,false,L⟩).get A.length ix=some (Blk.arr w ver es):=by
  rw [XJ,St.get_cur,hg,ZF hb]
  simp [Y9,vis]
 simp only [Zd,Z7,PO.reads,if_true,evalPO,ZF ha,loadP,hgt,ZDO,hx,hv,oS,QY,QL]
theorem Zng {a x b:Opd} {n lv ix ver i o lv2 ix2 v2 s2 m2:Nat} {vx:AV} (ha:Zb e a=some (.ptr lv ix ver i o)) (hb:Zb e b=some (.ref lv2 ix2 v2 s2 m2)) (hx:Zb e x=some vx) (hne:¬ (lv=lv2∧ix=ix2)) (hh:ZAF 6 (lv+1) vx=true)
 (h:Is O (⟨none,none,false,.st n a x⟩::is) keep k Q e st):Is O (⟨none,none,false,.w (.off b) (.st n a x)⟩::is) keep k Q e st:=by
 refine ZhF ?_ h
 have hs:ZdP (.ref lv2 ix2 v2 s2 m2) (.ptr lv ix ver i o) vx=true:=by
  unfold ZdP
  simp only [Y9,hh,Bool.and_true,Bool.not_eq_true',Bool.and_eq_false_iff,beq_eq_false_iff_ne,ne_eq]
  by_cases q:lv=lv2
  ·exact .inr fun z=>hne ⟨q,z⟩
  ·exact .inl q
 simp only [Zd,Z7,ZhY,ZF ha,ZF hb,ZF hx,hs,if_true]
end
section
variable {n:Nat} {r:AR} {v w:Nat} {ros:List Ro} {ss:List (List UInt8)} {G0 G1 G2:List Blk}
theorem ZdB (b:Blk):(ltL n r v ros G0 w ss (G1++b::G2))[8+G0.length+G1.length]?=some b:=by
 rw [show 8+G0.length+G1.length=(G0.length+1+G1.length)+7 by omega]
 show (G0++.arr 1 w (ss.map .str)::(G1++b::G2))[G0.length+1+G1.length]?=_
 rw [List.getElem?_append_right (by omega),show G0.length+1+G1.length-G0.length=G1.length+1 by omega,List.getElem?_cons_succ]
 exact ZKJ _ _ _
theorem ZhW (b b':Blk):(ltL n r v ros G0 w ss (G1++b::G2)).set (8+G0.length+G1.length) b'=ltL n r v ros G0 w ss (G1++b'::G2):=by
 rw [show 8+G0.length+G1.length=(G0.length+(G1.length+1))+7 by omega]
 unfold ltL
 simp only [List.set_cons_succ]
 rw [List.set_append_right _ _ (by omega),show G0.length+(G1.length+1)-G0.length=G1.length+1 by omega,List.set_cons_succ,List.set_append_right _ _ (by omega),Nat.sub_self,List.set_cons_zero]
theorem Zga:(ltL n r v ros G0 w ss G1).length=8+G0.length+G1.length:=by
 simp [ltL];omega
end
theorem ZdC (ro:Ro) (fr:List Nat) (d:AV):JK (QV ro fr d) true 0 5=some ro.av:=rfl
theorem Zme (b:Nat) (st:St) (ro:Ro) (fr dd:List Nat):ZY QA b st (QV ro fr (slH dd))=some (QV ro fr (slH dd),st):=by
 unfold slH QV
 split<;>rfl
theorem Znh (y:AV) (ro:Ro) (fr dd:List Nat):(Q6 7 y 0 7 (QV ro fr (slH dd))).bind YL=some (QV ro fr (slH dd)):=by
 unfold slH QV
 split<;>rfl
theorem Zku {N M:ZW} (hN:GoodN N) (hs:Ext N M):∀ n o x,lk N o=some x→x.h=n→XN M n o=XN N n o:=by
 intro n
 induction n with
 | zero=>intro o x hx hh;rfl
 | succ n ih =>
  intro o x hx hh
  obtain ⟨hok,hk⟩:=hN o x hx
  rw [ZTG hx hok hh,ZTG (hs _ _ hx) hok hh]
  have key:∀ l:List Kid,(∀ k∈l,k∈x.ks)→(l.flatMap fun k=>XN M n k.at_)=l.flatMap fun k=>XN N n k.at_:=by
   intro l
   induction l with
   | nil=>intro _;rfl
   | cons k l ih2 =>
    intro h
    obtain ⟨_,y,y1,y2,_⟩:=hk k (h k (by simp))
    rw [List.flatMap_cons,List.flatMap_cons,ih k.at_ y y1 (by omega),ih2 (fun q hq=>h q (by simp [hq]))]
  rw [show n+1-1=n by omega,key x.ks fun _ h=>h]
theorem Zgb {N M:ZW} (hN:GoodN N) (hE:Ext N M) {r:Ro} (h:RtOk N r):Q5 M r=Q5 N r:=by
 unfold Q5
 split
 ·rfl
 ·rename_i q
  rcases h with e|⟨_,x,h1,_,h2,_⟩
  ·rw [e] at q;exact absurd rfl q
  ·exact Zku hN hE _ _ x h1 h2
end Go.Q15
namespace Go.Q15
open Go Go.QAbs
set_option maxRecDepth 100000
set_option maxHeartbeats 32000000
section
variable {O:Orc} {k:List Fr} {Q:YU} {e:Env} {A:List (Bool × List Blk)} {L:List Blk} {keep:List Nat} {is:List QAbs.PI}
theorem ZdD {d:Nat} {st:St} {x y:Opd} {a b c:List UInt8} (hx:Zb e x=some (.str a)) (hy:Zb e y=some (.str b)) (hl:a.length+b.length<4611686018427387904) (he:a++b=c) (h:Is O is keep k Q ((d,.str c)::e) st):Is O (⟨some d,none,false,.bin .add x y⟩::is) keep k Q e st:=by
 subst he;exact Zjb hx hy hl h
theorem ZhX {a x:Opd} {y:AV} {ro:Ro} {fr dd:List Nat} (ha:Zb e a=some (.ptr A.length L.length 0 0 0)) (hx:Zb e x=some (QV ro fr (slH dd))) (h:Is O is keep k Q e ⟨A,false,L++[Blk.arr 7 0 [QV ro fr (slH dd)]]⟩) :
 Is O (⟨none,none,false,.st 7 a x⟩::is) keep k Q e ⟨A,false,L++[Blk.arr 7 0 [y]]⟩ :=
 ZKK (L0:=L) (T:=[Blk.arr 7 0 [y]]) (ix:=0) (i:=0) (w:=7) (ver:=0) (es:=[y]) ha hx rfl rfl (Zme _ _ _ _ _) (Znh _ _ _ _) (YF _) h
end
end Go.Q15
namespace Go.Q15
open Go Go.QAbs
set_option maxRecDepth 100000
set_option maxHeartbeats 32000000
abbrev edE (A:List (Bool × List Blk)) (ops:List Op) (n w:Nat) (j:Int) (g0 jr:Nat) (s:List UInt8) (i:Nat):Env :=
 [(2,.lit (ops.map Op.av)),(11,.ptr A.length 5 0 0 0),(12,.ref A.length 6 n 0 n),(13,.ref A.length (7+g0) w 0 n),(16,.int .i64 j),(17,.ptr A.length jr 0 0 0),(18,.str s),(19,.int .i64 i)]
theorem Zkv {st:St} {A:List (Bool × List Blk)} (hA:A=st.A++[(st.ro,st.L)]) {r0:AR} {w n:Nat} {ros:List Ro} {ss:List (List UInt8)} {G0 G1:List Blk} {ops:List Op} (hl:ops.length≤6) (hw:∀ o∈ops,o.text.length≤300) {ro0:Ro} {s0:List UInt8} {j:Int}
 (hI0:MkInv r0 ros ss n 3300) (hR0:Rt r0.nodes ro0 s0) (hs0:s0.length≤3300) (hj:0≤j∧j<n) :
 Ru (S T3) p_quartolaw19_EditTexts_34.loop [Fr.blk 0,Fr.seq ((p_quartolaw19_EditTexts_35.seq (p_quartolaw19_EditTexts_41.loop.block 2)).seq (p_quartolaw19_EditTexts_42.seq PC.ret))] (fun x e st'=>JM false [RV.s 10] (x,e,st')=some (AV.bool true,st))
  (edE A ops n w j G0.length (8+G0.length+G1.length) s0 0) ⟨A,false,ltL A.length r0 n ros G0 w ss (G1++[.arr 5 0 [ro0.av]])⟩:=by
 have hWk:=fun st=>ZPZ st
 refine Z1 (α:=Nat × AR × Ro × List UInt8 × List Blk) (fun p=>edE A ops n w j G0.length (8+G0.length+G1.length) p.2.2.2.1 p.1)
  (fun p=>⟨A,false,ltL A.length p.2.1 n ros G0 w ss (G1++.arr 5 0 [p.2.2.1.av]::p.2.2.2.2)⟩) (fun p=>p.1≤ops.length∧MkInv p.2.1 ros ss n 3300∧Rt p.2.1.nodes p.2.2.1 p.2.2.2.1∧p.2.2.2.1.length≤3300+300*p.1) (fun p=>ops.length-p.1) (0,r0,ro0,s0,[]) rfl rfl ⟨Nat.zero_le _,hI0,hR0,by simp only;omega⟩ ?_
 rintro ⟨i,r,ro,s,G2⟩ ⟨hi,hI,hRt,hs⟩
 simp only at hi hI hRt hs ⊢
 have hrs:=hI.len
 have hn:=hI.n20
 have hsl:=hI.rts.1
 rcases Nat.lt_or_ge i ops.length with hlt|hge
 ·obtain ⟨o,ho⟩:∃ x,ops[i]?=some x:=⟨ops[i]'(by omega),List.getElem?_eq_getElem _⟩
  have ho3:=hw o (List.mem_of_getElem? ho)
  have q:0≤((i:Nat):Int)∧ops[((i:Nat):Int).toNat]?=some o:=⟨by omega,by rw [show ((i:Nat):Int).toNat=i by omega];exact ho⟩
  have eb1:=ZCe (n:=A.length) (r:=r) (v:=n) (ros:=ros) (G0:=G0) (w:=w) (ss:=ss) (G1:=G1++.arr 5 0 [ro.av]::G2) (.arr 3 0 [.agg [.int .i64 o.at_,.int .i64 o.num,.str o.text]])
  rw [List.append_assoc,lC] at eb1
  have hz:=Zga (n:=A.length) (r:=r) (v:=n) (ros:=ros) (G0:=G0) (w:=w) (ss:=ss) (G1:=G1++.arr 5 0 [ro.av]::G2)
  generalize hL1:ltL A.length r n ros G0 w ss (G1++.arr 5 0 [ro.av]::G2)=L1 at *
  repeat' (first|refine Yj rfl ?_|refine Jz (f:=Op.av) rfl rfl q (fun _=>rfl) ?_|refine QM rfl rfl ?_|refine ZE ?_|refine ZD ?_|refine ZG rfl ?_|refine ZB rfl ?_|refine ZC ?_|(refine Zl rfl rfl (fun _=>?_) (fun _=>?_)<;>try (exfalso;omega))|refine ZX rfl ?_|refine Zw rfl rfl rfl ?_|refine Js rfl rfl rfl rfl rfl rfl ?_|refine ZI ?_|refine ZL ?_)
  all_goals try contradiction
  all_goals try (exfalso;omega)
  change Is _ _ _ _ _ _ ⟨A,false,L1++[Blk.arr 3 0 [.agg [.int .i64 o.at_,.int .i64 o.num,.str o.text]]]⟩
  rw [eb1,hz]
  clear hz eb1 hL1
  have f17:∀ r':AR,(ltL A.length r' n ros G0 w ss (G1++.arr 5 0 [ro.av]::(G2++[.arr 3 0 [.agg [.int .i64 o.at_,.int .i64 o.num,.str o.text]]])))[8+G0.length+G1.length]?=some (.arr 5 0 [ro.av]):=fun r'=>ZdB _
  have f20:∀ r':AR,(ltL A.length r' n ros G0 w ss (G1++.arr 5 0 [ro.av]::(G2++[.arr 3 0 [.agg [.int .i64 o.at_,.int .i64 o.num,.str o.text]]])))[8+G0.length+(G1++Blk.arr 5 0 [ro.av]::G2).length]?=some (.arr 3 0 [.agg [.int .i64 o.at_,.int .i64 o.num,.str o.text]]):=fun r'=>by
   rw [show G1++Blk.arr 5 0 [ro.av]::(G2++[.arr 3 0 [.agg [.int .i64 o.at_,.int .i64 o.num,.str o.text]]])=(G1++.arr 5 0 [ro.av]::G2)++.arr 3 0 [.agg [.int .i64 o.at_,.int .i64 o.num,.str o.text]]::[] by simp];exact ZdB _
  generalize 8+G0.length+(G1++Blk.arr 5 0 [ro.av]::G2).length=z at *
  generalize hG3:G2++[.arr 3 0 [.agg [.int .i64 o.at_,.int .i64 o.num,.str o.text]]]=G3 at *
  have hNd:=ZhQ hI.good (b:=0) (ZP6 (A:=A) (r:=r) (v:=n) (ros:=ros) (G0:=G0) (w:=w) (ss:=ss) (G1:=G1++.arr 5 0 [ro.av]::G3)) hRt.rt
  have p1:=Qb (x:=o.at_) (n:=(s.length:Int)) (by omega)
  have hPa:=fun st=>up3 (ZdA o.at_ s.length (by omega) (by omega) st)
  generalize Q4 o.at_ s.length=a at *
  have p2:=Qb (x:=o.num) (n:=(s.length:Int)-a) (by omega)
  have hPm:=fun st=>up3 (ZdA o.num ((s.length:Int)-a) (by omega) (by omega) st)
  generalize Q4 o.num ((s.length:Int)-a)=m at *
  have hE:EdOk r.nodes ro s a m o.text:=⟨hRt,p1.1,p2.1,by omega,by omega,by omega⟩
  rcases Nat.lt_or_ge r.n (nw (edV r.nodes ro a m o.text)) with hfull|hroom
  ·have hRe:=up3 (ZZw (b:=0) (ZDN (A:=A) (r:=r) (v:=n) (ros:=ros) (G0:=G0) (w:=w) (ss:=ss) (G1:=G1++.arr 5 0 [ro.av]::G3)) hI.ok hI.good hE hfull)
   have k17:=f17 r
   have k20:=f20 r
   unfold chZ at hRe
   generalize ltL A.length r n ros G0 w ss (G1++.arr 5 0 [ro.av]::G3)=X at *
   repeat' (first|refine ZO rfl k17 rfl (ZAD _) ?_|refine ZO rfl k20 rfl rfl ?_|refine ZE ?_|refine ZD ?_|refine ZG rfl ?_|refine ZS rfl rfl ?_|refine Zr rfl rfl ?_|refine ZB rfl ?_|refine ZC ?_|refine JZ rfl ?_|(refine Zo rfl rfl (fun _=>?_) (fun _=>?_)<;>try (exfalso;omega))|(refine Zi rfl rfl (fun _=>?_) (fun _=>?_)<;>try (exfalso;omega))|refine ZX rfl ?_|refine ZH rfl ?_|refine Jw rfl rfl (by omega) ?_|refine Zw rfl rfl rfl ?_|refine Js rfl rfl rfl rfl rfl rfl ?_|refine ZA rfl rfl rfl (hNd) ?_|refine ZA rfl rfl rfl (hPa _) ?_|refine ZA rfl rfl rfl (hPm _) ?_|refine ZA rfl rfl rfl (hRe) ?_|refine ZA rfl rfl rfl (hWk _) ?_|refine ZI ?_|refine ZP ?_|refine ZJ ?_|refine Za ?_|refine Qd ?_|refine ZEF ?_)
   all_goals try contradiction
   all_goals try (exfalso;omega)
   all_goals refine Zj hA (by first|exact .inl rfl|exact .inr rfl) rfl rfl rfl rfl ?_
   all_goals rfl
  have hRe:=up3 (ZXR (b:=0) (ZDN (A:=A) (r:=r) (v:=n) (ros:=ros) (G0:=G0) (w:=w) (ss:=ss) (G1:=G1++.arr 5 0 [ro.av]::G3)) hI.ok hI.good hE hroom)
  rw [ZgV] at hRe
  obtain ⟨v1,v2,v3⟩:=hE.ok hI.good
  obtain ⟨w1,w2⟩:=ZXJ (ZDN (A:=A) (r:=r) (v:=n) (ros:=ros) (G0:=G0) (w:=w) (ss:=ss) (G1:=G1++.arr 5 0 [ro.av]::G3)) hI.ok hI.good v1 (by omega) hroom
  rw [v3] at w2
  have n1:=w1.n
  have n2:=w1.nl
  have hI2:MkInv (wrV (edV r.nodes ro a m o.text) r).1 ros ss n 3300:=⟨w1.ok,w1.good,hI.rts.ext hI.good w1.ext,hrs,hI.n20,hI.small,by have:=hI.nl;omega⟩
  have hRt2:=hRt.ext hI.good w1.ext
  have hne:=Zgb hI.good w1.ext hRt.rt
  have hnl:=ZFG hI.good hRt.rt
  have k17:=f17 r
  have k20:=f20 r
  have m17:=f17 (wrV (edV r.nodes ro a m o.text) r).1
  have m20:=f20 (wrV (edV r.nodes ro a m o.text) r).1
  generalize XC r.nodes [ro] (edV r.nodes ro a m o.text)=dd at *
  generalize edV r.nodes ro a m o.text=t at *
  generalize (wrV t r).2.1=ro2 at *
  generalize (wrV t r).2.2=fr at *
  generalize (wrV t r).1=r2 at *
  have ht2:(s.take a.toNat++o.text++s.drop (a+m).toNat).length≤s.length+300:=by
   simp only [lL,List.length_take,List.length_drop];omega
  have hc1:(s.take a.toNat).length+o.text.length<4611686018427387904:=by
   simp only [List.length_take];omega
  have hc2:(s.take a.toNat++o.text).length+(s.drop (a+m).toNat).length<4611686018427387904:=by
   simp only [lL,List.length_take,List.length_drop];omega
  generalize hs2:s.take a.toNat++o.text++s.drop (a+m).toNat=s2 at *
  have eb2:=ZCe (n:=A.length) (r:=r2) (v:=n) (ros:=ros) (G0:=G0) (w:=w) (ss:=ss) (G1:=G1++.arr 5 0 [ro.av]::G3) (.arr 7 0 [QV ro2 fr (slH dd)])
  have hz2:=Zga (n:=A.length) (r:=r2) (v:=n) (ros:=ros) (G0:=G0) (w:=w) (ss:=ss) (G1:=G1++.arr 5 0 [ro.av]::G3)
  have hT1:=ZHy hI2.good (b:=0) (ZP6 (A:=A) (r:=r2) (v:=n) (ros:=ros) (G0:=G0) (w:=w) (ss:=ss) (G1:=(G1++.arr 5 0 [ro.av]::G3)++[.arr 7 0 [QV ro2 fr (slH dd)]])) w2.rt (by rw [w2.leaves hI2.good];omega)
  have hT2:=ZHy hI2.good (b:=0) (ZP6 (A:=A) (r:=r2) (v:=n) (ros:=ros) (G0:=G0) (w:=w) (ss:=ss) (G1:=(G1++.arr 5 0 [ro.av]::G3)++[.arr 7 0 [QV ro2 fr (slH dd)]])) hRt2.rt (by rw [hRt2.leaves hI2.good];omega)
  have hNd2:=ZhQ hI2.good (b:=0) (ZP6 (A:=A) (r:=r2) (v:=n) (ros:=ros) (G0:=G0) (w:=w) (ss:=ss) (G1:=(G1++.arr 5 0 [ro.av]::G3)++[.arr 7 0 [QV ro2 fr (slH dd)]])) hRt2.rt
  rw [w2.leaves hI2.good,← eb2] at hT1
  rw [hRt2.leaves hI2.good,← eb2] at hT2
  rw [hne,← eb2] at hNd2
  have hEq:=fun st=>up3 (ZXS (ZBD (Q5 r.nodes ro)) (by have:=(ZXN (Q5 r.nodes ro)).2.2;omega) st)
  generalize ZBD (Q5 r.nodes ro)=hs at *
  generalize hX:ltL A.length r n ros G0 w ss (G1++.arr 5 0 [ro.av]::G3)=X at *
  generalize hX2:ltL A.length r2 n ros G0 w ss (G1++.arr 5 0 [ro.av]::G3)=X2 at *
  repeat' (first|refine ZO rfl k17 rfl (ZAD _) ?_|refine ZO rfl k20 rfl rfl ?_|refine ZO rfl (Qc m17) rfl (ZAD _) ?_|refine ZO rfl (Qc m20) rfl rfl ?_|refine ZhX rfl rfl ?_|refine ZdD rfl rfl hc1 rfl ?_|refine ZdD rfl rfl hc2 hs2 ?_|refine ZEG rfl rfl (by omega) ?_|refine ZEH rfl rfl (by omega) ?_|refine ZE ?_|refine ZD ?_|refine ZG rfl ?_|refine ZS rfl rfl ?_|refine QE rfl ?_|refine Zn rfl rfl rfl rfl ?_|refine Zr rfl rfl ?_|refine ZB rfl ?_|refine ZC ?_|refine JZ rfl ?_|refine Qe rfl rfl rfl ?_|(refine Zo rfl rfl (fun _=>?_) (fun _=>?_)<;>try (exfalso;omega))|(refine Zi rfl rfl (fun _=>?_) (fun _=>?_)<;>try (exfalso;omega))|(refine ZTB rfl rfl (fun _=>?_) (fun _=>?_)<;>try contradiction)|refine ZH rfl ?_|refine JA rfl rfl ?_|refine Zm rfl rfl (by omega) ?_|refine Jw rfl rfl (by omega) ?_|refine Zw rfl rfl rfl ?_|refine ZA rfl rfl rfl (hNd) ?_|refine ZA rfl rfl rfl (hPa _) ?_|refine ZA rfl rfl rfl (hPm _) ?_|refine ZA rfl rfl rfl (hRe) ?_|refine ZA rfl rfl rfl (hT1) ?_|refine ZA rfl rfl rfl (hT2) ?_|refine ZA rfl rfl rfl (hNd2) ?_|refine ZA rfl rfl rfl (hEq _) ?_|refine ZI ?_)
  all_goals try contradiction
  all_goals try (exfalso;omega)
  all_goals try exact absurd rfl ‹_›
  obtain ⟨rj,hrj⟩:∃ x,ros[j.toNat]?=some x:=⟨_,List.getElem?_eq_getElem (by omega)⟩
  obtain ⟨sj,hsj⟩:∃ x,ss[j.toNat]?=some x:=⟨_,List.getElem?_eq_getElem (by omega)⟩
  have hRj:=hI2.rts.2 j.toNat rj sj hrj hsj
  have hsm:=hI2.small sj (List.mem_of_getElem? hsj)
  refine ZhA ?_
  change Is _ _ _ _ _ _ ⟨A,false,X2++[.arr 7 0 [QV ro2 fr (slH dd)]]++[.hole 11]⟩
  rw [eb2,hz2]
  have f6:∀ (r':AR) (T:List Blk),(ltL A.length r' n ros G0 w ss T)[6]?=some (.arr 5 n (ros.map Ro.av)):=fun r' T=>ZkX
  have f7:∀ (r':AR) (T:List Blk),(ltL A.length r' n ros G0 w ss T)[7+G0.length]?=some (.arr 1 w (ss.map .str)):=fun r' T=>ZmY
  have g6:(ros.map Ro.av)[0+j.toNat]?=some rj.av:=by rw [Nat.zero_add,List.getElem?_map,hrj];rfl
  have g7:(ss.map AV.str)[0+j.toNat]?=some (.str sj):=by rw [Nat.zero_add,List.getElem?_map,hsj];rfl
  have f25:∀ (r':AR),(ltL A.length r' n ros G0 w ss (G1++.arr 5 0 [ro.av]::G3++[.arr 7 0 [QV ro2 fr (slH dd)]]))[8+G0.length+(G1++Blk.arr 5 0 [ro.av]::G3).length]?=some (.arr 7 0 [QV ro2 fr (slH dd)]):=fun r'=>ZdB _
  have h17:∀ (r':AR),(ltL A.length r' n ros G0 w ss (G1++.arr 5 0 [ro.av]::G3++[.arr 7 0 [QV ro2 fr (slH dd)]]))[8+G0.length+G1.length]?=some (.arr 5 0 [ro.av]):=fun r'=>by
   rw [List.append_assoc,lC];exact ZdB _
  generalize 8+G0.length+(G1++Blk.arr 5 0 [ro.av]::G3).length=z2 at *
  rcases Nat.lt_or_ge r2.n (nw (apV r2.nodes ro2 rj)) with hfull|hroom2
  ·have hIn:=ZhV (up3 (Zc9 (b:=0) ((ZDN (A:=A) (r:=r2) (v:=n) (ros:=ros) (G0:=G0) (w:=w) (ss:=ss) (G1:=G1++.arr 5 0 [ro.av]::G3++[.arr 7 0 [QV ro2 fr (slH dd)]]++[.hole 11])).push (ro:=false) (L:=[]) rfl) hI2.ok hI2.good w2 hRj (by omega) hfull)) (Zks _ _ _)
   rw [← ZCe] at hIn
   have q6:=f6 r2 (G1++.arr 5 0 [ro.av]::G3++[.arr 7 0 [QV ro2 fr (slH dd)]])
   have q25:=f25 r2
   have q17:=h17 r2
   unfold chZ at hIn
   generalize hX4:ltL A.length r2 n ros G0 w ss (G1++.arr 5 0 [ro.av]::G3++[.arr 7 0 [QV ro2 fr (slH dd)]])=X4 at *
   repeat' (first|refine ZO rfl (Qc q25) rfl (ZdC _ _ _) ?_|refine ZAc rfl rfl hj (Qc q6) ?_|refine ZO rfl (Qc q6) g6 (ZAD _) ?_|refine Zd4 rfl rfl rfl hIn ?_|refine ZXT rfl rfl ?_|refine ZbP rfl rfl (Qc q17) rfl rfl rfl (YF _) ?_|refine ZE ?_|refine ZD ?_|refine ZG rfl ?_|refine ZS rfl rfl ?_|refine Zr rfl rfl ?_|refine ZB rfl ?_|refine ZC ?_|(refine Zi rfl rfl (fun _=>?_) (fun _=>?_)<;>try (exfalso;omega))|refine ZH rfl ?_|refine Zm rfl rfl (by omega) ?_|refine Js rfl rfl rfl rfl rfl rfl ?_|refine ZI ?_|refine Z2 ?_|refine QC ?_)
   all_goals try contradiction
   all_goals try (exfalso;omega)
   refine ⟨(i+1,r2,ro2,s2,G3++[.arr 7 0 [QV ro2 fr (slH dd)],.arr 7 0 [chZ]]),⟨rfl,?_⟩,⟨by simp only;omega,hI2,w2,by simp only;omega⟩,by simp only;omega⟩
   show (⟨A,false,(X4++[Blk.arr 7 0 [chZ]]).set (8+G0.length+G1.length) (Blk.arr 5 0 [ro2.av])⟩:St)=_
   rw [← hX4,ZCe,show G1++Blk.arr 5 0 [ro.av]::G3++[Blk.arr 7 0 [QV ro2 fr (slH dd)]]++[Blk.arr 7 0 [chZ]]=G1++Blk.arr 5 0 [ro.av]::(G3++[Blk.arr 7 0 [QV ro2 fr (slH dd)],Blk.arr 7 0 [chZ]]) by simp,ZhW]
  obtain ⟨u1,u2,u3⟩:=ZgY hI2.good w2 hRj (by omega)
  obtain ⟨y1,y2⟩:=ZXJ (ZDN (A:=A) (r:=r2) (v:=n) (ros:=ros) (G0:=G0) (w:=w) (ss:=ss) (G1:=G1++.arr 5 0 [ro.av]::G3++[.arr 7 0 [QV ro2 fr (slH dd)]]++[.hole 11])) hI2.ok hI2.good u1 (by omega) hroom2
  rw [u3] at y2
  have hIn:=up3 (Zid (b:=0) ((ZDN (A:=A) (r:=r2) (v:=n) (ros:=ros) (G0:=G0) (w:=w) (ss:=ss) (G1:=G1++.arr 5 0 [ro.av]::G3++[.arr 7 0 [QV ro2 fr (slH dd)]]++[.hole 11])).push (ro:=false) (L:=[]) rfl) hI2.ok hI2.good w2 hRj (by omega) hroom2)
  have ep:∀ r':AR,QU ⟨(⟨A,false,ltL A.length r2 n ros G0 w ss (G1++Blk.arr 5 0 [ro.av]::G3++[Blk.arr 7 0 [QV ro2 fr (slH dd)]]++[Blk.hole 11])⟩:St).ps,false,[]⟩ A.length 0 r'=⟨(⟨A,false,ltL A.length r' n ros G0 w ss (G1++Blk.arr 5 0 [ro.av]::G3++[Blk.arr 7 0 [QV ro2 fr (slH dd)]]++[Blk.hole 11])⟩:St).ps,false,[]⟩:=fun r'=>by
   have:=Y7 (st:=⟨A,false,ltL A.length r2 n ros G0 w ss (G1++Blk.arr 5 0 [ro.av]::G3++[Blk.arr 7 0 [QV ro2 fr (slH dd)]]++[Blk.hole 11])⟩) (ro:=false) (L:=[]) (lv:=A.length) (b:=0) (r':=r') rfl (Nat.le_refl _)
   rw [ZgV] at this
   exact this
  rw [ep] at hIn
  replace hIn:=ZhV (A:=A) (L:=ltL A.length r2 n ros G0 w ss (G1++.arr 5 0 [ro.av]::G3++[.arr 7 0 [QV ro2 fr (slH dd)]]++[.hole 11])) (L':=ltL A.length (wrV (apV r2.nodes ro2 rj) r2).1 n ros G0 w ss (G1++.arr 5 0 [ro.av]::G3++[.arr 7 0 [QV ro2 fr (slH dd)]]++[.hole 11])) hIn (Zkr _ _ _ _ _ _)
  rw [← ZCe (r:=r2) (G1:=G1++Blk.arr 5 0 [ro.av]::G3++[Blk.arr 7 0 [QV ro2 fr (slH dd)]]) (Blk.hole 11),← ZCe (r:=(wrV (apV r2.nodes ro2 rj) r2).1) (G1:=G1++Blk.arr 5 0 [ro.av]::G3++[Blk.arr 7 0 [QV ro2 fr (slH dd)]]) (Blk.hole 11)] at hIn
  have n3:=y1.n
  have n4:=y1.nl
  have hI3:MkInv (wrV (apV r2.nodes ro2 rj) r2).1 ros ss n 3300:=⟨y1.ok,y1.good,hI2.rts.ext hI2.good y1.ext,hrs,hI.n20,hI.small,by have:=hI2.nl;omega⟩
  have hRt3:=w2.ext hI2.good y1.ext
  have q6:=f6 r2 (G1++.arr 5 0 [ro.av]::G3++[.arr 7 0 [QV ro2 fr (slH dd)]])
  have q25:=f25 r2
  have s25:=f25 (wrV (apV r2.nodes ro2 rj) r2).1
  have s17:=h17 (wrV (apV r2.nodes ro2 rj) r2).1
  have s7:=f7 (wrV (apV r2.nodes ro2 rj) r2).1 (G1++.arr 5 0 [ro.av]::G3++[.arr 7 0 [QV ro2 fr (slH dd)]])
  have hc3:s2.length+sj.length<4611686018427387904:=by omega
  have hT3:=ZHy hI3.good (b:=0) (ZP6 (A:=A) (r:=(wrV (apV r2.nodes ro2 rj) r2).1) (v:=n) (ros:=ros) (G0:=G0) (w:=w) (ss:=ss) (G1:=(G1++.arr 5 0 [ro.av]::G3)++[.arr 7 0 [QV ro2 fr (slH dd)]]++[.arr 7 0 [QV (wrV (apV r2.nodes ro2 rj) r2).2.1 (wrV (apV r2.nodes ro2 rj) r2).2.2 (slH (XC r2.nodes [ro2,rj] (apV r2.nodes ro2 rj)))]])) y2.rt (by rw [y2.leaves hI3.good,lL];omega)
  rw [y2.leaves hI3.good,← ZCe] at hT3
  clear y1 y2 u1 u2 u3
  generalize XC r2.nodes [ro2,rj] (apV r2.nodes ro2 rj)=dd3 at *
  generalize (wrV (apV r2.nodes ro2 rj) r2).2.1=ro3 at *
  generalize (wrV (apV r2.nodes ro2 rj) r2).2.2=fr3 at *
  generalize (wrV (apV r2.nodes ro2 rj) r2).1=r3 at *
  generalize hX4:ltL A.length r2 n ros G0 w ss (G1++.arr 5 0 [ro.av]::G3++[.arr 7 0 [QV ro2 fr (slH dd)]])=X4 at *
  generalize hX5:ltL A.length r3 n ros G0 w ss (G1++.arr 5 0 [ro.av]::G3++[.arr 7 0 [QV ro2 fr (slH dd)]])=X5 at *
  repeat' (first|refine ZO rfl (Qc q25) rfl (ZdC _ _ _) ?_|refine ZO rfl (Qc s25) rfl (ZdC _ _ _) ?_|refine ZAc rfl rfl hj (Qc q6) ?_|refine ZO rfl (Qc q6) g6 (ZAD _) ?_|refine Zd4 rfl rfl rfl hIn ?_|refine ZXT rfl rfl ?_|refine ZhX rfl rfl ?_|refine ZAc rfl rfl hj (Qc s7) ?_|refine ZO rfl (Qc s7) g7 rfl ?_|refine ZdD rfl rfl hc3 rfl ?_|refine ZbP rfl rfl (Qc s17) rfl rfl rfl (YF _) ?_|refine ZE ?_|refine ZD ?_|refine ZG rfl ?_|refine ZS rfl rfl ?_|refine QE rfl ?_|refine Zn rfl rfl rfl rfl ?_|refine Zr rfl rfl ?_|refine ZB rfl ?_|refine ZC ?_|refine Qe rfl rfl rfl ?_|(refine Zi rfl rfl (fun _=>?_) (fun _=>?_)<;>try (exfalso;omega))|(refine ZTB rfl rfl (fun _=>?_) (fun _=>?_)<;>try contradiction)|refine ZX rfl ?_|refine ZH rfl ?_|refine Zm rfl rfl (by omega) ?_|refine ZA rfl rfl rfl (hT3) ?_|refine ZI ?_|refine Z2 ?_|refine QC ?_)
  all_goals try contradiction
  all_goals try (exfalso;omega)
  all_goals try exact absurd rfl ‹_›
  refine ⟨(i+1,r3,ro2,s2,G3++[.arr 7 0 [QV ro2 fr (slH dd)],.arr 7 0 [QV ro3 fr3 (slH dd3)]]),⟨rfl,?_⟩,⟨by simp only;omega,hI3,hRt3,by simp only;omega⟩,by simp only;omega⟩
  show (⟨A,false,(X5++[Blk.arr 7 0 [QV ro3 fr3 (slH dd3)]]).set (8+G0.length+G1.length) (Blk.arr 5 0 [ro2.av])⟩:St)=_
  rw [← hX5,ZCe,show G1++Blk.arr 5 0 [ro.av]::G3++[Blk.arr 7 0 [QV ro2 fr (slH dd)]]++[Blk.arr 7 0 [QV ro3 fr3 (slH dd3)]]=G1++Blk.arr 5 0 [ro.av]::(G3++[Blk.arr 7 0 [QV ro2 fr (slH dd)],Blk.arr 7 0 [QV ro3 fr3 (slH dd3)]]) by simp,ZhW]
 ·obtain rfl:i=ops.length:=by omega
  repeat' (first|refine Yj rfl ?_|refine ZE ?_|refine ZD ?_|refine ZG rfl ?_|refine ZB rfl ?_|refine ZC ?_|(refine Zl rfl rfl (fun _=>?_) (fun _=>?_)<;>try (exfalso;omega))|refine ZH rfl ?_|refine Zu ?_|refine ZL ?_|refine Zf ?_|refine Zc rfl ?_|refine Zt ?_)
  all_goals try (exfalso;omega)
  exact Zkt hA hI
end Go.Q15
namespace Go.Q15
open Go Go.QAbs
set_option maxRecDepth 100000
set_option maxHeartbeats 32000000
theorem ZfD (texts:List (List UInt8)) (ys:List Ed) (ops:List Op) (which other:Int) (hb:texts.length<9223372036854775808) (hbs:∀ s∈texts,s.length<9223372036854775808) (hy:ys.length<9223372036854775808) (hys:∀ y∈ys,y.text.length<9223372036854775808)
 (ho:ops.length<9223372036854775808) (hos:∀ y∈ops,y.text.length<9223372036854775808) (st:St) :
 S T3 JN [.lit (texts.map .str),.lit (ys.map Ed.av),.lit (ops.map Op.av),.int .i64 which,.int .i64 other] st=some (.bool true,st):=by
 refine QI (le3 JN (.pf YB) rfl) (fun A hA=>?_)
 have hBy:=fun st=>up3 (Zkq texts ys hb hbs hy hys st)
 have hWd:=fun st=>up3 (Zne ops ho hos st)
 have hWk:=fun st=>ZPZ st
 by_cases hl:ZC6 texts ys
 ·simp only [decide_eq_true hl] at hBy
  repeat' (first|refine ZE ?_|refine ZD ?_|refine ZG rfl ?_|refine Jb rfl rfl ?_|refine Zn rfl rfl rfl rfl ?_|refine ZB rfl ?_|refine ZC ?_|refine ZX rfl ?_|refine ZA rfl rfl rfl (hBy _) ?_|refine ZA rfl rfl rfl (hWk _) ?_|refine ZP ?_|refine ZJ ?_|refine Za ?_)
  all_goals try contradiction
  all_goals refine Zj hA (by first|exact .inl rfl|exact .inr rfl) rfl rfl rfl rfl ?_
  all_goals rfl
 simp only [decide_eq_false hl] at hBy
 by_cases h6:6<ops.length
 ·repeat' (first|refine Yj rfl ?_|refine ZE ?_|refine ZD ?_|refine ZG rfl ?_|refine QE rfl ?_|refine Jb rfl rfl ?_|refine Zn rfl rfl rfl rfl ?_|refine ZB rfl ?_|refine ZC ?_|(refine QW rfl rfl (fun _=>?_) (fun _=>?_)<;>try (exfalso;omega))|refine ZX rfl ?_|refine ZA rfl rfl rfl (hBy _) ?_|refine ZA rfl rfl rfl (hWk _) ?_|refine ZP ?_|refine ZJ ?_|refine Za ?_)
  all_goals try contradiction
  all_goals try (exfalso;omega)
  all_goals refine Zj hA (by first|exact .inl rfl|exact .inr rfl) rfl rfl rfl rfl ?_
  all_goals rfl
 by_cases hw:Zkm ops
 ·simp only [decide_eq_true hw] at hWd
  repeat' (first|refine Yj rfl ?_|refine ZE ?_|refine ZD ?_|refine ZG rfl ?_|refine QE rfl ?_|refine Zn rfl rfl rfl rfl ?_|refine ZB rfl ?_|refine ZC ?_|(refine QW rfl rfl (fun _=>?_) (fun _=>?_)<;>try (exfalso;omega))|refine ZX rfl ?_|refine ZA rfl rfl rfl (hBy _) ?_|refine ZA rfl rfl rfl (hWd _) ?_|refine ZA rfl rfl rfl (hWk _) ?_|refine ZP ?_|refine ZJ ?_|refine Za ?_)
  all_goals try contradiction
  all_goals try (exfalso;omega)
  all_goals refine Zj hA (by first|exact .inl rfl|exact .inr rfl) rfl rfl rfl rfl ?_
  all_goals rfl
 simp only [decide_eq_false hw] at hWd
 obtain ⟨h9,h12,hy2⟩:=Zif hl
 obtain ⟨v,st',hMk,r,c,ros,ss,G0,G1,n,rfl,rfl,hI⟩:=ZnY texts ys h9 h12 hy2 A
 replace hMk:=up3 hMk
 have hn20:=hI.n20
 have hrs:=hI.len
 have hsl:=hI.rts.1
 rcases Nat.eq_zero_or_pos n with hn0|hpos
 ·subst hn0
  repeat' (first|refine Yj rfl ?_|refine ZE ?_|refine ZD ?_|refine ZG rfl ?_|refine QE rfl ?_|refine Zn rfl rfl rfl rfl ?_|refine Zr rfl rfl ?_|refine ZB rfl ?_|refine ZC ?_|refine JI rfl ?_|(refine QW rfl rfl (fun _=>?_) (fun _=>?_)<;>try (exfalso;omega))|(refine Zo rfl rfl (fun _=>?_) (fun _=>?_)<;>try (exfalso;omega))|refine ZX rfl ?_|refine ZH rfl ?_|refine JA rfl rfl ?_|refine ZA rfl rfl rfl (hBy _) ?_|refine ZA rfl rfl rfl (hWd _) ?_|refine ZA rfl rfl rfl (hWk _) ?_|refine ZA rfl rfl rfl (hMk) ?_|refine ZI ?_|refine ZP ?_|refine ZJ ?_|refine Za ?_)
  all_goals try contradiction
  all_goals try (exfalso;omega)
  all_goals refine Zj hA (by first|exact .inl rfl|exact .inr rfl) rfl rfl rfl rfl ?_
  all_goals rfl
 have hpb:=Qb (x:=which) (n:=(n:Int)-1) (by omega)
 have hPk:=fun st=>up3 (ZdA which ((n:Int)-1) (by omega) (by omega) st)
 generalize Q4 which ((n:Int)-1)=z at *
 have hqb:=Qb (x:=other) (n:=(n:Int)-1) (by omega)
 have hPo:=fun st=>up3 (ZdA other ((n:Int)-1) (by omega) (by omega) st)
 generalize Q4 other ((n:Int)-1)=j at *
 obtain ⟨ro,hro⟩:∃ x,ros[z.toNat]?=some x:=⟨_,List.getElem?_eq_getElem (by omega)⟩
 obtain ⟨s,hs⟩:∃ x,ss[z.toNat]?=some x:=⟨_,List.getElem?_eq_getElem (by omega)⟩
 have hRt:=hI.rts.2 z.toNat ro s hro hs
 have hsm:=hI.small s (List.mem_of_getElem? hs)
 have f6:(ltL A.length r n ros G0 c ss G1)[6]?=_:=ZkX
 have f7:(ltL A.length r n ros G0 c ss G1)[7+G0.length]?=_:=ZmY
 have g6:(ros.map Ro.av)[0+z.toNat]?=some ro.av:=by rw [Nat.zero_add,List.getElem?_map,hro];rfl
 have g7:(ss.map AV.str)[0+z.toNat]?=some (.str s):=by rw [Nat.zero_add,List.getElem?_map,hs];rfl
 have hlp:=Zkv hA (w:=c) (ros:=ros) (ss:=ss) (n:=n) (G0:=G0) (G1:=G1) (ops:=ops) (j:=j) (by omega) (fun o ho'=>by
  rcases Nat.lt_or_ge 300 o.text.length with q|q
  ·exact absurd ⟨o,ho',q⟩ hw
  ·exact q) hI hRt hsm (by omega)
 have hz:=Zga (n:=A.length) (r:=r) (v:=n) (ros:=ros) (G0:=G0) (w:=c) (ss:=ss) (G1:=G1)
 have hne:¬ (A.length=A.length∧(ltL A.length r n ros G0 c ss G1).length=7+G0.length):=by rw [hz];omega
 rw [← ZCe (r:=r) (G1:=G1) (Blk.arr 5 0 [ro.av]),← hz] at hlp
 generalize ltL A.length r n ros G0 c ss G1=X at *
 unfold Ro.av at hlp
 repeat' (first|exact hlp|refine Yj rfl ?_|refine ZAc rfl rfl (by omega) f6 ?_|refine ZO rfl f6 g6 (ZAD _) ?_|refine Zig rfl rfl rfl (by omega) f7 ?_|refine ZgZ rfl rfl f7 g7 rfl ?_|refine Zng rfl rfl rfl hne rfl ?_|refine ZE ?_|refine ZD ?_|refine ZG rfl ?_|refine QE rfl ?_|refine Zn rfl rfl rfl rfl ?_|refine Zr rfl rfl ?_|refine ZB rfl ?_|refine ZC ?_|refine JI rfl ?_|(refine QW rfl rfl (fun _=>?_) (fun _=>?_)<;>try (exfalso;omega))|(refine Zo rfl rfl (fun _=>?_) (fun _=>?_)<;>try (exfalso;omega))|refine ZH rfl ?_|refine JA rfl rfl ?_|refine Jw rfl rfl (by omega) ?_|refine Zw rfl rfl rfl ?_|refine Js rfl rfl rfl rfl rfl rfl ?_|refine ZA rfl rfl rfl (hBy _) ?_|refine ZA rfl rfl rfl (hWd _) ?_|refine ZA rfl rfl rfl (hMk) ?_|refine ZA rfl rfl rfl (hPk _) ?_|refine ZA rfl rfl rfl (hPo _) ?_|refine ZI ?_|refine ZL ?_)
 all_goals try contradiction
 all_goals try (exfalso;omega)
end Go.Q15
namespace Go.QAbs
open Go.ChangeShapes Go.WideShapes Go.RowKit Go.Deep
variable {P:Program}
section
variable {H:Type} {enc:TypeId × Value→H}
theorem open_spans_arg {W:World} {base:Nat} {t e t0 t1 t2:TypeId} {f0 f1 f2:Field} {v:Value} {d:DataW H} {ps:List MemPlace} (ht:P.underlying t=some (.slice e)) (he:P.underlying e=some (.struct #[f0,f1,f2])) (hc:P.cellsOf e=3)
 (hf0:f0.type=t0∧f0.offset=0∧P.underlying t0=some (.int .i64)∧P.cellsOf t0=1) (hf1:f1.type=t1∧f1.offset=1∧P.underlying t1=some (.int .i64)∧P.cellsOf t1=1) (hf2:f2.type=t2∧f2.offset=2∧P.underlying t2=some .string∧P.cellsOf t2=1)
 (hval:Value.okWide P W .any base t v) (h:DataW.Trod enc P W 0 (fun _=>true) true t v d ps) :
 ∃ l:List (Int × Int × List UInt8),(∀ s∈l,s.2.2.length≤maxLen)∧l.length≤maxLen∧R (cx .empty rho0 W 0) (.lit (l.map fun q=>.agg [.int .i64 q.1,.int .i64 q.2.1,.str q.2.2])) v:=by
 obtain ⟨a0,len,cap,rfl⟩:=okWide_slice ht hval
 obtain ⟨fuel,hf⟩:=h
 rcases open_slice ht hf with ⟨hcs,hx⟩|⟨a,len',cap',m,n,D,Pl,hcs,_,hl,hm,hmm,hx,hall⟩
 ·refine ⟨[],by simp,by simp,?_⟩
  have:(Value.slice a0 len cap)=.slice none 0 0:=by simpa [Value.cells] using hcs
  rw [this];exact .lit0 _ _
 ·have hv:(Value.slice a0 len cap)=.slice (some a) len' cap':=by simpa [Value.cells] using hcs
  rw [hv]
  simp only [if_true] at hmm
  subst hmm
  rw [hc] at hall
  have each:∀ i,i<len'→∃ q:Int × Int × List UInt8,q.2.2.length≤maxLen∧W.cell? (a.add (i*3))=some (.int .i64 q.1)∧W.cell? (a.add (i*3+1))=some (.int .i64 q.2.1)∧W.cell? (a.add (i*3+2))=some (.string ⟨q.2.2.toArray⟩):=by
   intro i hi
   obtain ⟨cs',h1,h2⟩:=hall i (by omega)
   obtain ⟨_,hlen,hcell⟩:=World.cells?_some h1
   obtain ⟨xs,k,_,_,_,hxl,hfs⟩:=DataW.trod_struct he h2
   have g0:=hfs 0 f0 rfl
   have g1:=hfs 1 f1 rfl
   have g2:=hfs 2 f2 rfl
   match cs',hlen,xs,hxl with
   | [c0,c1,c2],_,[y0,y1,y2],_ =>
    simp only [hf0.1,hf0.2.1,hf0.2.2.2,hf1.1,hf1.2.1,hf1.2.2.2,hf2.1,hf2.2.1,hf2.2.2.2,List.drop,List.take,List.getElem?_cons_zero,List.getElem?_cons_succ] at g0 g1 g2
    obtain ⟨n0,e0,_,_⟩:=DataW.trod_int hf0.2.2.1 g0
    obtain ⟨n1,e1,_,_⟩:=DataW.trod_int hf1.2.2.1 g1
    obtain ⟨s,e2,_,hs⟩:=DataW.trod_string hf2.2.2.1 g2
    simp only [List.cons.injEq,and_true] at e0 e1 e2
    subst e0;subst e1;subst e2
    refine ⟨(n0,n1,s.data.toList),by simp only [Array.length_toList];exact hs,?_,?_,?_⟩
    ·have:=hcell 0 (by omega)
     simpa only [add_add,Nat.add_zero,List.getElem?_cons_zero] using this
    ·have:=hcell 1 (by omega)
     simpa only [add_add,List.getElem?_cons_succ,List.getElem?_cons_zero] using this
    ·have:=hcell 2 (by omega)
     simp only [add_add,List.getElem?_cons_succ,List.getElem?_cons_zero] at this
     rw [this,Zfn s]
  obtain ⟨q,hq⟩:=choose_lt each
  refine ⟨(List.range len').map q,?_,by simp;omega,?_⟩
  ·intro s hs
   obtain ⟨i,hi,rfl⟩:=List.mem_map.1 hs
   exact (hq i (List.mem_range.1 hi)).1
  ·cases len' with
   | zero=>exact .lit0 _ _
   | succ len' =>
    obtain ⟨b,off,spot⟩:=a
    have hspot:spot=none:=by simpa [Addr.add] using World.cell?_spot (hq 0 (by omega)).2.1
    subst hspot
    refine Zc7 (w:=3) _ (fun i=>.agg #[.int .i64 (q i).1,.int .i64 (q i).2.1,.string ⟨(q i).2.2.toArray⟩]) (by simp) hl (fun i e he=>?_) (fun i hi=>⟨by simp [Value.cells],fun j v hv=>?_⟩)
    ·rw [List.getElem?_map,List.getElem?_map] at he
     by_cases hi:i<len'+1
     ·rw [List.getElem?_range hi] at he
      simp only [Option.map_some,oJ] at he
      subst he
      have hr:=RL.cons (C:=(cx .empty rho0 W 0).pure) (.int .i64 (q i).1) (.cons (.int .i64 (q i).2.1) (.cons (.str (q i).2.2) (.nil _)))
      exact .agg (xs:=[_,_,_]) hr.1 hr.2
     ·have:(List.range (len'+1))[i]?=none:=by simp;omega
      rw [this] at he;simp at he
    ·obtain ⟨_,k0,k1,k2⟩:=hq i hi
     have hj:j<3:=by
      have:=(Array.getElem?_eq_some_iff.1 hv).1
      simpa [Value.cells] using this
     simp only [Addr.add_lit] at k0 k1 k2
     match j,hj with
     | 0,_ =>
      have:v=.int .i64 (q i).1:=by simpa [Value.cells] using hv.symm
      subst this;simpa using k0
     | 1,_ =>
      have:v=.int .i64 (q i).2.1:=by simpa [Value.cells] using hv.symm
      subst this;simpa [Nat.add_assoc] using k1
     | 2,_ =>
      have:v=.string ⟨(q i).2.2.toArray⟩:=by simpa [Value.cells] using hv.symm
      subst this;simpa [Nat.add_assoc] using k2
end
end Go.QAbs
namespace Go.Q15
open Go Go.QAbs
theorem editTexts_run (ss:List (List UInt8)) (l:List (Nat × Int × Int × Int × List UInt8)) (o:List (Int × Int × List UInt8)) (which other:Int) (h1:∀ s∈ss,s.length≤maxLen) (h2:ss.length≤maxLen) (h3:∀ s∈l,s.2.2.2.2.length≤maxLen) (h4:l.length≤maxLen) (h5:∀ s∈o,s.2.2.length≤maxLen) (h6:o.length≤maxLen)
 (_h7:(Lit.int .i64 which).wf=true) (_h8:(Lit.int .i64 other).wf=true) :
 ∃ st',S T3 JN [.lit (ss.map .str),.lit (l.map fun q=>.agg [.int .u8 q.1,.int .i64 q.2.1,.int .i64 q.2.2.1,.int .i64 q.2.2.2.1,.str q.2.2.2.2]),.lit (o.map fun q=>.agg [.int .i64 q.1,.int .i64 q.2.1,.str q.2.2]),.int .i64 which,.int .i64 other] .empty=some (.bool true,st'):=by
 have hm:maxLen<9223372036854775808:=by decide +kernel
 have:=ZfD ss (l.map mkEd) (o.map fun q=>(⟨q.1,q.2.1,q.2.2⟩:Op)) which other (by omega) (fun s hs=>by have:=h1 s hs;omega) (by rw [List.length_map];omega) (fun s hs=>by obtain ⟨q,hq,rfl⟩:=List.mem_map.1 hs;have:=h3 q hq;simp only [mkEd];omega)
  (by rw [List.length_map];omega) (fun s hs=>by obtain ⟨q,hq,rfl⟩:=List.mem_map.1 hs;have:=h5 q hq;simp only;omega) .empty
 rw [List.map_map,List.map_map] at this
 exact ⟨_,this⟩
end Go.Q15
