/- A part of the proof: PEp, FY, TZe. No condition. -/
import Derived.SliceStrings
import Derived.Deep.Slices
import Derived.Carry
import Derived.Test.YtbogmijilfefnaaPeT9
set_option linter.unusedVariables false
set_option linter.unusedSimpArgs false
namespace Go.Q15
open Go Go.QAbs
set_option maxRecDepth 100000
set_option maxHeartbeats 16000000
theorem Zon {A:List (Bool × List Blk)} {L:List Blk} {text:List UInt8} (h9:text.length<=900) {a n:Int} (a0:0<=a) (n0:0<=n) (a1:a+n<=text.length) {B0 B1 i14 i15 dx cx:Nat} (hH:PeH A L B0 B1 i14 i15 dx cx (peR text) (Ym text)) {v3:AV} {k:List Fr} {Q:Jv}
 (hQ:∀ L' tl,Rk (S TV) k Q .norm ((0,.str text)::(1,.int .i64 a)::(2,.int .i64 n)::(3,v3)::(9,.int .i64 1)::tl) ⟨A,false,L'⟩) :
 Ru (S TV) peM (.blk 1::k) Q [(0,.str text),(1,.int .i64 a),(2,.int .i64 n),(3,v3),(9,.int .i64 1),(10,.ptr A.length (B0+5) 0 0 0),(12,.ptr A.length (B1+5) 0 0 0),(14,.ptr A.length i14 0 0 0),(15,.ptr A.length i15 0 0 0),(16,.ref A.length dx 0 0 0),(17,.ptr A.length cx 0 0 0)] ⟨A,false,L⟩:=by
 obtain ⟨o1,o2,o3,o4,o5⟩:=hH.ord;have otop:=hH.top;unfold peM;refine ZE ?_
 refine Znq a0 hH.bd (fun tl ver'=>?_)
 obtain ⟨X,hX⟩:∃ X,X=L.set dx (.arr 3 ver' ((QG a).map Pce.av)):=⟨_,rfl⟩
 have lX:X.length=L.length:=by rw [hX,List.length_set]
 have xd:X[dx]?=some (.arr 3 ver' ((QG a).map Pce.av)):=by rw [hX];exact List.getElem?_set_self (by omega)
 have xo:∀ i,i≠dx->X[i]?=L[i]?:=fun i h=>by rw [hX,jS (fun q=>h q.symm)]
 rw [<- hX]
 by_cases hs0:n=0
 ·subst hs0
  repeat' (first|refine ZE ?_|refine ZD ?_|refine ZF rfl ?_|refine ZA rfl ?_|refine ZC ?_|refine JJ rfl ?_|(refine Zp rfl rfl (fun _=>?_) (fun _=>?_)<;>try (exfalso;omega))|refine ZV rfl ?_|refine ZH rfl ?_|refine JR rfl rfl (by omega) ?_|refine Zu ?_|refine Ze ?_|refine Zb rfl ?_)
  all_goals try contradiction
  all_goals try (exfalso;omega)
  all_goals exact hQ _ _
 obtain ⟨hE,hn,p1,p2,p3,p4,p5,p6⟩:=Znr h9 (n:=n) (s:=[]) (by simp) a0 n0 a1
 have hrt:=hE.rt
 obtain ⟨e1,e2,e3⟩:=ZjU (r:=peR text) p2 hrt (by omega) a0 (n:=n) (by omega) a1
 have hP:=ZnU hrt (by omega) a0 (n:=n) (by omega) a1
 have hdl:=ZIK p2 p1.lv hrt.rt (ZAv (peR text).nodes (Ym text) (ZQO a n text.length))
 have hpu:=fun st=>upV (up3 (Zln n st))
 obtain ⟨Y,hY⟩:∃ Y,Y=X.set dx (.arr 3 (ver'+1) ((QG a).map Pce.av++[(ZBu n).av])):=⟨_,rfl⟩
 have lY:Y.length=L.length:=by rw [hY,List.length_set,lX]
 have yd:Y[dx]?=some (.arr 3 (ver'+1) ((QG a++[ZBu n]).map Pce.av)):=by rw [hY,List.map_append];exact List.getElem?_set_self (by omega)
 have yo:∀ i,i≠dx->Y[i]?=L[i]?:=fun i h=>by rw [hY,jS (fun q=>h q.symm),xo i h]
 have haY:Has ⟨A,false,Y⟩ A.length B0 (peR text):=hH.ha.frmL fun i h1 h2=>yo i (by omega)
 have hbY:Has ⟨A,false,Y⟩ A.length B1 (peR text):=hH.hb.frmL fun i h1 h2=>yo i (by omega)
 have y14:Y[i14]?=some (.arr 5 0 [(Ym text).av]):=by rw [yo _ (by omega)];exact hH.b14
 have y15:Y[i15]?=some (.arr 5 0 [(Ym text).av]):=by rw [yo _ (by omega)];exact hH.b15
 have yc:Y[cx]?=some (.arr 7 0 [chZ]):=by rw [yo _ (by omega)];exact hH.bc
 have hIn:=upV (up3 (Zlm haY p1 p2 hE hn));rw [ZEA] at hIn;obtain ⟨R,hR⟩:∃ R,R=(wrV (edV (peR text).nodes (Ym text) a n []) (peR text)).1:=⟨_,rfl⟩;obtain ⟨ro2,hro2⟩:∃ x,x=(wrV (edV (peR text).nodes (Ym text) a n []) (peR text)).2.1:=⟨_,rfl⟩;obtain ⟨fr,hfr⟩:∃ x,x=(wrV (edV (peR text).nodes (Ym text) a n []) (peR text)).2.2:=⟨_,rfl⟩;obtain ⟨dd,hdd⟩:∃ x,x=Ys (peR text).nodes [Ym text] (edV (peR text).nodes (Ym text) a n []):=⟨_,rfl⟩
 have hw:wrV (ZAv (peR text).nodes (Ym text) (ZQO a n text.length)) (peR text)=(R,ro2,fr):=by rw [e1,hR,hro2,hfr]
 rw [<- hR,<- hro2,<- hfr,<- hdd] at hIn;rw [<- hR] at p3 p4 p5;rw [<- hfr] at p6;rw [<- hdd] at e3;rw [e3] at hdl;rw [<- e2] at hn;obtain ⟨Z,hZ⟩:∃ Z,Z=arL Y A.length B0 R:=⟨_,rfl⟩
 have lZ:Z.length=L.length:=by rw [hZ,ZNN,lY]
 have zo:∀ i,¬ (B0<=i/\i<=B0+5)->Z[i]?=Y[i]?:=fun i h=>by rw [hZ,ZQT _ h]
 have haZ:Has ⟨A,false,Z⟩ A.length B0 R:=by
  have:=haY.put R
  rw [ZEA,<- hZ] at this;exact this
 have zc:Z[cx]?=some (.arr 7 0 [chZ]):=by rw [zo _ (by omega)];exact yc
 rw [<- hZ] at hIn
 have hM:PeM A (Z.set cx (.arr 7 0 [Qz ro2 fr (slH dd)])) B0 B1 i15 dx cx (peR text) (Ym text) R ro2 fr dd (ver'+1) (QG a++[ZBu n]):=by
  have so:∀ i,i≠cx->(Z.set cx (.arr 7 0 [Qz ro2 fr (slH dd)]))[i]?=Z[i]?:=fun i h=>jS (fun q=>h q.symm)
  exact ⟨haZ.frmL fun i h1 h2=>so i (by omega),hbY.frmL fun i h1 h2=>by rw [so i (by omega),zo i (by omega)],by rw [so _ (by omega),zo _ (by omega)];exact y15,by rw [so _ (by omega),zo _ (by omega)];exact yd,List.getElem?_set_self (by omega),⟨by omega,by omega,by omega,by omega⟩,by rw [List.length_set];omega⟩
 have hT:=ZiQ hM p1 p2 (rest:=(text.length:Int)-a-n) (by omega) hP hn hw e3 p3 p4 p5 p6 (by omega) (by have:=(ZBc a a0).2.2.2;simp only [lL,List.length_singleton];omega) (v0:=.str text) (v1:=.int .i64 a) (v2:=.int .i64 n) (v3:=v3) (v9:=.int .i64 1) (k:=.blk 1::k) (Q:=Q) (fun L'=>Zy (hQ _ _))
 have hln:(QG a).length=((QG a).map Pce.av).length:=by simp
 have hll:((QG a).map Pce.av).length+[(ZBu n).av].length<4294967296:=by have:=(ZBc a a0).2.2.2;simp only [List.length_map,List.length_singleton];omega
 have e9:(QG a++[ZBu n]).length=(QG a).length+[(ZBu n).av].length:=by simp
 rw [e9] at hT;have p2':Qm (Ym text).av true 0 5=some (Ym text).av:=rfl;clear hM hP hn hw e1 e2 hE hrt
 generalize Ym text=ro at *
 generalize peR text=r at *
 generalize QG a=la at *
 repeat' (first|refine ZCC rfl rfl xd hln rfl rfl hll (by decide) ?_|refine ZE ?_|refine ZD ?_|refine ZF rfl ?_|refine ZA rfl ?_|refine ZC ?_|refine JJ rfl ?_|(refine Zp rfl rfl (fun _=>?_) (fun _=>?_)<;>try (exfalso;omega))|refine ZH rfl ?_|refine JR rfl rfl (by omega) ?_|refine Qa rfl rfl rfl rfl ?_|refine ZB rfl rfl rfl (hpu _) ?_|refine ZI ?_)
 all_goals try contradiction
 all_goals try (exfalso;omega)
 change Is _ _ _ _ _ _ ⟨A,false,X.set dx (.arr 3 (ver'+1) (la.map Pce.av++[(ZBu n).av]))⟩
 rw [<- hY];clear hY hZ;unfold peT
 repeat' (first|exact hT|refine ZP rfl y14 rfl p2' ?_|refine Qo zc rfl rfl rfl (Zbc _ _ _ _ _) (Zf8 _ _ _ _) ?_|refine ZF rfl ?_|refine Zs rfl rfl ?_|refine ZA rfl ?_|refine ZC ?_|refine ZB rfl rfl rfl (hIn) ?_)
 all_goals try contradiction
 all_goals try (exfalso;omega)
theorem Zdx (text:List UInt8) (at_ num:Int) (s:List UInt8) (ht:text.length<9223372036854775808) (hs:s.length<9223372036854775808) (st:St) :
 S TV Qp [.str text,.int .i64 at_,.int .i64 num,.str s] st=some (.bool true,st):=by
 refine QJ (leV Qp (.pf JL) (le3 Qp (.pf JL) rfl)) (fun A hA=>?_)
 have hWk:=fun st=>Zjd st
 by_cases hg:text.length > 900\/s.length > 300
 ·repeat' (first|refine ZE ?_|refine ZD ?_|refine ZF rfl ?_|refine QE rfl ?_|refine J1 rfl rfl ?_|refine Zo rfl rfl rfl rfl ?_|refine ZA rfl ?_|refine ZC ?_|refine JJ rfl ?_|(refine QR rfl rfl (fun _=>?_) (fun _=>?_)<;>try (exfalso;omega))|refine ZV rfl ?_|refine ZB rfl rfl rfl (hWk _) ?_|refine ZS ?_|refine ZO ?_|refine Zd ?_)
  all_goals try contradiction
  all_goals try (exfalso;omega)
  all_goals refine Zj hA (by first|exact .inl rfl|exact .inr rfl) rfl rfl rfl rfl ?_
  all_goals rfl
 obtain ⟨h9,h3⟩:text.length<=900/\s.length<=300:=by omega
 clear hg
 have p1:=ZGA (x:=at_) (n:=(text.length:Int)) (by omega)
 have hPa:=fun st=>upV (up3 (Zlr at_ text.length (by omega) (by omega) st))
 generalize ZQ0 at_ text.length=a at *
 have p2:=ZGA (x:=num) (n:=(text.length:Int)-a) (by omega)
 have hPm:=fun st=>upV (up3 (Zlr num ((text.length:Int)-a) (by omega) (by omega) st))
 generalize ZQ0 num ((text.length:Int)-a)=n at *
 repeat' (first|refine ZE ?_|refine ZD ?_|refine ZF rfl ?_|refine QE rfl ?_|refine Zo rfl rfl rfl rfl ?_|refine ZA rfl ?_|refine ZC ?_|refine JJ rfl ?_|(refine QR rfl rfl (fun _=>?_) (fun _=>?_)<;>try (exfalso;omega))|refine ZH rfl ?_|refine JR rfl rfl (by omega) ?_|refine ZB rfl rfl rfl (hPa _) ?_|refine ZB rfl rfl rfl (hPm _) ?_|refine ZI ?_|refine ZL ?_)
 all_goals try contradiction
 all_goals try (exfalso;omega)
 refine Z2 (α:=Nat × List Blk) (fun p=>[(0,.str text),(1,.int .i64 a),(2,.int .i64 n),(3,.str s),(9,.int .i64 p.1)]) (fun p=>⟨A,false,p.2⟩) (fun p=>p.1<=2) (fun p=>2-p.1) (0,[]) rfl rfl (by simp) ?_
 rintro ⟨i,L⟩ hi
 simp only at hi ⊢
 obtain rfl|rfl|rfl:i=0\/i=1\/i=2:=by omega
 ·repeat' (first|refine ZiP h9 (fun L4 B0 B1 i14 i15 dx cx hH=>?_)|refine Zom h9 h3 p1.1 p1.2 hH (fun L' tl=>?_)|refine ZE ?_|refine ZD ?_|refine ZF rfl ?_|refine ZA rfl ?_|refine ZC ?_|(refine Zh rfl rfl (fun _=>?_) (fun _=>?_)<;>try (exfalso;omega))|refine ZV rfl ?_|refine Zm rfl rfl (by omega) ?_|refine ZI ?_|refine ZL ?_|refine QH ?_)
  all_goals try contradiction
  all_goals try (exfalso;omega)
  all_goals exact ⟨(1,_),⟨rfl,rfl⟩,by simp only;omega,by simp only;omega⟩
 ·repeat' (first|refine ZiP h9 (fun L4 B0 B1 i14 i15 dx cx hH=>?_)|refine Zon h9 p1.1 p2.1 (by omega) hH (fun L' tl=>?_)|refine ZE ?_|refine ZD ?_|refine ZF rfl ?_|refine ZA rfl ?_|refine ZC ?_|(refine Zh rfl rfl (fun _=>?_) (fun _=>?_)<;>try (exfalso;omega))|refine ZV rfl ?_|refine Zm rfl rfl (by omega) ?_|refine ZI ?_|refine ZL ?_|refine QH ?_)
  all_goals try contradiction
  all_goals try (exfalso;omega)
  all_goals exact ⟨(2,_),⟨rfl,rfl⟩,by simp only;omega,by simp only;omega⟩
 ·repeat' (first|refine ZE ?_|refine ZD ?_|refine ZF rfl ?_|refine ZA rfl ?_|refine ZC ?_|(refine Zh rfl rfl (fun _=>?_) (fun _=>?_)<;>try (exfalso;omega))|refine ZH rfl ?_|refine ZB rfl rfl rfl (hWk _) ?_|refine ZS ?_|refine Zu ?_|refine ZO ?_|refine Ze ?_|refine Zb rfl ?_|refine Zt ?_)
  all_goals try contradiction
  all_goals try (exfalso;omega)
  all_goals refine Zj hA (by first|exact .inl rfl|exact .inr rfl) rfl rfl rfl rfl ?_
  all_goals rfl
end Go.Q15
namespace Go.QAbs
open Go.ChangeShapes Go.WideShapes Go.RowKit Go.Deep
variable {P:Program}
end Go.QAbs
namespace Go.Q15
open Go Go.QAbs
set_option maxRecDepth 100000
open Go.Shelf in
def Zls:Ren:=⟨fun|41=>31|n=>n,fun|22=>51|23=>88|n=>n,fun n=>n⟩
theorem Zlt:Go.Proofs.SlLaysE0.n41 Proofs.Try.prog Zls:={
 mixed:=by kernel_rfl
 f41 := ⟨"slices.Clone[[]quarto/api.Kid,quarto/api.Kid]", by decide, Proofs.Try.func31.trans (congrArg some (by kernel_rfl))⟩
 t4:=Proofs.Try.underlying4
 a4:=Proofs.Try.isAgg4
 z4:=Proofs.Try.sizeOf4
 v4:=Proofs.Try.zeroValue4
 t22:=Proofs.Try.underlying51
 a22:=Proofs.Try.isAgg51
 z22:=Proofs.Try.sizeOf51
 v22:=Proofs.Try.zeroValue51 }
theorem Zlu:∃ i z,Proofs.Try.prog.info? 88=some i/\i.zero=some z/\i.size=4/\i.bytes=32/\z.cells.size=4:=⟨_,_,rfl,rfl,rfl,rfl,rfl⟩
theorem ZhI:ZQf Proofs.Try.prog Z7 (.base (ZJJ 4)):=by
 obtain ⟨i,z,h1,h2,h3,h4,h5⟩:=Zlu
 refine ZkW (T:=88) (fun n c W=>Go.Proofs.AnyE.slices_Clone_nil Zlt n c W) fun ad n c news W hl hn hc ho=>?_
 exact Zis Zlt i z 4 32 h1 h2 h3 h4 h5 (by decide) Proofs.Try.sizeOf88 ad n c news W hl (by unfold maxLen;omega) (by omega) hc ho
theorem ZhJ:Proofs.Try.prog.follows .mixedOrders=true:=by kernel_rfl
theorem Zlv:ZQg Proofs.Try.prog tl:=⟨⟨Proofs.Try.call31,ZhI⟩,Zmp⟩
theorem ZpM:TabOk Proofs.Try.prog Tb:=ZKq Zlv
theorem Zlw:ZQg Proofs.Try.prog t1:=⟨⟨Proofs.Try.call55,Znh ZhJ ZpM Proofs.Try.func55 Zch⟩,Zlv⟩
theorem ZpN:TabOk Proofs.Try.prog T1:=ZKq Zlw
theorem Zlx:ZQg Proofs.Try.prog t3:=⟨⟨Proofs.Try.call56,Znh ZhJ ZpN Proofs.Try.func56 Zcj⟩,Zlw⟩
theorem ZpO:TabOk Proofs.Try.prog T3:=ZKq Zlx
theorem Zoo:ZQg Proofs.Try.prog tv:=⟨⟨Proofs.Try.call20,ZnY ZpO ZhJ Proofs.Try.func20⟩,Zlx⟩
theorem TV_ok:TabOk Proofs.Try.prog TV:=ZKq Zoo
theorem patchEdits_run (text:List UInt8) (a n:Int) (s:List UInt8) (h1:text.length<=maxLen) (_h2:(Lit.int .i64 a).wf=true) (_h3:(Lit.int .i64 n).wf=true) (h4:s.length<=maxLen) :
 ∃ st',S TV Qp [.str text,.int .i64 a,.int .i64 n,.str s] .empty=some (.bool true,st'):=by
 have hm:maxLen<9223372036854775808:=by decide +kernel
 exact ⟨_,Zdx text a n s (by omega) (by omega) .empty⟩
end Go.Q15
