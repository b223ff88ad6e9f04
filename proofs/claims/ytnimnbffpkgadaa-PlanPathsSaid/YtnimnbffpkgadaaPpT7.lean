/- A part of the proof: M35, M36, M38, M39, M41, RA, W5, M1b, RB, PPa, W6, M42, M17, RC, RD, RE, RF, RG, RH, RI, RJ, RK, M52, RL, S4, S5, S6, YX, W7, RN, RO, W8, RP, SA, RS, RQ, RT, RU, RV, M18, PO, RW, RX, W9, SB, SC, RY, RZ, SD, SE, SF, SG, SI, SJ, SK, SL, SN, SO, SPa, SSa. No condition. -/
import Derived.Test.YtnimnbffpkgadaaPpT6
set_option linter.unusedVariables false
set_option linter.unusedSimpArgs false
namespace Go.Q15
open Go Go.QAbs
set_option maxRecDepth 100000
set_option maxHeartbeats 8000000
structure RL (st:St) (lv b k:Nat):Prop where
 wr:st.wr lv
 h0:st.get lv b=some (r0 lv b k)
 h1:st.get lv (b+1)=some (r1 k)
 h2:st.get lv (b+2)=some r2
 h3:st.get lv (b+3)=some r3
def ZWd (st:St) (lv b k:Nat):St:=(st.upd lv b (r0 lv b (k+1))).upd lv (b+1) (r1 (k+1))
theorem ZJ7 {st:St} {lv b k:Nat} (h:RL st lv b k) (l' i':Nat):(ZWd st lv b k).get l' i'=if l'=lv∧i'=b+1 then some (r1 (k+1)) else if l'=lv∧i'=b then some (r0 lv b (k+1)) else st.get l' i':=by
 have g1:∀ l' i',(st.upd lv b (r0 lv b (k+1))).get l' i'=if l'=lv∧i'=b then some (r0 lv b (k+1)) else st.get l' i':=fun l' i'=>St.get_upd h.h0 rfl
 have b1:(st.upd lv b (r0 lv b (k+1))).get lv (b+1)=some (r1 k):=by rw [g1,if_neg (by omega)];exact h.h1
 rw [ZWd,St.get_upd b1 rfl,g1]
theorem RL.take {st:St} {lv b k:Nat} (h:RL st lv b k):RL (ZWd st lv b k) lv b (k+1):=by
 refine ⟨St.wr_upd (St.wr_upd h.wr h.wr) (St.wr_upd h.wr h.wr),?_,?_,?_,?_⟩
 ·rw [ZJ7 h,if_neg (by omega),if_pos ⟨rfl,rfl⟩]
 ·rw [ZJ7 h,if_pos ⟨rfl,rfl⟩]
 ·rw [ZJ7 h,if_neg (by omega),if_neg (by omega)];exact h.h2
 ·rw [ZJ7 h,if_neg (by omega),if_neg (by omega)];exact h.h3
theorem ZkV {k:Nat} (hk:k<700):((List.range 700).map fun (j:Nat)=>AV.int .i64 ((700:Int)-1-j))[699-k]?=some (.int .i64 k):=by
 rw [List.getElem?_map,List.getElem?_range (by omega)]
 simp only [Option.map_some]
 congr 2;omega
theorem Zjc {st:St} {lv b k:Nat} (h:RL st lv b k) (hk:k<700) :
 S Tb YB [.ptr lv b 0 0 0] st=some (.tup [.int .u64 ((1*65536+k:Nat):Int),.int .i64 0],ZWd st lv b k):=by
 refine ZWW rfl (fun A hA=>?_)
 have g0:=fun L=>ZW hA (ro:=false) (L:=L) h.h0
 have g3:=fun L=>ZW hA (ro:=false) (L:=L) h.h3
 unfold r0 at g0
 unfold r3 at g3
 obtain ⟨q,hq⟩:∃ q,700-k=q+1:=⟨699-k,by omega⟩
 rw [hq] at g0
 have hM:=fun st=>ZgF k 1 (by omega) ⟨by omega,by omega⟩ st
 repeat' (first|refine ZE ?_|refine ZC ?_|refine ZF rfl ?_|refine ZO rfl rfl ?_|refine ZB rfl ?_|refine ZA ?_|refine Z7 rfl rfl ?_|refine Q2 rfl ?_|(refine Zl rfl rfl (fun _=>?_) (fun _=>?_)<;>try (exfalso;omega))|refine ZG rfl ?_|refine JB rfl rfl (by omega) ?_|refine Qm rfl rfl rfl rfl ?_|refine QG rfl (g0 _) rfl rfl ?_|refine ZI ?_)
 all_goals try (exfalso;omega)
 have hw1:∀ L,wIs 1 699 (St.get ⟨A,false,L⟩ lv (b+3))=true:=fun L=>by rw [g3];simp [wIs]
 refine Jb rfl rfl (by omega) (hw1 _) ?_
 refine QG (x:=.int .i64 k) rfl (g3 _) (by rw [show 0+(((q+1:Nat):Int)-1).toNat=699-k by omega];exact ZkV hk) rfl ?_
 repeat' (first|refine ZE ?_|refine ZC ?_|refine ZF rfl ?_|refine ZO rfl rfl ?_|refine ZB rfl ?_|refine ZA ?_|refine Z7 rfl rfl ?_|refine Q2 rfl ?_|refine JB rfl rfl (by omega) ?_|refine QG rfl (g0 _) rfl rfl ?_)
 refine ZBq rfl rfl (by omega) (hw1 _) ?_
 repeat' (first|refine ZO rfl rfl ?_|refine Z7 rfl rfl ?_)
 have hle:=St.get_le h.h0
 have h0':=h.h0
 unfold r0 at h0'
 rw [hq] at h0'
 refine ZIj hA rfl rfl h.wr h0' rfl (Qz _ (Nat.lt_succ_self _)) rfl (fun A1 hA1=>?_)
 have eB:Blk.arr 4 0 ([AV.agg [.int .u64 3,.ref lv (b+1) 699 0 700,.ref lv (b+2) 699 0 700,.ref lv (b+3) 699 0 (q+1)]].set 0 (.agg [.int .u64 3,.ref lv (b+1) 699 0 700,.ref lv (b+2) 699 0 700,.ref lv (b+3) 699 0 (((q+1:Nat):Int)-1).toNat]))=r0 lv b (k+1):=by
  rw [show (((q+1:Nat):Int)-1).toNat=700-(k+1) by omega]
  rfl
 rw [eB] at hA1
 have q1:∀ l' i',(st.upd lv b (r0 lv b (k+1))).get l' i'=if l'=lv∧i'=b then some (r0 lv b (k+1)) else st.get l' i':=fun l' i'=>St.get_upd h.h0 rfl
 have hw:=St.wr_upd (b:=r0 lv b (k+1)) (ix:=b) h.wr h.wr
 have k0:(st.upd lv b (r0 lv b (k+1))).get lv b=some (r0 lv b (k+1)):=by rw [q1,if_pos ⟨rfl,rfl⟩]
 have k1:(st.upd lv b (r0 lv b (k+1))).get lv (b+1)=some (r1 k):=by rw [q1,if_neg (by omega)];exact h.h1
 have k2:(st.upd lv b (r0 lv b (k+1))).get lv (b+2)=some r2:=by rw [q1,if_neg (by omega)];exact h.h2
 have et:ZWd st lv b k=(st.upd lv b (r0 lv b (k+1))).upd lv (b+1) (r1 (k+1)):=rfl
 rw [et]
 generalize st.upd lv b (r0 lv b (k+1))=st1 at *
 unfold r1 at k1
 have k0':=k0
 unfold r0 at k0'
 have m0:=fun L=>ZW hA1 (ro:=false) (L:=L) k0'
 have m1:=fun L=>ZW hA1 (ro:=false) (L:=L) k1
 have hw0:∀ L,wIs 1 699 (St.get ⟨A1,false,L⟩ lv (b+1))=true:=fun L=>by rw [m1];simp [wIs]
 repeat' (first|refine ZE ?_|refine ZC ?_|refine ZF rfl ?_|refine ZO rfl rfl ?_|refine ZB rfl ?_|refine ZA ?_|refine Z7 rfl rfl ?_|refine QG rfl (m0 _) rfl rfl ?_|refine Jb rfl rfl (by omega) (hw0 _) ?_)
 refine ZIj hA1 (y:=.int .i64 0) rfl rfl hw k1 ?_ rfl rfl (fun A2 hA2=>?_)
 ·rw [show 0+((k:Nat):Int).toNat=k by omega,List.getElem?_map,List.getElem?_map,List.getElem?_range (by omega)]
  simp
 have eS:Blk.arr 1 699 ((((List.range 700).map fun (j:Nat)=>if j<k then (1:Int) else 0).map (AV.int .i64)).set (0+((k:Nat):Int).toNat) (.int .i64 1))=r1 (k+1):=by
  rw [show 0+((k:Nat):Int).toNat=k by omega]
  unfold r1
  rw [← ZWb hk,List.map_set]
 rw [eS] at hA2
 have q2:∀ l' i',(st1.upd lv (b+1) (r1 (k+1))).get l' i'=if l'=lv∧i'=b+1 then some (r1 (k+1)) else st1.get l' i':=fun l' i'=>St.get_upd k1 rfl
 have n2:(st1.upd lv (b+1) (r1 (k+1))).get lv (b+2)=some r2:=by rw [q2,if_neg (by omega)];exact k2
 have n0:(st1.upd lv (b+1) (r1 (k+1))).get lv b=some (r0 lv b (k+1)):=by rw [q2,if_neg (by omega)];exact k0
 generalize st1.upd lv (b+1) (r1 (k+1))=st2 at *
 unfold r2 at n2
 unfold r0 at n0
 have o2:=fun L=>ZW hA2 (ro:=false) (L:=L) n2
 have o0:=fun L=>ZW hA2 (ro:=false) (L:=L) n0
 have hw2:∀ L,wIs 1 699 (St.get ⟨A2,false,L⟩ lv (b+2))=true:=fun L=>by rw [o2];simp [wIs]
 repeat' (first|refine ZE ?_|refine ZC ?_|refine ZF rfl ?_|refine ZO rfl rfl ?_|refine ZB rfl ?_|refine ZA ?_|refine Z7 rfl rfl ?_|refine QG rfl (o0 _) rfl rfl ?_|refine Jb rfl rfl (by omega) (hw2 _) ?_)
 refine QG (x:=.int .u64 1) rfl (o2 _) (by rw [show 0+((k:Nat):Int).toNat=k by omega,List.getElem?_replicate,if_pos hk]) rfl ?_
 repeat' (first|refine ZF rfl ?_|refine QB rfl rfl ?_|refine ZB rfl ?_|refine ZA ?_|refine ZD rfl rfl rfl (hM _) ?_|refine ZQ ?_|refine ZP ?_)
 refine Zd hA2 (.inr rfl) rfl rfl rfl rfl ?_
 rfl
end Go.Q15
namespace Go.Q15
open Go Go.QAbs
set_option maxRecDepth 100000
set_option maxHeartbeats 8000000
section
variable {O:Orc} {k:List Fr} {Q:Yv} {e:Env} {A:List (Bool × List Blk)} {L L0 T T':List Blk} {keep:List Nat} {is:List PI} {d:Nat}
theorem Zhu {st:St} {w:Nat} {x:Opd} {z v:AV} (hx:Zg e x=some v) (hw:v.wide=some w) (hi:imm 6 v=true) (h:Is O is keep k Q ((d,.lit [v])::e) st):Is O (⟨some d,none,false,.w .imm (.bslice false w [z] [(0,x)])⟩::is) keep k Q e st:=by
 refine ZbH (v:=.lit [v]) (st':=st) ?_ h
 have hf:fillE w [z] [(0,v)]=some [v]:=by simp [fillE,hw]
 simp only [QA,ZdV,JT,ZH hx,hf,Option.bind_some,ZWs,List.all_cons,List.all_nil,hi,Bool.and_self,if_true,List.isEmpty_cons,Bool.false_eq_true,if_false]
end
structure RHas (A:List (Bool × List Blk)) (L:List Blk) (b it:Nat) (N:ZJ):Prop where
 h0:L[b]?=some (r0 A.length b N.length)
 h1:L[b+1]?=some (r1 N.length)
 h2:L[b+2]?=some r2
 h3:L[b+3]?=some r3
 h4:L[b+4]?=some (r4 A.length b it N)
 hi:N≠[]→L[it]?=some (.arr 4 (N.length-1) (N.map ZCt))
 ne:N≠[]→(it<b∨b+4<it)
theorem ZBU {A:List (Bool × List Blk)} {L:List Blk} {i:Nat} {w v:Nat} {es:List AV} (h:L[i]?=some (.arr w v es)):St.get ⟨A,false,L⟩ A.length i=some (.arr w v es):=by
 rw [St.get_cur,h];rfl
theorem RHas.rrd {A:List (Bool × List Blk)} {L:List Blk} {b it:Nat} {N:ZJ} (h:RHas A L b it N):RRd ⟨A,false,L⟩ A.length (b+4) N:=by
 refine ⟨_,_,_,_,_,_,_,_,_,ZBU h.h4,?_⟩
 cases N with
 | nil=>exact .nil
 | cons p N =>
  refine .ref (ZBU (h.hi (by simp))) rfl ?_
  rw [List.take_of_length_le (by simp)]
theorem RHas.rl {A:List (Bool × List Blk)} {L:List Blk} {b it:Nat} {N:ZJ} (h:RHas A L b it N):RL ⟨A,false,L⟩ A.length b N.length :=
 ⟨by simp [St.wr],ZBU h.h0,ZBU h.h1,ZBU h.h2,ZBU h.h3⟩
theorem RHas.frame {A:List (Bool × List Blk)} {L L':List Blk} {b it:Nat} {N:ZJ} (h:RHas A L b it N) (h0:∀ i,b≤i→i≤b+4→L'[i]?=L[i]?) (h1:N≠[]→L'[it]?=L[it]?):RHas A L' b it N :=
 ⟨by rw [h0 _ (by omega) (by omega)];exact h.h0,by rw [h0 _ (by omega) (by omega)];exact h.h1,by rw [h0 _ (by omega) (by omega)];exact h.h2,by rw [h0 _ (by omega) (by omega)];exact h.h3,by rw [h0 _ (by omega) (by omega)];exact h.h4,fun q=>by rw [h1 q];exact h.hi q,h.ne⟩
theorem ZJ8 {A:List (Bool × List Blk)} {L:List Blk} {i:Nat} {b:Blk}:St.upd ⟨A,false,L⟩ A.length i b=⟨A,false,L.set i b⟩:=by simp [St.upd]
def ZDo (A:List (Bool × List Blk)) (L:List Blk) (b k:Nat):List Blk:=(L.set b (r0 A.length b (k+1))).set (b+1) (r1 (k+1))
theorem ZgH {A:List (Bool × List Blk)} {L T:List Blk} {b k:Nat} (h:b+1<L.length):ZWd ⟨A,false,L++T⟩ A.length b k=⟨A,false,ZDo A L b k++T⟩:=by
 unfold ZWd ZDo
 rw [ZJ8,ZJ8,List.set_append_left _ _ (by omega),List.set_append_left _ _ (by simp;omega)]
structure RPost (A:List (Bool × List Blk)) (L:List Blk) (b it:Nat) (N:ZJ) (x:Nd) (L':List Blk) (it':Nat):Prop where
 has:RHas A L' b it' (N++[(hd N,x)])
 len:L.length<L'.length
 old:∀ i,i<L.length→(i<b∨b+4<i)→(N=[]∨i≠it)→L'[i]?=L[i]?
 it:(N≠[]∧it'=it)∨(L.length≤it'∧it'<L'.length)
theorem ZZV {A:List (Bool × List Blk)} {L:List Blk} {b k:Nat}:(ZDo A L b k).length=L.length:=by simp [ZDo]
theorem ZZW {A:List (Bool × List Blk)} {L:List Blk} {b k j:Nat} (hj:j≠b∧j≠b+1):(ZDo A L b k)[j]?=L[j]?:=by
 unfold ZDo;rw [List.getElem?_set_ne (by omega),List.getElem?_set_ne (by omega)]
theorem Zjd {A:List (Bool × List Blk)} {L:List Blk} {b k:Nat} (h:b<L.length):(ZDo A L b k)[b]?=some (r0 A.length b (k+1)):=by
 unfold ZDo;rw [List.getElem?_set_ne (by omega),List.getElem?_set_self h]
theorem Zje {A:List (Bool × List Blk)} {L:List Blk} {b k:Nat} (h:b+1<L.length):(ZDo A L b k)[b+1]?=some (r1 (k+1)):=by
 unfold ZDo;rw [List.getElem?_set_self (by simpa using h)]
theorem ZWe {A:List (Bool × List Blk)} {L:List Blk} {b it:Nat} {N:ZJ} (h:RHas A L b it N) (hl:N.length<700) (n:Nat) (s:List UInt8) (ks:List Kid) (w:AV) (hw:w.one=true)
 (hC:∀ T,S Tb Qy [.agg [.int .i64 n,.str s,w]] (St.allRo ⟨A,false,ZDo A L b N.length++T⟩)=some (Nd.av ⟨n,s,some ks⟩,St.allRo ⟨A,false,ZDo A L b N.length++T⟩)) :
 Ru (S Tb) (.seq Yo (.seq (.seq YU (.ite (.s 32) (.seq YV .ret) .skip)) (.seq YW (.seq YY (.seq YZ .ret))))) []
  (fun x e st'=>∃ v st'',Jq true [RV.s 4,RV.s 5] (x,e,st')=some (v,st'')∧v=.tup [.int .u64 ((hd N:Nat):Int),.int .i64 0]∧∃ L' it',st''=⟨A,false,L'⟩∧RPost A L b it N ⟨n,s,some ks⟩ L' it')
  [(0,.ptr A.length (b+4) 0 0 0),(3,.ptr A.length (L.length+0) 0 0 0),(7,.int .i64 0),(21,.bool false)] ⟨A,false,L++[.arr 3 0 [.agg [.int .i64 n,.str s,w]]]⟩:=by
 have hb4:=(List.getElem?_eq_some_iff.1 h.h4).1
 have hF:∀ T,RHas A (L++T) b it N:=fun T=>h.frame (fun i h1 h2=>List.getElem?_append_left (by omega)) (fun q=>List.getElem?_append_left (List.getElem?_eq_some_iff.1 (h.hi q)).1)
 have hT:=fun T=>Zjc (hF T).rl hl
 simp only [ZgH (show b+1<L.length by omega)] at hT
 have g4:∀ T,(L++T)[b+4]?=some (r4 A.length b it N):=fun T=>(hF T).h4
 unfold r4 at g4
 repeat' (first|refine ZS rfl (g4 _) rfl rfl ?_|refine ZE ?_|refine ZC ?_|refine ZF rfl ?_|refine ZO rfl rfl ?_|refine QB rfl rfl ?_|refine ZB rfl ?_|refine ZA ?_|refine Z7 rfl rfl ?_|(refine Zu rfl rfl (fun _=>?_) (fun _=>?_)<;>try (exfalso;omega))|refine ZG rfl ?_|refine ZD rfl rfl rfl (hT _) ?_|refine ZI ?_)
 have tl:=ZZV (A:=A) (L:=L) (b:=b) (k:=N.length)
 have k0:=Zjd (A:=A) (k:=N.length) (show b<L.length by omega)
 have k1:=Zje (A:=A) (k:=N.length) (show b+1<L.length by omega)
 have kj:=fun j (hj:j≠b∧j≠b+1)=>ZZW (A:=A) (L:=L) (k:=N.length) hj
 generalize ZDo A L b N.length=L1 at *
 rw [← tl]
 have q4:∀ T,(L1++T)[b+4]?=some (r4 A.length b it N):=fun T=>by
  rw [List.getElem?_append_left (by omega),kj _ (by omega)];exact h.h4
 unfold r4 at q4
 simp only [Nd.av,slV] at hC
 repeat' (first|refine Jl rfl rfl rfl rfl ?_|refine ZS rfl (q4 _) rfl rfl ?_|refine ZF rfl ?_|refine Zf rfl rfl rfl ?_|refine Js rfl rfl rfl (hC _) ?_|refine Zhu rfl rfl rfl ?_)
 cases N with
 | nil =>
  refine ZOe rfl rfl (by decide) rfl rfl rfl ?_
  have q5:∀ T,(L1++T)[b+4]?=some (r4 A.length b it []):=q4
  unfold r4 itV at q5
  repeat' (first|refine ZO rfl rfl ?_|refine Z7 rfl rfl ?_)
  refine Qn (q5 _) rfl rfl rfl (Qz _ (Nat.lt_succ_self _)) rfl ?_
  generalize hL2:List.set _ (b+4) _=L2
  have l2:L2.length=L1.length+2:=by rw [← hL2];simp
  have g2:L2[b+4]?=some (.arr 9 0 [.agg [.ptr A.length b 0 0 0,.ref A.length (L1.length+1) 0 0 1,.int .i64 0,.int .i64 0,.int .i64 0,.int .i64 0,.int .i64 0,.int .i64 0,.int .i64 0]]):=by
   rw [← hL2,List.getElem?_set_self (by simp;omega)];rfl
  have o2:∀ j,j≠b+4→L2[j]?=(L1++[Blk.arr 3 0 [AV.agg [AV.int .i64 n,.str s,w]],Blk.arr 4 0 [ZCt (hd [],⟨n,s,some ks⟩)]])[j]?:=by
   intro j hj
   rw [← hL2,List.getElem?_set_ne (by omega)];rfl
  clear hL2
  repeat' (first|refine ZS rfl g2 rfl rfl ?_|refine ZE ?_|refine ZC ?_|refine ZF rfl ?_|refine ZO rfl rfl ?_|refine ZB rfl ?_|refine ZA ?_|refine Z7 rfl rfl ?_|refine Zi rfl rfl (by omega) ?_)
  refine Qn g2 rfl rfl rfl rfl rfl ?_
  repeat' (first|refine ZE ?_|refine ZC ?_|refine ZF rfl ?_|refine ZB rfl ?_|refine ZA ?_|refine ZQ ?_|refine ZP ?_)
  have n4:∀ j,j≠b+4→∀ X,(L2.set (b+4) X)[j]?=(L1++[Blk.arr 3 0 [AV.agg [AV.int .i64 n,.str s,w]],Blk.arr 4 0 [ZCt (hd [],⟨n,s,some ks⟩)]])[j]?:=by
   intro j hj X
   rw [List.getElem?_set_ne (by omega),o2 j hj]
  refine ⟨_,_,ZcH (.inr rfl) rfl rfl rfl rfl,rfl,_,L1.length+1,rfl,⟨⟨?_,?_,?_,?_,?_,?_,?_⟩,?_,?_,?_⟩⟩
  ·rw [n4 _ (by omega),List.getElem?_append_left (by omega)];exact k0
  ·rw [n4 _ (by omega),List.getElem?_append_left (by omega)];exact k1
  ·rw [n4 _ (by omega),List.getElem?_append_left (by omega),kj _ (by omega)];exact h.h2
  ·rw [n4 _ (by omega),List.getElem?_append_left (by omega),kj _ (by omega)];exact h.h3
  ·rw [List.getElem?_set_self (by omega)];rfl
  ·intro _;rw [n4 _ (by omega),List.getElem?_append_right (by omega)]
   rw [show L1.length+1-L1.length=1 by omega];rfl
  ·intro _;omega
  ·rw [List.length_set];omega
  ·intro i h1 h2 h3
   rw [n4 _ (by omega),List.getElem?_append_left (by omega),kj _ (by omega)]
  ·rw [List.length_set];right;omega
 | cons p N =>
  have hit:=h.hi (by simp)
  have hne:=h.ne (by simp)
  have hil:=(List.getElem?_eq_some_iff.1 hit).1
  have q6:∀ T,(L1++T)[it]?=some (.arr 4 N.length ((p::N).map ZCt)):=fun T=>by
   rw [List.getElem?_append_left (by omega),kj _ (by omega)];exact hit
  refine ZBr rfl rfl (q6 _) (by simp) (by simp at hl ⊢;omega) (by decide) rfl rfl ?_
  generalize hL3:List.set _ it _=L3
  have l3:L3.length=L1.length+1:=by rw [← hL3];simp
  have i3:L3[it]?=some (.arr 4 (N.length+1) ((p::N++[(hd (p::N),(⟨n,s,some ks⟩:Nd))]).map ZCt)):=by
   rw [← hL3,List.getElem?_set_self (by simp;omega),List.map_append];rfl
  have o3:∀ j,j≠it→L3[j]?=(L1++[Blk.arr 3 0 [AV.agg [AV.int .i64 n,.str s,w]]])[j]?:=by
   intro j hj
   rw [← hL3,List.getElem?_set_ne (by omega)]
  clear hL3
  have q5:L3[b+4]?=some (r4 A.length b it (p::N)):=by rw [o3 _ (by omega)];exact q4 _
  unfold r4 itV at q5
  repeat' (first|refine ZO rfl rfl ?_|refine Z7 rfl rfl ?_)
  refine Qn q5 rfl rfl rfl (Qz _ (Nat.lt_succ_self _)) rfl ?_
  generalize hL2:List.set _ (b+4) _=L2
  have l2:L2.length=L1.length+1:=by rw [← hL2];simp;omega
  have g2:L2[b+4]?=some (.arr 9 0 [.agg [.ptr A.length b 0 0 0,.ref A.length it (N.length+1) 0 (N.length+1+1),.int .i64 0,.int .i64 0,.int .i64 0,.int .i64 0,.int .i64 ((p::N).length:Nat),.int .i64 0,.int .i64 0]]):=by
   rw [← hL2,List.getElem?_set_self (by omega)];rfl
  have o2:∀ j,j≠b+4→L2[j]?=L3[j]?:=by
   intro j hj
   rw [← hL2,List.getElem?_set_ne (by omega)]
  clear hL2
  repeat' (first|refine ZS rfl g2 rfl rfl ?_|refine ZE ?_|refine ZC ?_|refine ZF rfl ?_|refine ZO rfl rfl ?_|refine ZB rfl ?_|refine ZA ?_|refine Z7 rfl rfl ?_|refine Zi rfl rfl (by omega) ?_)
  refine Qn g2 rfl rfl rfl rfl rfl ?_
  repeat' (first|refine ZE ?_|refine ZC ?_|refine ZF rfl ?_|refine ZB rfl ?_|refine ZA ?_|refine ZQ ?_|refine ZP ?_)
  have n4:∀ j,j≠b+4→∀ X,(L2.set (b+4) X)[j]?=L3[j]?:=by
   intro j hj X
   rw [List.getElem?_set_ne (by omega),o2 j hj]
  refine ⟨_,_,ZcH (.inr rfl) rfl rfl rfl rfl,rfl,_,it,rfl,⟨⟨?_,?_,?_,?_,?_,?_,?_⟩,?_,?_,?_⟩⟩
  ·rw [n4 _ (by omega),o3 _ (by omega),List.getElem?_append_left (by omega),List.length_append];exact k0
  ·rw [n4 _ (by omega),o3 _ (by omega),List.getElem?_append_left (by omega),List.length_append];exact k1
  ·rw [n4 _ (by omega),o3 _ (by omega),List.getElem?_append_left (by omega),kj _ (by omega)];exact h.h2
  ·rw [n4 _ (by omega),o3 _ (by omega),List.getElem?_append_left (by omega),kj _ (by omega)];exact h.h3
  ·rw [List.getElem?_set_self (by omega)]
   simp only [r4,itV,List.cons_append,List.length_append,List.length_cons,List.length_nil]
   rfl
  ·intro _;rw [n4 _ (by omega),i3]
   simp
  ·intro _;omega
  ·rw [List.length_set];omega
  ·intro i h1 h2 h3
   have h4:i≠it:=by rcases h3 with q|q;simp at q;exact q
   rw [n4 _ (by omega),o3 _ h4,List.getElem?_append_left (by omega),kj _ (by omega)]
  ·exact .inl ⟨by simp,rfl⟩
theorem Zc4 {A:List (Bool × List Blk)} {L:List Blk} {b it:Nat} {N:ZJ} (h:RHas A L b it N) (hl:N.length<700) (s:List UInt8) (hs:ZAL s) :
 ∃ L' it',S Tb QD [.ptr A.length (b+4) 0 0 0,.agg [.int .i64 (0:Nat),.str s,.nils]] ⟨A,false,L⟩=some (.tup [.int .u64 ((hd N:Nat):Int),.int .i64 0],⟨A,false,L'⟩)∧RPost A L b it N ⟨0,s,some []⟩ L' it':=by
 have hN:=fun st=>ZQ4 ⟨0,s,none⟩ (.inl ⟨rfl,hs.1,hs.2,rfl⟩) st
 simp only [Nd.av,slV] at hN
 have hK:=fun st=>ZbQ (lv:=A.length) (ix:=b+4) s (st:=st)
 suffices q:Sp Tb QD [.ptr A.length (b+4) 0 0 0,.agg [.int .i64 (0:Nat),.str s,.nils]] ⟨A,false,L⟩ fun v st'=>v=.tup [.int .u64 ((hd N:Nat):Int),.int .i64 0]∧∃ L' it',st'=⟨A,false,L'⟩∧RPost A L b it N ⟨0,s,some []⟩ L' it' by
  obtain ⟨v,st',h1,rfl,L',it',rfl,h2⟩:=q
  exact ⟨L',it',h1,h2⟩
 refine ZTX rfl ?_
 have e0:(⟨A,false,L⟩:St)=⟨A,false,L++[]⟩:=by rw [List.append_nil]
 rw [e0]
 repeat' (first|refine Yp rfl rfl rfl rfl rfl ?_|refine Jl rfl rfl rfl rfl ?_|exact ZWe h hl 0 s [] .nils rfl (fun T=>ZYo s _)|refine ZE ?_|refine ZC ?_|refine ZF rfl ?_|refine ZB rfl ?_|refine ZA ?_|(refine Zu rfl rfl (fun _=>?_) (fun _=>?_)<;>try (exfalso;omega))|refine ZG rfl ?_|refine Qm rfl rfl rfl rfl ?_|refine ZD rfl rfl rfl (hN _) ?_|refine ZD rfl rfl rfl (hK _) ?_|refine ZI ?_)
theorem ZgI {A:List (Bool × List Blk)} {L:List Blk} {b it:Nat} {N:ZJ} (h:RHas A L b it N) (hl:N.length<700) (n:Nat) (hn:n≤15) (ks:List Kid) (hk:2≤ks.length∧ks.length≤4) (hs:∀ k∈ks,KidOk n k) (hsum:(QE (ks.map Kid.m)).b≤65536) (hL:ZE4 N n ks)
 {kx ver:Nat} (hr:KRef ⟨A,false,L⟩ A.length kx ver ks) (hne:kx≠b∧kx≠b+1) :
 ∃ L' it',S Tb QD [.ptr A.length (b+4) 0 0 0,ndR (n+1) A.length kx ver ks.length] ⟨A,false,L⟩=some (.tup [.int .u64 ((hd N:Nat):Int),.int .i64 0],⟨A,false,L'⟩)∧RPost A L b it N ⟨n+1,[],some ks⟩ L' it':=by
 obtain ⟨es,g,ge⟩:=hr
 have g0:L[kx]?=some (.arr 4 ver es):=by rw [St.get_cur] at g;exact ZWU g
 have hkl:=(List.getElem?_eq_some_iff.1 g0).1
 have hr1:∀ T,KRef ⟨A,false,L++T⟩ A.length kx ver ks:=fun T=>⟨es,ZBU (by rw [List.getElem?_append_left hkl];exact g0),ge⟩
 have hr2:∀ T,KRef ⟨A,false,ZDo A L b N.length++T⟩ A.length kx ver ks:=fun T=>⟨es,ZBU (by rw [List.getElem?_append_left (by rw [ZZV];exact hkl),ZZW hne];exact g0),ge⟩
 have hF:∀ T,RHas A (L++T) b it N:=fun T=>h.frame (fun i h1 h2=>List.getElem?_append_left (by have:=(List.getElem?_eq_some_iff.1 h.h4).1;omega)) (fun q=>List.getElem?_append_left (List.getElem?_eq_some_iff.1 (h.hi q)).1)
 have hN:=fun T=>ZYl n hn ks hk hs hsum _ (hr1 T)
 have hK:=fun T=>ZeT (hF T).rrd (by omega) n hn ks hk.2 hL (hr1 T)
 have hE:=ZWe h hl (n+1) [] ks (.ref A.length kx ver 0 ks.length) rfl (fun T=>ZbP n ks hk.2 _ (hr2 T).allRo)
 unfold ndR at *
 suffices q:Sp Tb QD [.ptr A.length (b+4) 0 0 0,.agg [.int .i64 ((n+1:Nat):Int),.str [],.ref A.length kx ver 0 ks.length]] ⟨A,false,L⟩ fun v st'=>v=.tup [.int .u64 ((hd N:Nat):Int),.int .i64 0]∧∃ L' it',st'=⟨A,false,L'⟩∧RPost A L b it N ⟨n+1,[],some ks⟩ L' it' by
  obtain ⟨v,st',h1,rfl,L',it',rfl,h2⟩:=q
  exact ⟨L',it',h1,h2⟩
 refine ZTX rfl ?_
 have e0:(⟨A,false,L⟩:St)=⟨A,false,L++[]⟩:=by rw [List.append_nil]
 rw [e0]
 repeat' (first|refine Yp rfl rfl rfl rfl rfl ?_|refine Jl rfl rfl rfl rfl ?_|exact hE|refine ZE ?_|refine ZC ?_|refine ZF rfl ?_|refine ZB rfl ?_|refine ZA ?_|(refine Zu rfl rfl (fun _=>?_) (fun _=>?_)<;>try (exfalso;omega))|refine ZG rfl ?_|refine Qm rfl rfl rfl rfl ?_|refine ZD rfl rfl rfl (hN _) ?_|refine ZD rfl rfl rfl (hK _) ?_|refine ZI ?_)
end Go.Q15
namespace Go.Q15
open Go Go.QAbs
set_option maxRecDepth 100000
set_option maxHeartbeats 8000000
section
variable {O:Orc} {k:List Fr} {Q:Yv} {e:Env} {A:List (Bool × List Blk)} {L:List Blk} {keep:List Nat} {is:List PI} {d:Nat}
theorem ZQ5 {a b x:Opd} {n ix ver i o w vb ib ob:Nat} {es:List AV} {v v' y:AV} (hg:L[ix]?=some (Blk.arr w ver es)) (ha:Zg e a=some (.ptr A.length ix ver i o)) (hb:Zg e b=some (.ptr A.length ix vb ib ob)) (hx:Zg e x=some v) (hy:es[i]?=some y) (him:imm 6 v=true)
 (hs:Zc QN (A.length+1) ⟨A,false,L⟩ v=some (v,⟨A,false,L⟩)) (hv:(Qv w y o n v).bind YI=some v') (h:Is O is keep k Q e ⟨A,false,L.set ix (Blk.arr w ver (es.set i v'))⟩):Is O (⟨none,none,false,.w (.plain b) (.st n a x)⟩::is) keep k Q e ⟨A,false,L⟩:=by
 have hlt:ix<L.length:=by
  rw [List.getElem?_eq_some_iff] at hg;exact hg.1
 have hv':Qv w y o n v=some v':=by
  simp only [Option.bind_eq_some_iff] at hv
  obtain ⟨u,h1,h2⟩:=hv
  rw [h1,Yw h2]
 refine Z3 (od:=none) (v:=.undef) (st':=⟨A,false,L.set ix (Blk.arr w ver (es.set i v'))⟩) ?_ h
 have hsb:ZFD (.ptr A.length ix ver i o) (.ptr A.length ix vb ib ob)=true:=by simp [ZFD]
 simp only [Zk,QA,ZLo,ZH ha,ZH hb,ZH hx,hsb,him,and_self,if_true]
 simp only [evalPO,ZH ha,ZH hx,ZAN,hs,Option.bind_some,ZDs,St.get_cur,hg,vis,XD,if_true,hy,hv',St.put,if_false,Bool.false_eq_true,if_pos hlt,ZA8]
end
def kvV (lv kx:Nat):Nat→AV
 | 0=>.nils
 | i+1=>.ref lv kx i 0 (i+1)
structure WInv (A:List (Bool × List Blk)) (P:List Blk→ZJ→(Nat→Prop)→Nat→Prop) (p:Nat) (L0:List Blk) (I0:Nat→Prop) (n:Nat) (N1:ZJ) (ts:List Tr) (l:List Kid) (i:Nat) (L:List Blk) (N:ZJ) (I:Nat→Prop) (kx:Nat):Prop where
 p:P L N I p
 le:i≤ts.length
 chain:ZWa (WrH n) N (ts.drop i) N1 (l.drop i)
 ord:Ord N
 own:∀ j,I j→I0 j∨L0.length+4≤j
 old:∀ j,j<L0.length→¬ I0 j→L[j]?=L0[j]?
 len:L0.length+4≤L.length
 b0:L[L0.length+0]?=some (.arr 7 0 [.agg [.int .u64 (0:Nat),.int .i64 ((n+1:Nat):Int),.int .i64 0,.int .i64 0,.int .i64 0,.str [],.lit (ts.map Tr.av)]])
 b1:L[L0.length+1]?=some (.arr 5 0 [.agg [.int .u64 0,.int .i64 0,.int .i64 0,.int .i64 0,.int .i64 0]])
 b2:L[L0.length+2]?=some (.arr 3 0 [.agg [.int .i64 ((n+1:Nat):Int),.str [],kvV A.length kx i]])
 b3:L[L0.length+3]?=some (.arr 3 0 [(QE ((l.take i).map Kid.m)).av])
 kb:i≠0→L[kx]?=some (.arr 4 (i-1) ((l.take i).map Kid.av))∧¬ I kx∧L0.length+4≤kx
theorem WInv.next {A:List (Bool × List Blk)} {P:List Blk→ZJ→(Nat→Prop)→Nat→Prop} (hA:∀ {L L' N I p},P L N I p→(∀ i,I i→L'[i]?=L[i]?)→P L' N I p) (hlt:∀ {L N I p i},P L N I p→I i→i<L.length)
 {p:Nat} {L0:List Blk} {I0:Nat→Prop} (h0:∀ j,I0 j→j<L0.length) {n:Nat} {N1:ZJ} {ts:List Tr} {l:List Kid} {i:Nat} {L:List Blk} {N:ZJ} {I:Nat→Prop} {kx:Nat} (h:WInv A P p L0 I0 n N1 ts l i L N I kx) (hi:i<ts.length)
 {k:Kid} {N2:ZJ} (hd:ZWa (WrH n) N2 (ts.drop (i+1)) N1 (l.drop (i+1))) (hk:l[i]?=some k) (ho:Ord N2) {L1:List Blk} {I1:Nat→Prop} (hp:APost (fun L N I=>P L N I p) L I N2 L1 I1)
 {L3:List Blk} {kx':Nat} (hlen:L1.length≤L3.length) (hkx:(i≠0∧kx'=kx)∨(i=0∧L1.length≤kx')) (hold:∀ j,j<L1.length→j≠L0.length+2→j≠L0.length+3→j≠kx'→L3[j]?=L1[j]?)
 (h2:L3[L0.length+2]?=some (.arr 3 0 [.agg [.int .i64 ((n+1:Nat):Int),.str [],kvV A.length kx' (i+1)]])) (h3:L3[L0.length+3]?=some (.arr 3 0 [(QE ((l.take (i+1)).map Kid.m)).av])) (h4:L3[kx']?=some (.arr 4 i ((l.take (i+1)).map Kid.av))) :
 WInv A P p L0 I0 n N1 ts l (i+1) L3 N2 I1 kx':=by
 have hI:∀ j,I j→j<L.length:=fun j hj=>hlt h.p hj
 have own1:∀ j,I1 j→I0 j∨L0.length+4≤j:=by
  intro j hj
  rcases hp.own j hj with q|q
  ·exact h.own j q
  ·have:=h.len;exact .inr (by omega)
 have hlen0:=h.len
 have hlen1:=hp.len
 have nkx:¬ I1 kx':=by
  intro q
  have hq:=hlt hp.p q
  rcases hkx with ⟨w1,rfl⟩|⟨w1,w2⟩
  ·obtain ⟨k1,k2,k3⟩:=h.kb w1
   rcases hp.own _ q with w|w
   ·exact k2 w
   ·have:=(List.getElem?_eq_some_iff.1 k1).1;omega
  ·omega
 have kge:L0.length+4≤kx':=by
  rcases hkx with ⟨w1,rfl⟩|⟨w1,w2⟩
  ·exact (h.kb w1).2.2
  ·omega
 have keep:∀ j,j<L0.length+2→¬ I0 j→L3[j]?=L[j]?:=by
  intro j hj hn
  rw [hold j (by omega) (by omega) (by omega) (by omega),hp.old j (by omega) (fun q=>by
   rcases h.own j q with w|w
   ·exact hn w
   ·omega)]
 have nI0:∀ j,L0.length≤j→¬ I0 j:=fun j hj q=>by have:=h0 j q;omega
 refine ⟨hA hp.p (fun j hj=>?_),hi,hd,ho,own1,fun j hj hn=>?_,by omega,?_,?_,h2,h3,fun _=>⟨h4,nkx,kge⟩⟩
 ·refine hold j (hlt hp.p hj) ?_ ?_ (fun q=>nkx (q▸hj))
  ·intro q;rcases own1 j hj with w|w
   ·have:=h0 j w;omega
   ·omega
  ·intro q;rcases own1 j hj with w|w
   ·have:=h0 j w;omega
   ·omega
 ·rw [keep j (by omega) hn];exact h.old j hj hn
 ·rw [keep _ (by omega) (nI0 _ (by omega))];exact h.b0
 ·rw [keep _ (by omega) (nI0 _ (by omega))];exact h.b1
theorem Zhv {a b:Nat} (h:a≠b):Nat.beq a b=false:=by
 cases h':Nat.beq a b
 ·rfl
 ·exact absurd (Nat.eq_of_beq_eq_true h') h
theorem w13 {k:List Fr} {Q:Yv} {A:List (Bool × List Blk)} {L2:List Blk} {f v3 v4 v6 iv:AV} {jm rx:Nat} {mb mr ml:Int} {r:Ro} (h3:L2[jm]?=some (.arr 3 0 [.agg [.int .i64 mb,.int .i64 mr,.int .i64 ml]])) (h9:L2[rx]?=some (.arr 5 0 [r.av])) (hne:Nat.beq rx jm=false)
 (hb:0≤mb∧mb≤262144∧0≤mr∧mr≤262144∧0≤ml∧ml≤262144) (hr:0≤r.m.b∧r.m.b≤65536∧0≤r.m.r∧r.m.r≤65536∧0≤r.m.l∧r.m.l≤65536)
 (h:Rk (S Tb) k Q .norm [(0,f),(3,v3),(4,v4),(6,v6),(7,.ptr A.length jm 0 0 0),(8,iv)] ⟨A,false,L2.set jm (.arr 3 0 [.agg [.int .i64 (mb+r.m.b),.int .i64 (mr+r.m.r),.int .i64 (ml+r.m.l)]])⟩) :
 Ru (S Tb) X8 k Q [(0,f),(3,v3),(4,v4),(6,v6),(7,.ptr A.length jm 0 0 0),(8,iv),(9,.ptr A.length rx 0 0 0)] ⟨A,false,L2⟩:=by
 have hlt:=(List.getElem?_eq_some_iff.1 h3).1
 unfold Ro.av at h9
 repeat' (first|refine ZS rfl h3 rfl rfl ?_|refine ZS rfl h9 rfl rfl ?_|refine ZJ4 rfl rfl hne h9 rfl rfl ?_|refine ZQ5 h3 rfl rfl rfl rfl rfl rfl rfl ?_|refine ZC ?_|refine ZO rfl rfl ?_|refine Zi rfl rfl (by omega) ?_)
 refine ZQ5 (List.getElem?_set_self hlt) rfl rfl rfl rfl rfl rfl rfl ?_
 rw [List.set_set]
 repeat' (refine ZO rfl rfl ?_)
 refine Qn (List.getElem?_set_self hlt) rfl rfl rfl rfl rfl ?_
 rw [List.set_set]
 refine ZB rfl ?_
 exact h
theorem Zhw {A:List (Bool × List Blk)} {g:FuncId} {P:List Blk→ZJ→(Nat→Prop)→Nat→Prop} (hA:Allocs A g P) {p n:Nat}
 (ih:∀ N t N' k,WrH n N t N' k→Ord N→N'.length≤700→∀ L I,P L N I p→∃ L' I',S Tb Z9 [.func (.func g) [.ptr A.length p 0 0 0] [],t.av] ⟨A,false,L⟩=some (.tup [Ro.av ⟨k.at_,n,k.m⟩,.int .i64 0],⟨A,false,L'⟩)∧APost (fun L N I=>P L N I p) L I N' L' I')
 {N N':ZJ} {t:Tr} {k:Kid} (hw:WrH (n+1) N t N' k) (ho:Ord N) (hl:N'.length≤700) {L:List Blk} {I:Nat→Prop} (hP:P L N I p) :
 ∃ L' I',S Tb Z9 [.func (.func g) [.ptr A.length p 0 0 0] [],t.av] ⟨A,false,L⟩=some (.tup [Ro.av ⟨k.at_,n+1,k.m⟩,.int .i64 0],⟨A,false,L'⟩)∧APost (fun L N I=>P L N I p) L I N' L' I':=by
 obtain ⟨ts,N1,l,rfl,hts,hn,hch,hll,hkid,hsum,hlive,rfl,rfl⟩:=hw
 have hZ:=fun st=>ZYj (.mk 0 (n+1) .zero [] (some ts)) ⟨rfl,rfl,rfl,Nat.succ_le_succ (Nat.zero_le _),by simp only [Tr.h];omega,hts.1,hts.2⟩ st
 have hM:=fun st=>ZOa [] (by decide) st
 have hlen1:N1.length<700:=by simp at hl;omega
 have hfit:∀ i,(QE ((l.take i).map Kid.m)).Fit 262144:=by
  intro i
  have:=ZE1 (l:=(l.take i).map Kid.m) (fun m hm=>by obtain ⟨k,hk,rfl⟩:=List.mem_map.1 hm;exact (hkid k (List.mem_of_mem_take hk)).fit)
  have hle:((l.take i).map Kid.m).length≤4:=by rw [List.length_map,List.length_take];omega
  obtain ⟨a,b,c,d,e,f⟩:=this
  exact ⟨a,by omega,c,by omega,e,by omega⟩
 have hlm:(ts.map Tr.av).length=ts.length:=List.length_map _
 suffices h:Sp Tb Z9 [.func (.func g) [.ptr A.length p 0 0 0] [],(Tr.mk 0 (n+1) .zero [] (some ts)).av] ⟨A,false,L⟩ fun v st'=>v=.tup [Ro.av ⟨hd N1,n+1,QE (l.map Kid.m)⟩,.int .i64 0]∧∃ L' I',st'=⟨A,false,L'⟩∧APost (fun L N I=>P L N I p) L I (N1++[(hd N1,⟨n+1,[],some l⟩)]) L' I' by
  obtain ⟨v,st',h1,rfl,L',I',rfl,h2⟩:=h
  exact ⟨L',I',h1,h2⟩
 refine ZTX rfl ?_
 have e0:∀ L:List Blk,(⟨A,false,L⟩:St)=⟨A,false,L++[]⟩:=fun L=>by rw [List.append_nil]
 rw [e0]
 simp only [Tr.av,Tr.avO,Tr.avL_map,Mea.zero] at hZ ⊢
 simp only [ZhZ,Mea.zero,Mea.av] at hM
 repeat' (first|refine Yp rfl rfl rfl rfl rfl ?_|refine Jl rfl rfl rfl rfl ?_|refine Yl rfl rfl rfl rfl rfl rfl rfl ?_|refine ZE ?_|refine ZC ?_|refine ZF rfl ?_|refine ZO rfl rfl ?_|refine ZB rfl ?_|refine ZA ?_|(refine Zu rfl rfl (fun _=>?_) (fun _=>?_)<;>try (exfalso;omega))|refine ZG rfl ?_|refine Zf rfl rfl rfl ?_|refine ZD rfl rfl rfl (hZ _) ?_|refine ZD rfl rfl rfl (hM _) ?_|refine ZI ?_|refine ZL ?_)
 obtain ⟨T,hT⟩:∃ T:List Blk,T=[.arr 7 0 [.agg [.int .u64 (0:Nat),.int .i64 ((n+1:Nat):Int),.int .i64 0,.int .i64 0,.int .i64 0,.str [],.lit (ts.map Tr.av)]],.arr 5 0 [.agg [.int .u64 0,.int .i64 0,.int .i64 0,.int .i64 0,.int .i64 0]],.arr 3 0 [.agg [.int .i64 ((n+1:Nat):Int),.str [],.nils]],.arr 3 0 [.agg [.int .i64 0,.int .i64 0,.int .i64 0]]]:=⟨_,rfl⟩
 refine Zq (α:=Nat × List Blk × ZJ × (Nat→Prop) × Nat) (fun q=>[(0,.func (.func g) [.ptr A.length p 0 0 0] []),(3,.ptr A.length (L.length+0) 0 0 0),(4,.ptr A.length (L.length+1) 0 0 0),(6,.ptr A.length (L.length+2) 0 0 0),(7,.ptr A.length (L.length+3) 0 0 0),(8,.int .i64 q.1)])
  (fun q=>⟨A,false,q.2.1⟩) (fun q=>WInv A P p L I n N1 ts l q.1 q.2.1 q.2.2.1 q.2.2.2.1 q.2.2.2.2) (fun q=>ts.length-q.1) (0,L++T,N,I,0) rfl (by rw [hT];rfl) ?_ ?_
 ·have gT:∀ i,(L++T)[L.length+i]?=T[i]?:=fun i=>Jh
  refine ⟨hA.frame hP (fun i hi=>List.getElem?_append_left (hA.lt hP hi)),Nat.zero_le _,hch,ho,fun j hj=>.inl hj,fun j hj _=>List.getElem?_append_left hj,by rw [hT];simp,?_,?_,?_,?_,fun q=>absurd rfl q⟩
  ·rw [gT 0,hT];rfl
  ·rw [gT 1,hT];rfl
  ·rw [gT 2,hT];rfl
  ·rw [gT 3,hT];rfl
 rintro ⟨i,Li,Ni,Ii,kx⟩ inv
 simp only at inv ⊢
 have b0:=inv.b0
 have hle:=inv.le
 repeat' (first|refine ZS rfl b0 rfl rfl ?_|refine Zc3 rfl ?_|refine ZE ?_|refine ZC ?_|refine ZF rfl ?_|refine ZO rfl rfl ?_|refine ZB rfl ?_|refine ZA ?_|(refine Zh rfl rfl (fun _=>?_) (fun _=>?_)<;>try (exfalso;omega))|refine ZU rfl ?_|refine ZG rfl ?_|refine Qr rfl rfl (by omega) Z6 (fun _ _=>?_)|refine QQ rfl (Zr _) ?_|refine ZI ?_|refine Zo ?_|refine ZL ?_|refine Za ?_|refine ZY rfl ?_|refine Zj ?_)
 ·rename_i hlt t ht
  have ht':ts[i]?=some t:=by rw [show i=((i:Nat):Int).toNat by omega];exact ht
  have hlt':i<ts.length:=by omega
  have hc0:=inv.chain
  rw [ZZU ht'] at hc0
  obtain ⟨N2,k,l1,hw,hc2,hl1⟩:=hc0
  have hk:l[i]?=some k:=by rw [← List.head?_drop,hl1];rfl
  have hl2:l.drop (i+1)=l1:=by
   have:=ZZU hk
   rw [hl1] at this
   exact ((List.cons.inj this).2).symm
  rw [← hl2] at hc2
  have hmono:=ZMc (ZfF n) _ _ _ _ hc2
  have ho2:=ZkU _ _ _ _ _ hw inv.ord
  obtain ⟨L1,I1,hS,hp⟩:=ih Ni t N2 k hw inv.ord (by omega) Li Ii inv.p
  have hI0:∀ j,I j→j<L.length:=fun j hj=>hA.lt hP hj
  have hlen:=inv.len
  have hlen1:=hp.len
  have own:∀ c,c<4→L1[L.length+c]?=Li[L.length+c]?:=fun c hc=>hp.old _ (by omega) (fun q=>by
   rcases inv.own _ q with w|w
   ·have:=hI0 _ w;omega
   ·omega)
  have c2:=own 2 (by omega)
  rw [inv.b2] at c2
  have c3:=own 3 (by omega)
  rw [inv.b3] at c3
  have hkf:=(hkid k (List.mem_of_getElem? hk)).fit
  obtain ⟨f1,f2,f3,f4,f5,f6⟩:=hkf
  have hsum1:QE ((l.take (i+1)).map Kid.m)=(QE ((l.take i).map Kid.m)).add k.m:=by
   rw [Zm hk,List.map_append,ZJh];simp [QE,Mea.add_zero]
  obtain ⟨g1,g2,g3,g4,g5,g6⟩:=hfit i
  have hnext:=fun {L3:List Blk} {kx':Nat}=>WInv.next (A:=A) (P:=P) (p:=p) hA.frame hA.lt hI0 inv hlt' hc2 hk ho2 hp (L3:=L3) (kx':=kx')
  rw [hsum1] at hnext
  generalize QE ((l.take i).map Kid.m)=m at *
  obtain ⟨mb,mr,ml⟩:=m
  simp only [Mea.av,Mea.add] at c3 hnext g1 g2 g3 g4 g5 g6
  refine ZD rfl rfl (by first|rfl|(simp only [List.nil_append,List.append_nil,List.cons_append,Zn,ZZ,Zb];rfl)) hS ?_
  rw [e0]
  have c2T:=fun T=>get_left (T:=T) c2
  have c3T:=fun T=>get_left (T:=T) c3
  rcases i with _|i
  ·have c2N:∀ T,(L1++T)[L.length+2]?=some (.arr 3 0 [.agg [.int .i64 ((n+1:Nat):Int),.str [],.nils]]):=c2T
   repeat' (first|refine Yp rfl rfl rfl rfl rfl ?_|refine Jl rfl rfl rfl rfl ?_|refine Yl rfl rfl rfl rfl rfl rfl rfl ?_|refine ZS rfl (c2N _) rfl rfl ?_|refine ZOe rfl rfl (by decide) rfl rfl rfl ?_|refine Qn (c2N _) rfl rfl rfl (Qz _ (Nat.lt_succ_self _)) rfl ?_|refine w13 (r:=⟨k.at_,n,k.m⟩) (mb:=mb) (mr:=mr) (ml:=ml) ?_ ?_ ?_ ⟨g1,g2,g3,g4,g5,g6⟩ ⟨f1,f2,f3,f4,f5,f6⟩ ?_|refine ZE ?_|refine ZC ?_|refine ZF rfl ?_|refine ZO rfl rfl ?_|refine QB rfl rfl ?_|refine ZB rfl ?_|refine ZA ?_|(refine Zu rfl rfl (fun _=>?_) (fun _=>?_)<;>try (exfalso;omega))|refine ZG rfl ?_|refine Zi rfl rfl (by omega) ?_|refine Zf rfl rfl rfl ?_|refine QL rfl rfl rfl rfl ?_|refine ZI ?_|refine Z2 ?_|refine Z4 ?_)
   ·rw [List.getElem?_set_ne (by omega)];exact c3T _
   ·rw [List.getElem?_set_ne (by omega),Jh];rfl
   ·exact Zhv (by omega)
   ·refine ⟨(1,_,N2,I1,L1.length+1),⟨rfl,rfl⟩,hnext (kx':=L1.length+1) ?_ (.inr ⟨rfl,by omega⟩) ?_ ?_ ?_ ?_,by simp only;omega⟩
    ·simp only [List.length_set,List.length_append];omega
    ·intro j j1 j2 j3 j4
     rw [List.getElem?_set_ne (by omega),List.getElem?_set_ne (by omega),List.getElem?_append_left j1]
    ·rw [List.getElem?_set_ne (by omega),List.getElem?_set_self (by simp;omega)];rfl
    ·rw [List.getElem?_set_self (by simp;omega)]
    ·rw [List.getElem?_set_ne (by omega),List.getElem?_set_ne (by omega),Jh]
     have:l.take 1=[k]:=by rw [Zm hk];rfl
     rw [this];rfl
  ·obtain ⟨k1,k2,k3⟩:=inv.kb (by omega)
   have k1':L1[kx]?=some (.arr 4 i ((l.take (i+1)).map Kid.av)):=by
    rw [hp.old _ (List.getElem?_eq_some_iff.1 k1).1 k2];exact k1
   have kxl:=(List.getElem?_eq_some_iff.1 k1').1
   have k1T:=fun T=>get_left (T:=T) k1'
   have ltake:((l.take (i+1)).map Kid.av).length=i+1:=by rw [List.length_map,List.length_take];omega
   have c2N:∀ T,(L1++T)[L.length+2]?=some (.arr 3 0 [.agg [.int .i64 ((n+1:Nat):Int),.str [],.ref A.length kx i 0 (i+1)]]):=c2T
   repeat' (first|refine Yp rfl rfl rfl rfl rfl ?_|refine Jl rfl rfl rfl rfl ?_|refine Yl rfl rfl rfl rfl rfl rfl rfl ?_|refine ZS rfl (c2N _) rfl rfl ?_|refine ZBr rfl rfl (k1T _) ltake.symm (by omega) (by decide) rfl rfl ?_|refine ZE ?_|refine ZC ?_|refine ZF rfl ?_|refine ZO rfl rfl ?_|refine QB rfl rfl ?_|refine ZB rfl ?_|refine ZA ?_|(refine Zu rfl rfl (fun _=>?_) (fun _=>?_)<;>try (exfalso;omega))|refine ZG rfl ?_|refine Zf rfl rfl rfl ?_|refine QL rfl rfl rfl rfl ?_|refine ZI ?_)
   refine Qn (by rw [List.getElem?_set_ne (by omega)];exact c2N _) rfl rfl rfl (Qz _ (Nat.lt_succ_self _)) rfl ?_
   repeat' (first|refine w13 (r:=⟨k.at_,n,k.m⟩) (mb:=mb) (mr:=mr) (ml:=ml) ?_ ?_ ?_ ⟨g1,g2,g3,g4,g5,g6⟩ ⟨f1,f2,f3,f4,f5,f6⟩ ?_|refine ZC ?_|refine ZF rfl ?_|refine ZB rfl ?_|refine ZA ?_|refine Zi rfl rfl (by omega) ?_|refine Z2 ?_|refine Z4 ?_)
   ·rw [List.getElem?_set_ne (by omega),List.getElem?_set_ne (by omega)];exact c3T _
   ·rw [List.getElem?_set_ne (by omega),List.getElem?_set_ne (by omega),Jh];rfl
   ·exact Zhv (by omega)
   ·refine ⟨(i+1+1,_,N2,I1,kx),⟨rfl,rfl⟩,hnext (kx':=kx) ?_ (.inl ⟨by omega,rfl⟩) ?_ ?_ ?_ ?_,by simp only;omega⟩
    ·simp only [List.length_set,List.length_append];omega
    ·intro j j1 j2 j3 j4
     rw [List.getElem?_set_ne (by omega),List.getElem?_set_ne (by omega),List.getElem?_set_ne (by omega),List.getElem?_append_left j1]
    ·rw [List.getElem?_set_ne (by omega),List.getElem?_set_self (by simp;omega)];rfl
    ·rw [List.getElem?_set_self (by simp;omega)]
    ·rw [List.getElem?_set_ne (by omega),List.getElem?_set_ne (by omega),List.getElem?_set_self (by simp;omega),Zm hk,List.map_append];rfl
 ·have hie:i=ts.length:=by omega
  subst hie
  obtain ⟨q,hq⟩:∃ q,ts.length=q+1:=⟨ts.length-1,by omega⟩
  have hch2:=inv.chain
  rw [List.drop_length] at hch2
  obtain ⟨rfl,_⟩:=hch2
  obtain ⟨k1,k2,k3⟩:=inv.kb (by omega)
  have htl:l.take ts.length=l:=List.take_of_length_le (by omega)
  have b2:=inv.b2
  have b3:=inv.b3
  rw [htl] at k1 b3
  rw [show ts.length-1=q by omega] at k1
  have hkr:KRef ⟨A,false,Li⟩ A.length kx q l:=⟨_,ZBU k1,by rw [List.take_of_length_le (by rw [List.length_map];exact Nat.le_refl _)]⟩
  obtain ⟨L2,I2,hS,hp⟩:=hA.inn n l inv.p inv.ord hlen1 hn ⟨by omega,by omega⟩ hkid hsum hlive hkr k2
  have hI0:∀ j,I j→j<L.length:=fun j hj=>hA.lt hP hj
  have hlen:=inv.len
  have hlen2:=hp.len
  have own:∀ c,c<4→L2[L.length+c]?=Li[L.length+c]?:=fun c hc=>hp.old _ (by omega) (fun q=>by
   rcases inv.own _ q with w|w
   ·have:=hI0 _ w;omega
   ·omega)
  have q0:=own 0 (by omega)
  rw [b0] at q0
  have q1:=own 1 (by omega)
  rw [inv.b1] at q1
  have q3:=own 3 (by omega)
  rw [b3] at q3
  unfold Mea.av at q3
  have b2':Li[L.length+2]?=some (.arr 3 0 [.agg [.int .i64 ((n+1:Nat):Int),.str [],.ref A.length kx q 0 l.length]]):=by
   rw [b2,hq,hll,hq];rfl
  unfold ndR at hS
  repeat' (first|refine ZS rfl b2' rfl rfl ?_|refine ZS rfl q0 rfl rfl ?_|refine ZS rfl q3 rfl rfl ?_|refine Qn q1 rfl rfl rfl rfl rfl ?_|refine ZE ?_|refine ZC ?_|refine ZF rfl ?_|refine ZO rfl rfl ?_|refine QB rfl rfl ?_|refine ZB rfl ?_|refine ZA ?_|(refine Zu rfl rfl (fun _=>?_) (fun _=>?_)<;>try (exfalso;omega))|refine ZG rfl ?_|refine Zf rfl rfl rfl ?_|refine ZD rfl rfl rfl (hS) ?_|refine ZI ?_|refine ZQ ?_|refine ZP ?_)
  refine ⟨_,_,ZQY (r:=⟨hd N1,n+1,QE (l.map Kid.m)⟩) (.inr rfl) rfl (List.getElem?_set_self (by omega)) rfl rfl,rfl,_,I2,rfl,⟨hA.frame hp.p (fun i hi=>?_),by rw [List.length_set];omega,fun i h1 h2=>?_,fun i hi=>?_⟩⟩
  ·rw [List.getElem?_set_ne]
   rcases hp.own i hi with w|w
   ·rcases inv.own i w with w|w
    ·have:=hI0 _ w;omega
    ·omega
   ·omega
  ·rw [List.getElem?_set_ne (by omega), hp.old i (by omega) (fun w => by
    rcases inv.own i w with w|w
    ·exact h2 w
    ·omega),inv.old i h1 h2]
  ·rcases hp.own i hi with w|w
   ·rcases inv.own i w with w|w
    ·exact .inl w
    ·exact .inr (by omega)
   ·exact .inr (by omega)
theorem Zjf {A:List (Bool × List Blk)} {g:FuncId} {P:List Blk→ZJ→(Nat→Prop)→Nat→Prop} (hA:Allocs A g P) {p:Nat}:∀ n N t N' k,WrH n N t N' k→Ord N→N'.length≤700→∀ L I,P L N I p →
 ∃ L' I',S Tb Z9 [.func (.func g) [.ptr A.length p 0 0 0] [],t.av] ⟨A,false,L⟩=some (.tup [Ro.av ⟨k.at_,n,k.m⟩,.int .i64 0],⟨A,false,L'⟩)∧APost (fun L N I=>P L N I p) L I N' L' I':=by
 intro n
 induction n with
 | zero=>intro N t N' k hw ho hl L I hP;exact ZeV hA hw ho hl hP
 | succ n ih=>intro N t N' k hw ho hl L I hP;exact Zhw hA ih hw ho hl hP
end Go.Q15
namespace Go.Q15
open Go Go.QAbs
set_option maxRecDepth 100000
set_option maxHeartbeats 8000000
def PA (A:List (Bool × List Blk)) (L:List Blk) (N:ZJ) (I:Nat→Prop) (p:Nat):Prop:=∃ b,p=b+5∧Has ⟨A,false,L⟩ A.length b (Xh N)∧∀ i,I i↔(b≤i∧i≤b+5)
def PB (A:List (Bool × List Blk)) (L:List Blk) (N:ZJ) (I:Nat→Prop) (p:Nat):Prop:=∃ b it,p=b+4∧RHas A L b it N∧∀ i,I i↔((b≤i∧i≤b+4)∨(N≠[]∧i=it))
theorem ZBd {A:List (Bool × List Blk)} {L L':List Blk} {i:Nat} {o:Option Blk} (h:St.get ⟨A,false,L⟩ A.length i=o) (e:L'[i]?=L[i]?):St.get ⟨A,false,L'⟩ A.length i=o:=by
 rw [St.get_cur] at h ⊢;rw [e];exact h
theorem Has.frame {A:List (Bool × List Blk)} {L L':List Blk} {b:Nat} {r:AR} (h:Has ⟨A,false,L⟩ A.length b r) (h0:∀ i,b≤i→i≤b+5→L'[i]?=L[i]?):Has ⟨A,false,L'⟩ A.length b r :=
 ⟨by simp [St.wr],ZBd h.h0 (h0 _ (by omega) (by omega)),ZBd h.h1 (h0 _ (by omega) (by omega)),ZBd h.h2 (h0 _ (by omega) (by omega)),ZBd h.h3 (h0 _ (by omega) (by omega)),ZBd h.h4 (h0 _ (by omega) (by omega)),ZBd h.h5 (h0 _ (by omega) (by omega))⟩
theorem Has.lt {A:List (Bool × List Blk)} {L:List Blk} {b:Nat} {r:AR} (h:Has ⟨A,false,L⟩ A.length b r):b+5<L.length:=by
 have:=h.h5
 rw [St.get_cur] at this
 exact ZUL this
theorem ZQZ {A:List (Bool × List Blk)} {L:List Blk} {b s g:Nat} {r:AR} {x:Nd}:ZBT ⟨A,false,L⟩ A.length b r s g x=⟨A,false,(((L.set (b+3) ((r.take s).b3 A.length b)).set b (r.take s).b0).set (b+4) (r.alloc s g x).b4).set (b+5) ((r.alloc s g x).b5 A.length b)⟩:=by
 unfold ZBT QY
 rw [ZJ8,ZJ8,ZJ8,ZJ8]
theorem ZE5 (A:List (Bool × List Blk)):Allocs A JQ (PA A):=by
 have fin:∀ {L:List Blk} {N:ZJ} {I:Nat→Prop} {b:Nat} (x:Nd),Has ⟨A,false,L⟩ A.length b (Xh N)→(∀ i,I i↔(b≤i∧i≤b+5))→N.length<700 →
  APost (fun L N I=>PA A L N I (b+5)) L I (N++[(hd N,x.copy)]) ((((L.set (b+3) (((Xh N).take N.length).b3 A.length b)).set b ((Xh N).take N.length).b0).set (b+4) ((Xh N).alloc N.length 1 x).b4).set (b+5) (((Xh N).alloc N.length 1 x).b5 A.length b)) I:=by
  intro L N I b x h hI hl
  refine ⟨⟨b,rfl,?_,hI⟩,by simp,fun i h1 h2=>?_,fun i hi=>.inl hi⟩
  ·have:=h.alloc N.length 1 x
   rw [ZQZ] at this
   rw [← ZeU N x hl]
   exact this
  ·have:¬ (b≤i∧i≤b+5):=fun q=>h2 ((hI i).2 q)
   rw [List.getElem?_set_ne (by omega),List.getElem?_set_ne (by omega),List.getElem?_set_ne (by omega),List.getElem?_set_ne (by omega)]
 refine ⟨?_,?_,?_,?_⟩
 ·rintro L L' N I p ⟨b,rfl,h,hI⟩ hf
  exact ⟨b,rfl,h.frame (fun i h1 h2=>hf i ((hI i).2 ⟨h1,h2⟩)),hI⟩
 ·rintro L N I p i ⟨b,rfl,h,hI⟩ hi
  have:=h.lt
  have:=(hI i).1 hi
  omega
 ·rintro L N I p s ⟨b,rfl,h,hI⟩ ho hl hs
  have:=ZeO h (Zc0 ho hl) s hs
  rw [ZQZ] at this
  exact ⟨_,I,this,fin ⟨0,s,none⟩ h hI hl⟩
 ·rintro L N I p n ks kx ver ⟨b,rfl,h,hI⟩ ho hl hn hk hs hsum hL hr hne
  have:=Zhp h (Zc0 ho hl) n hn ks hk hs hsum hL hr (fun q=>hne ((hI kx).2 (by omega)))
  rw [ZQZ] at this
  exact ⟨_,I,this,fin ⟨n+1,[],some ks⟩ h hI hl⟩
theorem ZE6 (A:List (Bool × List Blk)):Allocs A QD (PB A):=by
 have fin:∀ {L L':List Blk} {N:ZJ} {I:Nat→Prop} {b it it':Nat} {x:Nd},RHas A L b it N→(∀ i,I i↔((b≤i∧i≤b+4)∨(N≠[]∧i=it)))→RPost A L b it N x L' it' →
  APost (fun L N I=>PB A L N I (b+4)) L I (N++[(hd N,x)]) L' (fun i=>(b≤i∧i≤b+4)∨i=it'):=by
  intro L L' N I b it it' x h hI hp
  refine ⟨⟨b,it',rfl,hp.has,fun i=>⟨fun q=>?_,fun q=>?_⟩⟩,Nat.le_of_lt hp.len,fun i h1 h2=>?_,fun i hi=>?_⟩
  ·rcases q with q|q
   ·exact .inl q
   ·exact .inr ⟨by simp,q⟩
  ·rcases q with q|q
   ·exact .inl q
   ·exact .inr q.2
  ·have h3:¬ (b≤i∧i≤b+4):=fun q=>h2 ((hI i).2 (.inl q))
   refine hp.old i h1 (by omega) ?_
   by_cases q:N=[]
   ·exact .inl q
   ·exact .inr (fun w=>h2 ((hI i).2 (.inr ⟨q,w⟩)))
  ·rcases hi with q|q
   ·exact .inl ((hI i).2 (.inl q))
   ·rcases hp.it with ⟨w1,w2⟩|w
    ·exact .inl ((hI i).2 (.inr ⟨w1,by omega⟩))
    ·exact .inr (by omega)
 refine ⟨?_,?_,?_,?_⟩
 ·rintro L L' N I p ⟨b,it,rfl,h,hI⟩ hf
  exact ⟨b,it,rfl,h.frame (fun i h1 h2=>hf i ((hI i).2 (.inl ⟨h1,h2⟩))) (fun q=>hf it ((hI it).2 (.inr ⟨q,rfl⟩))),hI⟩
 ·rintro L N I p i ⟨b,it,rfl,h,hI⟩ hi
  rcases (hI i).1 hi with q|⟨q1,q2⟩
  ·have:=(List.getElem?_eq_some_iff.1 h.h4).1;omega
  ·have:=(List.getElem?_eq_some_iff.1 (h.hi q1)).1;omega
 ·rintro L N I p s ⟨b,it,rfl,h,hI⟩ ho hl hs
  obtain ⟨L',it',h1,h2⟩:=Zc4 h hl s hs
  exact ⟨L',_,h1,fin h hI h2⟩
 ·rintro L N I p n ks kx ver ⟨b,it,rfl,h,hI⟩ ho hl hn hk hs hsum hL hr hne
  have:¬ (b≤kx∧kx≤b+4):=fun q=>hne ((hI kx).2 (.inl q))
  obtain ⟨L',it',h1,h2⟩:=ZgI h hl n hn ks hk hs hsum hL hr (by omega)
  exact ⟨L',_,h1,fin h hI h2⟩
theorem ZeW {A:List (Bool × List Blk)} {t:Tr} (ht:IsEmpty t) (f:AV) (hf:weak f=f) (L:List Blk):S Tb Z9 [f,t.av] ⟨A,false,L⟩=some (.tup [Ro.zero.av,.int .i64 0],⟨A,false,L++[.arr 7 0 [t.av],.arr 5 0 [Ro.zero.av]]⟩):=by
 have hZ:=fun st=>ZYi t ht st
 obtain ⟨o,h,m,s,k⟩:=t
 have hk:=ht.ks
 obtain ⟨ka,hka,hka2⟩:∃ ka,Tr.avO k=ka∧(ka=.nils∨ka=.lit []):=by
  cases k with
  | none=>exact ⟨_,rfl,.inl rfl⟩
  | some l=>have:l=[]:=hk;subst this;exact ⟨_,rfl,.inr rfl⟩
 refine ZO2 rfl ?_
 have e0:∀ L:List Blk,(⟨A,false,L⟩:St)=⟨A,false,L++[]⟩:=fun L=>by rw [List.append_nil]
 rw [e0 L]
 simp only [Tr.av,hka] at *
 rcases hka2 with rfl|rfl
 all_goals repeat' (first|refine Yp rfl rfl rfl rfl rfl ?_|refine Jl rfl rfl rfl rfl ?_|refine Yl rfl rfl rfl rfl rfl rfl rfl ?_|refine ZE ?_|refine ZC ?_|refine ZF rfl ?_|refine ZB rfl ?_|refine ZA ?_|refine ZU rfl ?_|refine Zf rfl rfl rfl ?_|refine ZD rfl rfl rfl (hZ _) ?_|refine ZQ ?_|refine ZP ?_|refine ZX ?_)
 all_goals refine ZQY (r:=Ro.zero) (ix:=L.length+1) (ver:=0) (.inr rfl) rfl ?_ rfl rfl
 all_goals rw [Jh]
 all_goals rfl
end Go.Q15
namespace Go.Q15
open Go Go.QAbs
set_option maxRecDepth 100000
set_option maxHeartbeats 8000000
def RootOk (N:ZJ) (r:Ro):Prop:=r=.zero∨∃ x,lk N r.at_=some x∧NdOk x∧r.at_≠0∧x.h=r.h∧x.mea=r.m
theorem RootOk.mono {N T:ZJ} {r:Ro} (h:RootOk N r):RootOk (N++T) r:=by
 rcases h with h|⟨x,h1,h2⟩
 ·exact .inl h
 ·exact .inr ⟨x,ZTa h1,h2⟩
theorem ZgJ {t:Tr} (ht:VE [] t) {N:ZJ} (hN:GoodN N) (ho:Ord N) (hb:4*(N.length:Int)+t.bytes+4≤2800) :
 ∃ N' r T,N'=N++T∧GoodN N'∧Ord N'∧RootOk N' r∧r.m.b=t.bytes∧4*(N'.length:Int)≤4*N.length+t.bytes+4 ∧
  ∀ (A:List (Bool × List Blk)) (g:FuncId) (P:List Blk→ZJ→(Nat→Prop)→Nat→Prop),Allocs A g P→∀ L I p,P L N I p →
   ∃ L' I',S Tb Z9 [.func (.func g) [.ptr A.length p 0 0 0] [],t.av] ⟨A,false,L⟩=some (.tup [r.av,.int .i64 0],⟨A,false,L'⟩)∧APost (fun L N I=>P L N I p) L I N' L' I':=by
 rcases ht with ht|hv
 ·refine ⟨N,.zero,[],by simp,hN,ho,.inl rfl,ht.bytes.symm,by rw [ht.bytes];omega,fun A g P hA L I p hP=>?_⟩
  refine ⟨_,I,ZeW ht _ rfl L,hA.frame hP (fun i hi=>List.getElem?_append_left (hA.lt hP hi)),by simp,fun i h1 _=>List.getElem?_append_left h1,fun i hi=>.inl hi⟩
 ·obtain ⟨N',k,T,w⟩:=Zkt t.h t hv rfl N hN ho (by omega)
  have hf:=w.few
  have hlen:N'.length=N.length+T.length:=by rw [w.app,List.length_append]
  obtain ⟨y,y1,y2,y3,y4⟩:=w.live
  refine ⟨N',⟨k.at_,t.h,k.m⟩,T,w.app,w.good,w.ord,.inr ⟨y,y1,y2,?_,y3,y4⟩,w.bytes,by omega,fun A g P hA L I p hP=>?_⟩
  ·intro q;exact absurd w.hnd.2.1 (by simp only at q;rw [q];decide)
  ·exact Zjf hA t.h N t N' k w.wr ho (by omega) L I hP
def rvV (lv kx:Nat):List Ro→AV
 | []=>.nils
 | r::rs=>.ref lv kx rs.length 0 (rs.length+1)
structure LInv (A:List (Bool × List Blk)) (L0:List Blk) (texts:List (List UInt8)) (i:Nat) (L:List Blk) (N:ZJ) (Ia Ib:Nat→Prop) (rs:List Ro) (kx:Nat):Prop where
 pa:PA A L N Ia (L0.length+6)
 pb:PB A L N Ib (L0.length+11)
 dis:∀ j,Ia j→¬ Ib j
 good:GoodN N
 ord:Ord N
 le:i≤texts.length
 few:4*N.length≤((texts.take i).map List.length).sum+4*i
 rlen:rs.length=i
 roots:∀ r∈rs,RootOk N r
 rb:∀ (j:Nat) (r:Ro) (s:List UInt8),rs[j]?=some r→texts[j]?=some s→r.m.b=s.length
 owna:∀ j,Ia j→L0.length+1≤j∧j≠L0.length+12
 ownb:∀ j,Ib j→L0.length+1≤j∧j≠L0.length+12
 old:∀ j,j<L0.length→L[j]?=L0[j]?
 len:L0.length+13≤L.length
 b2:L[L0.length+0]?=some (.arr 3 0 [.agg [.nilptr,.nilptr,.nils]])
 b8:L[L0.length+12]?=some (.arr 3 0 [.agg [.ptr A.length (L0.length+6) 0 0 0,.ptr A.length (L0.length+11) 0 0 0,rvV A.length kx rs]])
 kb:rs≠[]→L[kx]?=some (.arr 5 (rs.length-1) (rs.map Ro.av))∧¬ Ia kx∧¬ Ib kx∧L0.length+13≤kx
theorem Zj5 (r:Ro):eqV [(0,0),(1,0),(2,0),(3,0),(4,0)] 0 r.av r.av=some true:=by
 show (if decide ((r.at_:Int)=r.at_)=true then (if decide ((r.h:Int)=r.h)=true then (if decide (r.m.b=r.m.b)=true then (if decide (r.m.r=r.m.r)=true then (if decide (r.m.l=r.m.l)=true then some true else some false) else some false) else some false) else some false) else some false)=_
 simp
theorem ZZX {b lv i j:Nat} (st:St) (h:lv<b):Zc QN b st (.agg [.ptr lv i 0 0 0,.ptr lv j 0 0 0,.nils])=some (.agg [.ptr lv i 0 0 0,.ptr lv j 0 0 0,.nils],st):=by
 simp only [Zc,QN,mapSt,keepN,ZAM,Option.bind_some,if_pos h,ZAG,ZWr,Bool.false_eq_true,if_false,if_true]
theorem ZWf {b lv i j kx w n:Nat} (st:St) (h:lv<b):Zc QN b st (.agg [.ptr lv i 0 0 0,.ptr lv j 0 0 0,.ref lv kx w 0 n])=some (.agg [.ptr lv i 0 0 0,.ptr lv j 0 0 0,.ref lv kx w 0 n],st):=by
 simp only [Zc,QN,mapSt,keepN,ZAM,Option.bind_some,if_pos h,ZAG,ZWr,Bool.false_eq_true,if_false,if_true]
theorem ZZY {e:Env} {A:List (Bool × List Blk)} {L:List Blk} {x:Ex} {b c ix ver:Nat} {u1 u2 u3 y u:AV} (hx:x=.norm∨x=.ret) (hb:J5 e b=some (.ptr A.length ix ver 0 0)) (hg:L[ix]?=some (.arr 3 ver [.agg [u1,u2,u3]])) (hc:J5 e c=some y) (hu:.tup [.agg [u1,u2,u3],y]=u):Jq true [.c b true 3,.s c] (x,e,⟨A,false,L⟩)=some (u,⟨A,false,L⟩):=by
 subst hu
 have h1:ZBi ⟨A,false,L⟩ e (.c b true 3)=some (.agg [u1,u2,u3]):=by
  simp only [ZBi,QP hb,loadP,St.get_cur,hg,vis,ZIX,if_true,List.getElem?_cons_zero,Option.bind_some]
  rfl
 have h2:Qk ⟨A,false,L⟩ e [.c b true 3,.s c]=some (.tup [.agg [u1,u2,u3],y]):=by
  simp only [Qk,ZDu,h1,Option.bind_some]
  simp only [ZBi,QP hc,Option.bind_some,Option.map_some,ZIZ]
 rcases hx with rfl|rfl<;>simp only [Jq,h2,Option.bind_some,if_true,QV]
theorem LInv.next {A:List (Bool × List Blk)} {L0:List Blk} {texts:List (List UInt8)} {i:Nat} {L:List Blk} {N:ZJ} {Ia Ib:Nat→Prop} {rs:List Ro} {kx:Nat} (inv:LInv A L0 texts i L N Ia Ib rs kx) {s:List UInt8} (hs:texts[i]?=some s)
 {N' T:ZJ} {r:Ro} (happ:N'=N++T) (hgood:GoodN N') (hord:Ord N') (rok:RootOk N' r) (rb:r.m.b=s.length) (few:4*(N'.length:Int)≤4*N.length+s.length+4)
 {L1 L2 L3:List Blk} {Ia' Ib':Nat→Prop} {b10 b11:Blk} (ha:APost (fun L N I=>PA A L N I (L0.length+6)) (L++[b10]) Ia N' L1 Ia') (hb:APost (fun L N I=>PB A L N I (L0.length+11)) (L1++[b11]) Ib N' L2 Ib')
 {kx':Nat} (hlen:L2.length≤L3.length) (hkx:(rs≠[]∧kx'=kx)∨(rs=[]∧L2.length≤kx')) (hold:∀ j,j<L2.length→j≠L0.length+12→j≠kx'→L3[j]?=L2[j]?)
 (h8:L3[L0.length+12]?=some (.arr 3 0 [.agg [.ptr A.length (L0.length+6) 0 0 0,.ptr A.length (L0.length+11) 0 0 0,rvV A.length kx' (rs++[r])]])) (hkb:L3[kx']?=some (.arr 5 rs.length ((rs++[r]).map Ro.av))) :
 LInv A L0 texts (i+1) L3 N' Ia' Ib' (rs++[r]) kx':=by
 have hil:=(List.getElem?_eq_some_iff.1 hs).1
 have l1:=ha.len
 have l2:=hb.len
 rw [List.length_append,List.length_singleton] at l1 l2
 have len:=inv.len
 have ltA:∀ j,Ia j→j<L.length:=fun j h=>(ZE5 A).lt inv.pa h
 have ltB:∀ j,Ib j→j<L.length:=fun j h=>(ZE6 A).lt inv.pb h
 have ltA':∀ j,Ia' j→j<L1.length:=fun j h=>(ZE5 A).lt ha.p h
 have ltB':∀ j,Ib' j→j<L2.length:=fun j h=>(ZE6 A).lt hb.p h
 have ownA:∀ j,Ia' j→Ia j∨L.length+1≤j:=fun j h=>by have:=ha.own j h;rw [List.length_append,List.length_singleton] at this;exact this
 have ownB:∀ j,Ib' j→Ib j∨L1.length+1≤j:=fun j h=>by have:=hb.own j h;rw [List.length_append,List.length_singleton] at this;exact this
 have nAB:∀ j,Ia' j→¬ Ib j:=fun j h q=>by
  rcases ownA j h with w|w
  ·exact inv.dis j w q
  ·have:=ltB j q;omega
 have kx1:¬ Ia' kx'∧¬ Ib' kx'∧L0.length+13≤kx':=by
  rcases hkx with ⟨w,rfl⟩|⟨w,w2⟩
  ·obtain ⟨k1,k2,k3,k4⟩:=inv.kb w
   have:=(List.getElem?_eq_some_iff.1 k1).1
   refine ⟨fun q=>?_,fun q=>?_,k4⟩
   ·rcases ownA _ q with w|w
    ·exact k2 w
    ·omega
   ·rcases ownB _ q with w|w
    ·exact k3 w
    ·omega
  ·refine ⟨fun q=>?_,fun q=>?_,by omega⟩
   ·have:=ltA' _ q;omega
   ·have:=ltB' _ q;omega
 have oA:∀ j,Ia' j→L0.length+1≤j∧j≠L0.length+12:=fun j h=>by
  rcases ownA j h with w|w
  ·exact inv.owna j w
  ·omega
 have oB:∀ j,Ib' j→L0.length+1≤j∧j≠L0.length+12:=fun j h=>by
  rcases ownB j h with w|w
  ·exact inv.ownb j w
  ·omega
 have e21:∀ j,j<L1.length→¬ Ib j→L2[j]?=L1[j]?:=fun j h1 h2=>by
  rw [hb.old j (by rw [List.length_append];omega) h2,List.getElem?_append_left h1]
 have e10:∀ j,j<L.length→¬ Ia j→L1[j]?=L[j]?:=fun j h1 h2=>by
  rw [ha.old j (by rw [List.length_append];omega) h2,List.getElem?_append_left h1]
 have e30:∀ j,j<L0.length+1→L3[j]?=L[j]?:=fun j hj=>by
  have nb:¬ Ib j:=fun q=>by have:=inv.ownb j q;omega
  have na:¬ Ia j:=fun q=>by have:=inv.owna j q;omega
  rw [hold j (by omega) (by omega) (by omega),e21 j (by omega) nb,e10 j (by omega) na]
 refine ⟨(ZE5 A).frame ha.p (fun j hj=>?_),(ZE6 A).frame hb.p (fun j hj=>hold j (ltB' j hj) (oB j hj).2 (fun q=>kx1.2.1 (q▸hj))),fun j h1 h2=>?_,hgood,hord,hil,?_,by simp [inv.rlen],fun q hq=>?_,fun j q s' hj hs'=>?_,oA,oB,fun j hj=>by rw [e30 j (by omega)];exact inv.old j hj,by omega,by rw [e30 _ (by omega)];exact inv.b2,h8,fun _=>⟨?_,kx1⟩⟩
 ·rw [hold j (by have:=ltA' j hj;omega) (oA j hj).2 (fun q=>kx1.1 (q▸hj)),e21 j (ltA' j hj) (nAB j hj)]
 ·rcases ownB j h2 with w|w
  ·exact nAB j h1 w
  ·have:=ltA' j h1;omega
 ·have:=inv.few
  rw [Zm hs,List.map_append,List.sum_append]
  simp only [List.map_cons,List.map_nil,List.sum_cons,List.sum_nil]
  omega
 ·rcases List.mem_append.1 hq with w|w
  ·rw [happ];exact (inv.roots q w).mono
  ·rw [List.mem_singleton] at w;rw [w];exact rok
 ·rcases Nat.lt_or_ge j rs.length with w|w
  ·rw [List.getElem?_append_left w] at hj
   exact inv.rb j q s' hj hs'
  ·have : j = rs.length := by
    have:=(List.getElem?_eq_some_iff.1 hj).1
    simp at this;omega
   subst this
   rw [List.getElem?_append_right (Nat.le_refl _),Nat.sub_self] at hj
   have hrl:=inv.rlen
   rw [hrl,hs] at hs'
   have e1:=Option.some.inj hs'
   have e2:r=q:=by simpa using hj
   rw [← e1,← e2];exact rb
 ·rw [hkb];simp
theorem Zkv (texts:List (List UInt8)) (h4:texts.length≤4) (h9:(texts.map List.length).sum≤900) (A:List (Bool × List Blk)) (L0:List Blk) :
 Sp Tb Jt [.lit (texts.map .str)] ⟨A,false,L0⟩ fun v st'=>∃ L N Ia Ib rs kx,LInv A L0 texts texts.length L N Ia Ib rs kx∧v=.tup [.agg [.ptr A.length (L0.length+6) 0 0 0,.ptr A.length (L0.length+11) 0 0 0,rvV A.length kx rs],.bool true]∧∃ X,st'=⟨A,false,L.set (L0.length+0) X⟩:=by
 obtain ⟨L6,hN,l6,h6,o6⟩:∃ L6,S Tb ZDY [.int .i64 700,.int .u64 3] ⟨A,false,L0++[.arr 3 0 [.agg [.nilptr,.nilptr,.nils]]]⟩=some (.tup [.ptr A.length (L0.length+6) 0 0 0,.int .i64 0],⟨A,false,L6⟩)∧L6.length=L0.length+7∧Has ⟨A,false,L6⟩ A.length (L0.length+1) (Xh []) ∧
  ∀ j,j<L0.length+1→L6[j]?=(L0++[.arr 3 0 [.agg [.nilptr,.nilptr,.nils]]])[j]?:=by
  have hN:=ZjT 700 3 ⟨by decide,by decide⟩ ⟨by decide,by decide⟩ A (L0++[.arr 3 0 [.agg [.nilptr,.nilptr,.nils]]])
  have hh:=ZgB 700 3 A (L0++[.arr 3 0 [.agg [.nilptr,.nilptr,.nils]]]) []
  have el:(L0++[Blk.arr 3 0 [.agg [.nilptr,.nilptr,.nils]]]).length=L0.length+1:=by simp
  rw [el] at hN hh
  rw [List.append_nil] at hh
  exact ⟨_,hN,by simp,by rw [Zhs];exact hh,fun j hj=>List.getElem?_append_left (by rw [el];exact hj)⟩
 obtain ⟨L11,hR,l11,h11,o11⟩:∃ L11,S Tb Yn [.int .i64 700,.int .u64 3] ⟨A,false,L6⟩=some (.tup [.ptr A.length (L0.length+11) 0 0 0,.int .i64 0],⟨A,false,L11⟩)∧L11.length=L0.length+12∧RHas A L11 (L0.length+7) 0 [] ∧
  ∀ j,j<L6.length→L11[j]?=L6[j]?:=by
  have hR:=ZkT A L6
  rw [l6] at hR
  have g:=fun i=>Jh (L0:=L6) (T:=[r0 A.length (L0.length+7) 0,r1 0,r2,r3,r4 A.length (L0.length+7) 0 []]) (i:=i)
  rw [l6] at g
  exact ⟨_,hR,by rw [List.length_append,l6];rfl,⟨g 0,g 1,g 2,g 3,g 4,fun q=>absurd rfl q,fun q=>absurd rfl q⟩,fun j hj=>List.getElem?_append_left hj⟩
 have hst:∀ j,j<L0.length+1→L11[j]?=(L0++[.arr 3 0 [.agg [.nilptr,.nilptr,.nils]]])[j]?:=fun j hj=>by rw [o11 j (by omega),o6 j hj]
 have h6':Has ⟨A,false,L11⟩ A.length (L0.length+1) (Xh []):=h6.frame (fun i h1 h2=>o11 i (by omega))
 clear o11 o6 h6
 refine ZTX rfl ?_
 repeat' (first|refine ZE ?_|refine ZC ?_|refine ZF rfl ?_|refine QB rfl rfl ?_|refine ZB rfl ?_|refine ZA ?_|refine Zf rfl rfl rfl ?_|refine Z0 rfl rfl rfl ?_|refine ZD rfl rfl rfl (hN) ?_|refine ZD rfl rfl rfl (hR) ?_)
 refine Yh rfl rfl rfl (ZZX _ (Nat.lt_succ_self _)) rfl rfl ?_
 rw [l11]
 repeat' (first|refine ZE ?_|refine ZC ?_|refine ZF rfl ?_|refine Z8 rfl ?_|refine Zp rfl rfl rfl rfl ?_|refine ZB rfl ?_|refine ZA ?_|(refine Zu rfl rfl (fun _=>?_) (fun _=>?_)<;>try (exfalso;omega))|refine ZG rfl ?_|refine Qm rfl rfl rfl rfl ?_|refine ZI ?_|refine ZL ?_)
 refine Zq (α:=Nat × List Blk × ZJ × (Nat→Prop) × (Nat→Prop) × List Ro × Nat) (fun q=>[(0,.lit (texts.map .str)),(2,.ptr A.length (L0.length+0) 0 0 0),(4,.ptr A.length (L0.length+6) 0 0 0),(6,.ptr A.length (L0.length+11) 0 0 0),(8,.ptr A.length (L0.length+12) 0 0 0),(9,.int .i64 q.1)])
  (fun q=>⟨A,false,q.2.1⟩) (fun q=>LInv A L0 texts q.1 q.2.1 q.2.2.1 q.2.2.2.1 q.2.2.2.2.1 q.2.2.2.2.2.1 q.2.2.2.2.2.2) (fun q=>texts.length-q.1)
  (0,L11++[.arr 3 0 [.agg [.ptr A.length (L0.length+6) 0 0 0,.ptr A.length (L0.length+11) 0 0 0,.nils]]],[],(fun j=>L0.length+1≤j∧j≤L0.length+6),(fun j=>L0.length+7≤j∧j≤L0.length+11),[],0) rfl rfl ?_ ?_
 ·have hle:∀ j,j<L0.length+12→(L11++[Blk.arr 3 0 [.agg [.ptr A.length (L0.length+6) 0 0 0,.ptr A.length (L0.length+11) 0 0 0,.nils]]])[j]?=L11[j]?:=fun j hj=>List.getElem?_append_left (by omega)
  refine ⟨⟨L0.length+1,rfl,h6'.frame (fun i h1 h2=>hle i (by omega)),fun i=>⟨fun q=>by simp only at q;omega,fun q=>by simp only;omega⟩⟩,⟨L0.length+7,0,rfl,h11.frame (fun i h1 h2=>hle i (by omega)) (fun q=>absurd rfl q),fun i=>⟨fun q=>.inl (by simp only at q;omega),fun q=>?_⟩⟩,
   fun j h1 h2=>by simp only at h1 h2;omega,ZOc,ZjZ,Nat.zero_le _,by simp,rfl,fun r hr=>by simp at hr,fun j r s hr=>by simp at hr,fun j hj=>by simp only at hj;omega,fun j hj=>by simp only at hj;omega,fun j hj=>?_,by simp;omega,?_,?_,fun q=>absurd rfl q⟩
  ·rcases q with q|q
   ·simp only;omega
   ·exact absurd rfl q.1
  ·simp only;rw [hle j (by omega),hst j (by omega),List.getElem?_append_left hj]
  ·simp only;rw [hle _ (by omega),hst _ (by omega),Jh];rfl
  ·simp only
   have:=Jh (L0:=L11) (T:=[Blk.arr 3 0 [.agg [.ptr A.length (L0.length+6) 0 0 0,.ptr A.length (L0.length+11) 0 0 0,.nils]]]) (i:=0)
   rw [l11] at this
   rw [this];rfl
 rintro ⟨i,L,N,Ia,Ib,rs,kx⟩ inv
 simp only at inv ⊢
 have hle:=inv.le
 repeat' (first|refine Zc3 rfl ?_|refine ZE ?_|refine ZC ?_|refine ZF rfl ?_|refine ZB rfl ?_|refine ZA ?_|refine QQ rfl rfl ?_|refine Qr rfl rfl (by omega) (fun _=>rfl) (fun _ _=>?_)|(refine Zh rfl rfl (fun _=>?_) (fun _=>?_)<;>try (exfalso;omega))|refine ZU rfl ?_|refine ZG rfl ?_|refine ZI ?_|refine Zo ?_|refine ZL ?_|refine Za ?_|refine ZY rfl ?_|refine Zj ?_)
 ·rename_i hlt s hs'
  have hs:texts[i]?=some s:=by rw [show i=((i:Nat):Int).toNat by omega];exact hs'
  have hsum:((texts.take i).map List.length).sum+s.length≤900:=by
   have e1:texts.map List.length=(texts.take (i+1)).map List.length++(texts.drop (i+1)).map List.length:=by rw [← List.map_append,List.take_append_drop]
   rw [e1,List.sum_append,Zm hs,List.map_append,List.sum_append] at h9
   simp only [List.map_cons,List.map_nil,List.sum_cons,List.sum_nil] at h9
   omega
  have few:=inv.few
  obtain ⟨hve,htx,hby⟩:=ZBb ZOc (s:=s) (by omega)
  have hBu:=fun st=>ZeQ ZOc s (by omega) st
  generalize QX s=t at *
  obtain ⟨N',r,T,happ,hgood,hord,rok,rb,hfew,hW⟩:=ZgJ hve inv.good inv.ord (by rw [hby];omega)
  rw [hby] at rb hfew
  have len:=inv.len
  have ltA:∀ j,Ia j→j<L.length:=fun j h=>(ZE5 A).lt inv.pa h
  have ltB:∀ j,Ib j→j<L.length:=fun j h=>(ZE6 A).lt inv.pb h
  obtain ⟨L1,Ia',hSa,ha⟩:=hW A _ _ (ZE5 A) (L++[.arr 7 0 [t.av]]) Ia _ ((ZE5 A).frame inv.pa (fun j hj=>List.getElem?_append_left (ltA j hj)))
  have l1:=ha.len
  rw [List.length_append,List.length_singleton] at l1
  have e10:∀ j,j<L.length+1→¬ Ia j→L1[j]?=(L++[.arr 7 0 [t.av]])[j]?:=fun j h1 h2=>ha.old j (by rw [List.length_append];exact h1) h2
  obtain ⟨L2,Ib',hSb,hb⟩:=hW A _ _ (ZE6 A) (L1++[.arr 5 0 [r.av]]) Ib _ ((ZE6 A).frame inv.pb (fun j hj=>by
   have:=ltB j hj
   rw [List.getElem?_append_left (by omega),e10 j (by omega) (fun q=>inv.dis j q hj),List.getElem?_append_left this]))
  have l2:=hb.len
  rw [List.length_append,List.length_singleton] at l2
  have e21:∀ j,j<L1.length+1→¬ Ib j→L2[j]?=(L1++[.arr 5 0 [r.av]])[j]?:=fun j h1 h2=>hb.old j (by rw [List.length_append];exact h1) h2
  have q10:∀ T,(L1++T)[L.length+0]?=some (.arr 7 0 [t.av]):=fun T=>get_left (by
   rw [e10 _ (by omega) (fun q=>by have:=ltA _ q;omega),Jh];rfl)
  have q11:∀ T,(L2++T)[L1.length+0]?=some (.arr 5 0 [r.av]):=fun T=>get_left (by
   rw [e21 _ (by omega) (fun q=>by have:=ltB _ q;omega),Jh];rfl)
  have q8:∀ T,(L2++T)[L0.length+12]?=some (.arr 3 0 [.agg [.ptr A.length (L0.length+6) 0 0 0,.ptr A.length (L0.length+11) 0 0 0,rvV A.length kx rs]]):=fun T=>get_left (by
   rw [e21 _ (by omega) (fun q=>(inv.ownb _ q).2 rfl),List.getElem?_append_left (by omega),e10 _ (by omega) (fun q=>(inv.owna _ q).2 rfl),List.getElem?_append_left (by omega)];exact inv.b8)
  have hnext:=fun {L3:List Blk} {kx':Nat}=>inv.next hs happ hgood hord rok rb hfew ha hb (L3:=L3) (kx':=kx')
  have hro:=ro_part r
  have e0:∀ L:List Blk,(⟨A,false,L⟩:St)=⟨A,false,L++[]⟩:=fun L=>by rw [List.append_nil]
  refine ZD rfl rfl rfl (hBu _) ?_
  rw [e0 L]
  repeat' (first|refine Yp rfl rfl rfl rfl rfl ?_|refine Yl rfl rfl rfl rfl (QJ _ _ _) (Qt _ _) rfl ?_|refine Jl rfl rfl rfl (Zr _) ?_|refine ZE ?_|refine ZC ?_|refine ZF rfl ?_|refine ZB rfl ?_|refine ZA ?_|refine ZIg rfl rfl ?_)
  refine ZD rfl rfl (by first|rfl|(simp only [List.nil_append,List.append_nil,List.cons_append,Zn,ZZ,Zb];rfl)) hSa ?_
  rw [e0 L1]
  repeat' (first|refine Yp rfl rfl rfl rfl rfl ?_|refine Yl rfl rfl rfl rfl rfl rfl rfl ?_|refine ZS rfl (q10 _) rfl (Zr _) ?_|refine ZE ?_|refine ZC ?_|refine ZF rfl ?_|refine QB rfl rfl ?_|refine ZB rfl ?_|refine ZA ?_|refine ZIg rfl rfl ?_)
  refine ZD rfl rfl (by first|rfl|(simp only [List.nil_append,List.append_nil,List.cons_append,Zn,ZZ,Zb];rfl)) hSb ?_
  rw [e0 L2]
  rcases rs with _|⟨r1,rs⟩
  ·have q8':∀ T,(L2++T)[L0.length+12]?=some (.arr 3 0 [.agg [.ptr A.length (L0.length+6) 0 0 0,.ptr A.length (L0.length+11) 0 0 0,.nils]]):=q8
   repeat' (first|refine Yp rfl rfl rfl rfl rfl ?_|refine Yl rfl rfl rfl rfl rfl rfl rfl ?_|refine ZS rfl (q11 _) rfl hro ?_|refine Jl rfl rfl rfl hro ?_|refine Qm rfl rfl (Zj5 r) rfl ?_|refine ZS rfl (q8' _) rfl rfl ?_|refine ZOe rfl rfl (by decide) rfl rfl rfl ?_|refine ZE ?_|refine ZC ?_|refine ZF rfl ?_|refine ZO rfl rfl ?_|refine Z8 rfl ?_|refine Zp rfl rfl rfl rfl ?_|refine QB rfl rfl ?_|refine ZB rfl ?_|refine ZA ?_|(refine Zu rfl rfl (fun _=>?_) (fun _=>?_)<;>try (exfalso;omega))|refine ZG rfl ?_|refine QL rfl rfl rfl rfl ?_|refine ZI ?_)
   refine Qn (q8' _) rfl rfl rfl (Qz _ (Nat.lt_succ_self _)) rfl ?_
   repeat' (first|refine ZC ?_|refine ZF rfl ?_|refine ZB rfl ?_|refine ZA ?_|refine Zi rfl rfl (by omega) ?_|refine Z2 ?_|refine Z4 ?_)
   refine ⟨(i+1,_,N',Ia',Ib',[r],L2.length+1),⟨rfl,rfl⟩,hnext (kx':=L2.length+1) ?_ (.inr ⟨rfl,by omega⟩) ?_ ?_ ?_,by simp only;omega⟩
   ·simp only [List.length_set,List.length_append];omega
   ·intro j j1 j2 j3
    rw [List.getElem?_set_ne (by omega),List.getElem?_append_left j1]
   ·rw [List.getElem?_set_self (by simp;omega)];rfl
   ·rw [List.getElem?_set_ne (by omega),Jh];rfl
  ·obtain ⟨k1,k2,k3,k4⟩:=inv.kb (by simp)
   have kl:=(List.getElem?_eq_some_iff.1 k1).1
   have k1T:∀ T,(L2++T)[kx]?=some (.arr 5 rs.length ((r1::rs).map Ro.av)):=fun T=>get_left (by
    rw [e21 _ (by omega) k3,List.getElem?_append_left (by omega),e10 _ (by omega) k2,List.getElem?_append_left kl];exact k1)
   have kxl:kx<L2.length:=by omega
   have hrl:=inv.rlen
   have hr1:rs.length+1=((r1::rs).map Ro.av).length:=by simp
   have hr2:((r1::rs).map Ro.av).length+1<4294967296:=by simp at hrl ⊢;omega
   have q8':∀ T,(L2++T)[L0.length+12]?=some (.arr 3 0 [.agg [.ptr A.length (L0.length+6) 0 0 0,.ptr A.length (L0.length+11) 0 0 0,.ref A.length kx rs.length 0 (rs.length+1)]]):=q8
   repeat' (first|refine Yp rfl rfl rfl rfl rfl ?_|refine Yl rfl rfl rfl rfl rfl rfl rfl ?_|refine ZS rfl (q11 _) rfl hro ?_|refine Jl rfl rfl rfl hro ?_|refine Qm rfl rfl (Zj5 r) rfl ?_|refine ZS rfl (q8' _) rfl rfl ?_|refine ZBr rfl rfl (k1T _) hr1 hr2 (by decide) rfl rfl ?_|refine ZE ?_|refine ZC ?_|refine ZF rfl ?_|refine ZO rfl rfl ?_|refine Z8 rfl ?_|refine Zp rfl rfl rfl rfl ?_|refine QB rfl rfl ?_|refine ZB rfl ?_|refine ZA ?_|(refine Zu rfl rfl (fun _=>?_) (fun _=>?_)<;>try (exfalso;omega))|refine ZG rfl ?_|refine QL rfl rfl rfl rfl ?_|refine ZI ?_)
   refine Qn (by rw [List.getElem?_set_ne (by omega)];exact q8' _) rfl rfl rfl (Qz _ (Nat.lt_succ_self _)) rfl ?_
   repeat' (first|refine ZC ?_|refine ZF rfl ?_|refine ZB rfl ?_|refine ZA ?_|refine Zi rfl rfl (by omega) ?_|refine Z2 ?_|refine Z4 ?_)
   refine ⟨(i+1,_,N',Ia',Ib',r1::rs++[r],kx),⟨rfl,rfl⟩,hnext (kx':=kx) ?_ (.inl ⟨by simp,rfl⟩) ?_ ?_ ?_,by simp only;omega⟩
   ·simp only [List.length_set,List.length_append];omega
   ·intro j j1 j2 j3
    rw [List.getElem?_set_ne (by omega),List.getElem?_set_ne (by omega),List.getElem?_append_left j1]
   ·rw [List.getElem?_set_self (by simp;omega)]
    simp only [rvV,List.cons_append,List.length_append,List.length_cons,List.length_nil]
    rfl
   ·rw [List.getElem?_set_ne (by omega),List.getElem?_set_self (by simp;omega),List.map_append];rfl
 ·obtain rfl:i=texts.length:=by omega
  have b2:=inv.b2
  have b8:=inv.b8
  have hl:=(List.getElem?_eq_some_iff.1 b2).1
  rcases rs with _|⟨r1,rs⟩
  ·unfold rvV at b8
   repeat' (first|refine ZS rfl b8 rfl rfl ?_|refine Qn b2 rfl rfl rfl (ZZX _ (Nat.lt_succ_self _)) rfl ?_|refine ZF rfl ?_|refine ZB rfl ?_|refine ZA ?_|refine ZQ ?_|refine ZP ?_)
   exact ⟨_,_,ZZY (.inr rfl) rfl (List.getElem?_set_self hl) rfl rfl,L,N,Ia,Ib,[],kx,inv,rfl,_,rfl⟩
  ·unfold rvV at b8
   repeat' (first|refine ZS rfl b8 rfl rfl ?_|refine Qn b2 rfl rfl rfl (ZWf _ (Nat.lt_succ_self _)) rfl ?_|refine ZF rfl ?_|refine ZB rfl ?_|refine ZA ?_|refine ZQ ?_|refine ZP ?_)
   exact ⟨_,_,ZZY (.inr rfl) rfl (List.getElem?_set_self hl) rfl rfl,L,N,Ia,Ib,r1::rs,kx,inv,rfl,_,rfl⟩
end Go.Q15
namespace Go.Q15
open Go Go.QAbs
set_option maxRecDepth 100000
set_option maxHeartbeats 8000000
def arK (lv b:Nat):List (Nat × Nat):=[(lv,b),(lv,b+1),(lv,b+2),(lv,b+3),(lv,b+4),(lv,b+5)]
def arB (lv b:Nat) (r:AR):List Blk:=[r.b0,r.b1,r.b2,r.b3 lv b,r.b4,r.b5 lv b]
def ZkW (st:St) (lv b:Nat) (r:AR):St:=Y8 st (arK lv b) (arB lv b r)
theorem ZkX (lv b:Nat):(arK lv b).Nodup:=by simp [arK]
section
variable {st:St} {lv b:Nat} {r:AR}
theorem Has.cl (h:Has st lv b r):Cl st (arK lv b) (arB lv b r):=by
 refine ⟨ZkX lv b,rfl,fun k hk=>?_,fun j l i c h1 h2=>?_⟩
 ·simp only [arK,List.mem_cons,List.not_mem_nil,or_false] at hk
  rcases hk with rfl|rfl|rfl|rfl|rfl|rfl<;>exact h.wr
 ·match j,h1,h2 with
  | 0,h1,h2=>obtain ⟨rfl,rfl⟩:=Prod.mk.inj (Option.some.inj h1);obtain rfl:=Option.some.inj h2;exact h.h0
  | 1,h1,h2=>obtain ⟨rfl,rfl⟩:=Prod.mk.inj (Option.some.inj h1);obtain rfl:=Option.some.inj h2;exact h.h1
  | 2,h1,h2=>obtain ⟨rfl,rfl⟩:=Prod.mk.inj (Option.some.inj h1);obtain rfl:=Option.some.inj h2;exact h.h2
  | 3,h1,h2=>obtain ⟨rfl,rfl⟩:=Prod.mk.inj (Option.some.inj h1);obtain rfl:=Option.some.inj h2;exact h.h3
  | 4,h1,h2=>obtain ⟨rfl,rfl⟩:=Prod.mk.inj (Option.some.inj h1);obtain rfl:=Option.some.inj h2;exact h.h4
  | 5,h1,h2=>obtain ⟨rfl,rfl⟩:=Prod.mk.inj (Option.some.inj h1);obtain rfl:=Option.some.inj h2;exact h.h5
  | n+6,h1,h2=>simp [arK] at h1
theorem Has.of_cl (h:Cl st (arK lv b) (arB lv b r)):Has st lv b r :=
 ⟨h.wr (lv,b) (by simp [arK]),h.get 0 _ _ _ rfl rfl,h.get 1 _ _ _ rfl rfl,h.get 2 _ _ _ rfl rfl,h.get 3 _ _ _ rfl rfl,h.get 4 _ _ _ rfl rfl,h.get 5 _ _ _ rfl rfl⟩
theorem Has.same (h:Has st lv b r):ZkW st lv b r=st:=h.cl.same
theorem Has.put (h:Has st lv b r) (r':AR):Has (ZkW st lv b r') lv b r':=.of_cl (h.cl.put rfl rfl)
theorem Has.out (h:Has st lv b r) (r':AR) {l i:Nat} (hn:¬ (l=lv∧b≤i∧i≤b+5)):(ZkW st lv b r').get l i=st.get l i:=by
 refine h.cl.out rfl rfl (fun q=>hn ?_)
 simp only [arK,List.mem_cons,Prod.mk.injEq,List.not_mem_nil,or_false] at q
 omega
theorem Has.le (h:Has st lv b r):lv≤st.A.length:=St.get_le h.h5
theorem Has.push (h:Has st lv b r) {A:List (Bool × List Blk)} {ro:Bool} {L:List Blk} (hA:A=st.ps):Has ⟨A,ro,L⟩ lv b r:=.of_cl (h.cl.push hA)
end
theorem ZJ9 {O:Orc} {k:List Fr} {Q:Yv} {e:Env} {st:St} {keep:List Nat} {is:List PI} {d:Nat} {α:Type} {f:α→AV} {l:List α} {w:Nat} {x i:Opd} {n:Int} {a:α} (hx:Zg e x=some (.lit (l.map f))) (hi:Zg e i=some (.int .i64 n)) (ha:0≤n∧l[n.toNat]?=some a) (hw:∀ a,(f a).wide=some w)
 (h:Is O is keep k Q ((d,.lptr (f a) 0)::e) st):Is O (⟨some d,none,false,.ixS w x i⟩::is) keep k Q e st:=by
 have hlt:=(List.getElem?_eq_some_iff.1 ha.2).1
 refine Qr hx hi (by omega) hw (fun b hb=>?_)
 rw [ha.2] at hb
 rw [← Option.some.inj hb];exact h
structure AROk (r:AR):Prop where
 nb:r.n≤r.blk.length
 n16:r.states.length≤16384
 nn:r.n≤r.states.length
 gl:r.gens.length=r.states.length
 stk:∀ i,i<r.n→∃ s:Nat,r.blk[i]?=some (s:Int)∧s<r.states.length∧r.states[s]?=some 0
 nd:∀ i j,i<r.n→j<r.n→r.blk[i]?=r.blk[j]?→i=j
 gen:∀ s,s<r.states.length→∃ g:Nat,r.gens[s]?=some (g:Int)∧1≤g∧(g:Int)≤r.most
 most:r.most≤4294967295
 key:∀ h x,lk r.nodes h=some x→∃ s g:Nat,h=g*65536+s∧s<r.states.length∧r.states[s]?=some 1∧r.gens[s]?=some (g:Int)
 al:0≤r.allocs∧r.allocs+r.n≤r.frees+r.slots
 fr:0≤r.frees∧r.frees≤900000
 sl:r.slots≤16384
def AR.slot (r:AR):Nat:=((r.blk[r.n-1]?).getD 0).toNat
def AR.gen1 (r:AR):Nat:=((r.gens[r.slot]?).getD 0).toNat
def AR.next (r:AR):Nat:=r.gen1*65536+r.slot
def AR.add (r:AR) (x:Nd):AR:=r.alloc r.slot r.gen1 x
theorem AROk.top {r:AR} (h:AROk r) (hn:0<r.n):r.blk[r.n-1]?=some (r.slot:Int)∧r.slot<r.states.length∧r.states[r.slot]?=some 0∧r.gens[r.slot]?=some (r.gen1:Int)∧1≤r.gen1∧(r.gen1:Int)≤r.most:=by
 obtain ⟨s,h1,h2,h3⟩:=h.stk (r.n-1) (by omega)
 have e1:r.slot=s:=by unfold AR.slot;rw [h1];simp
 obtain ⟨g,g1,g2,g3⟩:=h.gen s h2
 have e2:r.gen1=g:=by unfold AR.gen1;rw [e1,g1];simp
 rw [e2,e1]
 exact ⟨h1,h2,h3,g1,g2,g3⟩
theorem AROk.can {r:AR} (h:AROk r) (hn:0<r.n):CanTake r (r.n-1) r.slot r.gen1:=by
 obtain ⟨h1,h2,h3,h4,h5,h6⟩:=h.top hn
 have:=h.n16
 have:=h.nn
 have:=h.most
 have:=h.al
 have:=h.fr
 have:=h.sl
 refine ⟨by omega,h1,h2,by omega,h4,h5,by omega,by omega,?_,by omega⟩
 cases hk:lk r.nodes (r.gen1*65536+r.slot) with
 | none=>rfl
 | some x =>
  obtain ⟨s,g,k1,k2,k3,k4⟩:=h.key _ _ hk
  have:s=r.slot:=by omega
  subst this
  rw [h3] at k3
  simp at k3
theorem AROk.add {r:AR} (h:AROk r) (hn:0<r.n) (x:Nd):AROk (r.add x):=by
 obtain ⟨h1,h2,h3,h4,h5,h6⟩:=h.top hn
 have e1:(r.add x).n=r.n-1:=rfl
 have e2:(r.add x).states=r.states.set r.slot 1:=rfl
 have e3:(r.add x).nodes=r.nodes++[(r.gen1*65536+r.slot,x.copy)]:=rfl
 have e4:(r.add x).blk=r.blk:=rfl
 have e5:(r.add x).gens=r.gens:=rfl
 have e6:(r.add x).most=r.most:=rfl
 have e7:(r.add x).allocs=r.allocs+1:=rfl
 have e8:(r.add x).frees=r.frees:=rfl
 have e9:(r.add x).slots=r.slots:=rfl
 have hne:∀ i,i<r.n-1→r.blk[i]?≠some (r.slot:Int):=fun i hi q=>by
  have:=h.nd i (r.n-1) (by omega) (by omega) (by rw [q,h1])
  omega
 refine ⟨by rw [e1,e4];have:=h.nb;omega,by rw [e2,List.length_set];exact h.n16,by rw [e1,e2,List.length_set];have:=h.nn;omega,by rw [e5,e2,List.length_set];exact h.gl,?_,?_,?_,by rw [e6];exact h.most,?_,by rw [e7,e1,e8,e9];have:=h.al;omega,by rw [e8];exact h.fr,by rw [e9];exact h.sl⟩
 ·intro i hi
  rw [e1] at hi
  obtain ⟨s,k1,k2,k3⟩:=h.stk i (by omega)
  have:s≠r.slot:=fun q=>hne i hi (by rw [k1,q])
  exact ⟨s,k1,by rw [e2,List.length_set];exact k2,by rw [e2,List.getElem?_set_ne (fun q=>this q.symm)];exact k3⟩
 ·intro i j hi hj hij
  rw [e1] at hi hj
  exact h.nd i j (by omega) (by omega) hij
 ·intro s hs
  rw [e2,List.length_set] at hs
  exact h.gen s hs
 ·intro a y hy
  rw [e3,ZQX] at hy
  cases hk:lk r.nodes a with
  | some z =>
   obtain ⟨s,g,k1,k2,k3,k4⟩:=h.key a z hk
   have:s≠r.slot:=fun q=>by subst q;rw [h3] at k3;simp at k3
   exact ⟨s,g,k1,by rw [e2,List.length_set];exact k2,by rw [e2,List.getElem?_set_ne (fun q=>this q.symm)];exact k3,by rw [e5];exact k4⟩
  | none =>
   rw [hk] at hy
   simp only [Option.none_or,lk] at hy
   split at hy
   ·rename_i q
    exact ⟨r.slot,r.gen1,q.symm,by rw [e2,List.length_set];exact h2,by rw [e2,List.getElem?_set_self h2],by rw [e5];exact h4⟩
   ·simp at hy
theorem AROk.new {r:AR} (h:AROk r) (hn:0<r.n):lk r.nodes r.next=none:=(h.can hn).new
theorem ZJn {r:AR} (h:AROk r) (hn:0<r.n) (x:Nd) (o:Nat):lk (r.add x).nodes o=if o=r.next then some x.copy else lk r.nodes o:=by
 have e3:(r.add x).nodes=r.nodes++[(r.next,x.copy)]:=rfl
 rw [e3,ZQX]
 by_cases q:o=r.next
 ·rw [if_pos q,q,h.new hn];simp [lk]
 ·rw [if_neg q]
  cases lk r.nodes o with
  | some y=>rfl
  | none=>simp only [Option.none_or,lk];rw [if_neg (fun w=>q w.symm)]
theorem AROk.handle {r:AR} (h:AROk r) (hn:0<r.n):XZ r.next∧r.next<18446744073709551616:=by
 obtain ⟨h1,h2,h3,h4,h5,h6⟩:=h.top hn
 have:=h.n16
 have:=h.most
 unfold XZ AR.next
 omega
end Go.Q15
namespace Go.QAbs
theorem ZJo:∀ l:List Blk,Jx l=some l
 | []=>rfl
 | b::l=>by rw [Jx,ZJo l]
theorem ZgK {k:IntKind} {α:Type} (f:α→Int) (l:List α):JE 1 (l.map fun a=>AV.int k (f a))=true:=by
 induction l with
 | nil=>rfl
 | cons b s ih=>rw [List.map_cons,JE,List.all_cons];exact Bool.and_eq_true_iff.2 ⟨rfl,ih⟩
theorem ZgL {k:IntKind} {α:Type} (f:α→Int) (n b:Nat) (st:St) (l:List α):mapSt (Zc (n+1) b) st (l.map fun a=>AV.int k (f a))=some (l.map fun a=>AV.int k (f a),st):=by
 induction l with
 | nil=>rfl
 | cons x s ih =>
  rw [List.map_cons,mapSt]
  show ((some (AV.int k (f x),st)).bind fun r=>(mapSt (Zc (n+1) b) r.2 (s.map fun a=>AV.int k (f a))).bind (ZAG r.1))=_
  rw [Option.bind_some,ih];rfl
section
variable {O:Orc} {k:List Fr} {Q:Yv} {e:Env} {A:List (Bool × List Blk)} {L:List Blk} {keep:List Nat} {is:List PI} {d:Nat}
theorem ZfH {w bytes:Nat} {s x:Opd} {ix ver n:Nat} {es ys:List AV} (hs:Zg e s=some (.ref A.length ix ver 0 n)) (hx:Zg e x=some (.lit ys)) (hg:L[ix]?=some (Blk.arr w ver es)) (hn:n=es.length) (hw:JE w ys=true)
 (hm:mapSt (Zc QN (A.length+1)) ⟨A,false,L⟩ ys=some (ys,⟨A,false,L⟩)) (hl:es.length+ys.length<4294967296) (hb:bytes≤4096)
 (h:Is O is keep k Q ((d,.ref A.length ix (ver+1) 0 (n+ys.length))::e) ⟨A,false,L.set ix (.arr w (ver+1) (es++ys))⟩):Is O (⟨some d,none,false,.app w bytes s x⟩::is) keep k Q e ⟨A,false,L⟩ :=
 Ze0 hs hx hg rfl hn hl hb hw hm (ZJo _) h
theorem Zjg {w:Nat} {t x:Opd} {ix ver n:Nat} {es ys:List AV} {vx:AV} (ht:Zg e t=some (.ref A.length ix ver 0 n)) (hx:Zg e x=some vx) (hy:elems ⟨A,false,L⟩ vx=some ys) (hg:L[ix]?=some (Blk.arr w ver es)) (hn:n=es.length) (hl:ys.length=n) (hw:JE w ys=true)
 (hm:mapSt (Zc QN (A.length+1)) ⟨A,false,L⟩ ys=some (ys,⟨A,false,L⟩))
 (h:Is O is keep k Q ((d,.int .i64 ys.length)::e) ⟨A,false,L.set ix (.arr w ver ys)⟩):Is O (⟨some d,none,false,.cpy w t x⟩::is) keep k Q e ⟨A,false,L⟩:=by
 have hlt:ix<L.length:=(List.getElem?_eq_some_iff.1 hg).1
 refine Z3 (v:=.int .i64 ys.length) (st':=⟨A,false,L.set ix (.arr w ver ys)⟩) ?_ h
 have e1:es.take 0++ys++es.drop (0+ys.length)=ys:=by rw [List.drop_of_length_le (by omega)];simp
 simp only [Zk,evalPO,ZH ht,ZH hx,hy,Option.bind_some,ZdT,hw,if_true,hm,St.get_cur,hg,vis,ZZl,true_and,if_pos (show 0+n≤es.length∧ys.length≤n by omega),e1]
 simp only [St.put,if_true,Bool.false_eq_true,if_false,if_pos hlt,Option.bind_some]
theorem ZgM {st:St} {x:Opd} {lv ix:Nat} {es:List (AV × AV)} (hx:Zg e x=some (.map lv ix)) (hg:st.get lv ix=some (.map es)) (h:Is O is keep k Q ((d,.int .i64 es.length)::e) st):Is O (⟨some d,none,false,.len 2 x⟩::is) keep k Q e st:=by
 refine Z3 (v:=.int .i64 es.length) (st':=st) ?_ h
 simp only [Zk,evalPO,ZH hx,lenOf,hg,ZTc,Option.bind_some]
end
end Go.QAbs
namespace Go.Q15
open Go Go.QAbs
set_option maxRecDepth 100000
end Go.Q15
namespace Go.Q15
open Go Go.QAbs
set_option maxRecDepth 100000
set_option maxHeartbeats 8000000
structure HasR (st:St) (lv b:Nat) (r:AR):Prop where
 h0:st.get lv b=some r.b0
 h1:st.get lv (b+1)=some r.b1
 h2:st.get lv (b+2)=some r.b2
 h3:st.get lv (b+3)=some (r.b3 lv b)
 h4:st.get lv (b+4)=some r.b4
 h5:st.get lv (b+5)=some (r.b5 lv b)
theorem Has.r {st:St} {lv b:Nat} {r:AR} (h:Has st lv b r):HasR st lv b r:=⟨h.h0,h.h1,h.h2,h.h3,h.h4,h.h5⟩
theorem HasR.push {st:St} {lv b:Nat} {r:AR} {A:List (Bool × List Blk)} {ro:Bool} {L:List Blk} (hA:A=st.A++[(st.ro,st.L)]) (h:HasR st lv b r):HasR ⟨A,ro,L⟩ lv b r :=
 ⟨ZW hA h.h0,ZW hA h.h1,ZW hA h.h2,ZW hA h.h3,ZW hA h.h4,ZW hA h.h5⟩
theorem HasR.allRo {st:St} {lv b:Nat} {r:AR} (h:HasR st lv b r):HasR st.allRo lv b r :=
 ⟨by rw [Jm];exact h.h0,by rw [Jm];exact h.h1,by rw [Jm];exact h.h2,by rw [Jm];exact h.h3,by rw [Jm];exact h.h4,by rw [Jm];exact h.h5⟩
theorem HasR.rd {st:St} {lv b:Nat} {r:AR} (h:HasR st lv b r):Rd st lv (b+5) r.nodes:=⟨_,_,_,_,_,_,h.h5,h.h4⟩
theorem ZZZ {n i:Nat} (f:Nat→AV) (v:AV):((List.range n).map f).set i v=(List.range n).map fun j=>if j=i then v else f j:=by
 apply List.ext_getElem
 ·simp
 ·intro j hj hj'
  simp only [List.getElem_set,List.getElem_map,List.getElem_range]
  by_cases q:i=j
  ·subst q;simp
  ·rw [if_neg q,if_neg (fun w=>q w.symm)]
theorem ZZa {n k:Nat} (f:Nat→AV) (h:k<n):((List.range n).map f)[0+((k:Nat):Int).toNat]?=some (f k):=by
 rw [show 0+((k:Nat):Int).toNat=k by omega]
 simp [h]
def ZAq (l:List Int) (i k:Nat):Int:=if k<i∨l.length<k+i+1 then (l[l.length-1-k]?).getD 0 else (l[k]?).getD 0
theorem ZkY (l:List Int):(List.range l.length).map (fun k=>AV.int .i64 (ZAq l 0 k))=l.map (.int .i64):=by
 apply List.ext_getElem
 ·simp
 ·intro k h1 h2
  simp only [List.length_map,List.length_range] at h1
  simp only [List.getElem_map,List.getElem_range,ZAq,Nat.not_lt_zero,false_or]
  rw [if_neg (by omega),List.getElem?_eq_getElem h1];rfl
theorem ZkZ (l:List Int) {i:Nat} (h:l.length≤2*i+1):(List.range l.length).map (fun k=>AV.int .i64 (ZAq l i k))=l.reverse.map (.int .i64):=by
 apply List.ext_getElem
 ·simp
 ·intro k h1 h2
  simp only [List.length_map,List.length_range] at h1
  simp only [List.getElem_map,List.getElem_range,ZAq,List.getElem_reverse]
  split
  ·rw [List.getElem?_eq_getElem (by omega)];rfl
  ·have:l.length-1-k=k:=by omega
   rw [List.getElem?_eq_getElem h1]
   simp only [this,Option.getD_some]
theorem ZgN (l:List Int) {i:Nat} (h:2*i+1<l.length) :
 (((List.range l.length).map (fun k=>AV.int .i64 (ZAq l i k))).set i (.int .i64 (ZAq l i (l.length-1-i)))).set (l.length-1-i) (.int .i64 (ZAq l i i))=(List.range l.length).map (fun k=>AV.int .i64 (ZAq l (i+1) k)):=by
 rw [ZZZ,ZZZ]
 apply List.map_congr_left
 intro k hk
 rw [List.mem_range] at hk
 by_cases q:k=l.length-1-i
 ·rw [if_pos q]
  simp only [ZAq]
  rw [if_neg (by omega),if_pos (by omega),q]
  rw [show l.length-1-(l.length-1-i)=i by omega]
 ·rw [if_neg q]
  by_cases q2:k=i
  ·rw [if_pos q2]
   simp only [ZAq]
   rw [if_neg (by omega),if_pos (by omega),q2]
  ·rw [if_neg q2]
   simp only [ZAq]
   by_cases q3:k<i∨l.length<k+i+1
   ·rw [if_pos q3,if_pos (by omega)]
   ·rw [if_neg q3,if_neg (by omega)]
def AR.free (r:AR):List Int:=(r.blk.take r.n).reverse
theorem AR.free_len {r:AR} (h:r.n≤r.blk.length):r.free.length=r.n:=by simp [AR.free];omega
theorem Zka {st:St} {lv b:Nat} {r:AR} (h:HasR st lv b r) (hn:r.n≤r.blk.length) (hb:r.n<65536):S Tb Yx [.ptr lv (b+3) 0 0 0] st=some (.lit (r.free.map (.int .i64)),st):=by
 refine Z5 rfl (fun A hA=>?_)
 have g3:=fun L=>ZW hA (ro:=false) (L:=L) h.h3
 have g1:=fun L=>ZW hA (ro:=false) (L:=L) h.h1
 unfold AR.b3 at g3
 unfold AR.b1 at g1
 have hl:(r.blk.take r.n).length=r.n:=by simp;omega
 have hel:∀ L,elems ⟨A,false,L⟩ (.ref lv (b+1) r.ver 0 r.n)=some ((r.blk.take r.n).map (.int .i64)):=fun L=>by
  simp only [elems,g1,ZDr,true_and,Nat.zero_add,List.length_map,if_pos hn,List.drop_zero,List.map_take]
 unfold AR.free
 generalize hz:r.blk.take r.n=l at *
 repeat' (first|refine ZE ?_|refine ZC ?_|refine ZF rfl ?_|refine ZO rfl rfl ?_|refine ZB rfl ?_|refine ZA ?_|refine Z7 rfl rfl ?_|refine Q2 rfl ?_|refine ZG rfl ?_|refine JB rfl rfl (by omega) ?_|refine Qm rfl rfl rfl rfl ?_|refine ZL0 rfl rfl (by omega) (by decide) rfl ?_|refine QG rfl (g3 _) rfl rfl ?_|refine Zjg (ys:=l.map (.int .i64)) rfl rfl (hel _) rfl (by simp) (by simp [hl]) (ZgK _ _) (ZgL _ _ _ _ _) ?_|refine ZI ?_|refine ZL ?_)
 refine Zq (α:=Nat) (fun i=>[(3,.ref A.length 0 0 0 r.n),(4,.int .i64 i),(5,.int .i64 ((l.length:Int)-1-i))]) (fun i=>⟨A,false,[.arr 1 0 ((List.range l.length).map fun k=>AV.int .i64 (ZAq l i k))]⟩) (fun i=>2*i≤l.length+1) (fun i=>l.length+1-2*i) 0 ?_ ?_ (by simp) ?_
 ·simp [hl]
 ·rw [ZkY];rfl
 intro i hi
 replace hi:2*i≤l.length+1:=hi
 rcases Nat.lt_or_ge (2*i+1) l.length with hlt|hge
 ·have hj:(l.length:Int)-1-i=((l.length-1-i:Nat):Int):=by omega
  have q1:=ZZa (n:=l.length) (k:=i) (fun k=>AV.int .i64 (ZAq l i k)) (by omega)
  have q2:=ZZa (n:=l.length) (k:=l.length-1-i) (fun k=>AV.int .i64 (ZAq l i k)) (by omega)
  have q3:(((List.range l.length).map (fun k=>AV.int .i64 (ZAq l i k))).set (0+((i:Nat):Int).toNat) (.int .i64 (ZAq l i (l.length-1-i))))[0+((l.length-1-i:Nat):Int).toNat]?=some (.int .i64 (ZAq l i (l.length-1-i))):=by
   rw [List.getElem?_set_ne (by omega)];exact q2
  rw [hj]
  repeat' (first|refine ZE ?_|refine ZC ?_|refine ZF rfl ?_|refine ZB rfl ?_|refine ZA ?_|(refine Zh rfl rfl (fun _=>?_) (fun _=>?_)<;>try (exfalso;omega))|refine ZU rfl ?_|refine Zi rfl rfl (by omega) ?_|refine JB rfl rfl (by omega) ?_|refine ZMz rfl rfl (by omega) rfl ?_|refine ZS rfl rfl q2 rfl ?_|refine ZS rfl rfl q1 rfl ?_|refine Qn rfl rfl rfl q1 rfl rfl ?_|refine Qn rfl rfl rfl q3 rfl rfl ?_|refine ZI ?_|refine ZL ?_|refine Z2 ?_|refine Z4 ?_)
  refine ⟨i+1,⟨?_,?_⟩,by omega,by omega⟩
  ·rw [show ((l.length-1-i:Nat):Int)-1=(l.length:Int)-1-((i+1:Nat):Int) by omega];rfl
  ·rw [← ZgN l hlt]
   rw [show 0+((i:Nat):Int).toNat=i by omega,show 0+((l.length-1-i:Nat):Int).toNat=l.length-1-i by omega]
   rfl
 ·repeat' (first|refine ZE ?_|refine ZC ?_|refine ZF rfl ?_|refine ZB rfl ?_|refine ZA ?_|(refine Zh rfl rfl (fun _=>?_) (fun _=>?_)<;>try (exfalso;omega))|refine ZG rfl ?_|refine ZQ ?_|refine Zo ?_|refine ZP ?_|refine Za ?_|refine ZY rfl ?_|refine Zj ?_)
  all_goals try (exfalso;omega)
  refine Y6 (es:=l.reverse.map (.int .i64)) hA (.inr rfl) rfl (by rw [ZkZ l (by omega)];rfl) (by simp;omega) (by intro v hv;obtain ⟨x,_,rfl⟩:=List.mem_map.1 hv;rfl) ?_
  rfl
def YP (l:List Int) (s:Int) (n:Nat):List Nat:=(List.range n).filter fun i=>l[i]? == some s
def ZAE (l:List Int) (s:Int):List Nat:=YP l s l.length
def ZQ6 (n:Nat):AV:=.int .i64 n
theorem ZbR (l:List Int) (s:Int) (n:Nat):YP l s (n+1)=YP l s n++if l[n]?=some s then [n] else []:=by
 rw [YP,List.range_succ,List.filter_append,← YP]
 congr 1
 by_cases q:l[n]?=some s
 ·rw [if_pos q];simp [q]
 ·rw [if_neg q];simp [q]
theorem ZJp (l:List Int) (s:Int) (n:Nat):(YP l s n).length≤n:=by
 have:=List.length_filter_le (fun i=>l[i]? == some s) (List.range n)
 rw [List.length_range] at this
 exact this
theorem ZfI {st:St} {lv b:Nat} {r:AR} (h:HasR st lv b r) (hb:r.states.length≤16384) (s:Int):S Tb Jg [.ptr lv (b+3) 0 0 0,.int .u8 s] st=some (.lit ((ZAE r.states s).map ZQ6),st):=by
 refine Z5 rfl (fun A hA=>?_)
 have g3:=fun L=>ZW hA (ro:=false) (L:=L) h.h3
 have g0:=fun L=>ZW hA (ro:=false) (L:=L) h.h0
 unfold AR.b3 at g3
 unfold AR.b0 at g0
 have hwi:∀ L,wIs 1 0 (St.get ⟨A,false,L⟩ lv b)=true:=fun L=>by rw [g0];rfl
 repeat' (first|refine ZE ?_|refine ZC ?_|refine ZF rfl ?_|refine ZO rfl rfl ?_|refine ZB rfl ?_|refine ZA ?_|refine Z7 rfl rfl ?_|refine Q2 rfl ?_|refine ZG rfl ?_|refine Qm rfl rfl rfl rfl ?_|refine Y5 rfl ?_|refine QG rfl (g3 _) rfl rfl ?_|refine ZI ?_|refine ZL ?_)
 refine Zq (α:=Nat) (fun i=>[(1,.int .u8 s),(5,.ref A.length 0 (YP r.states s i).length 0 (YP r.states s i).length),(14,.ref lv b 0 0 r.states.length),(15,.int .i64 r.states.length),(16,.int .i64 i)]) (fun i=>⟨A,false,[.arr 1 (YP r.states s i).length ((YP r.states s i).map ZQ6)]⟩) (fun i=>i≤r.states.length) (fun i=>r.states.length-i) 0 rfl rfl (by simp) ?_
 intro i hi
 replace hi:i≤r.states.length:=hi
 rcases Nat.lt_or_ge i r.states.length with hlt|hge
 ·obtain ⟨x,hx⟩:∃ x,r.states[i]?=some x:=⟨r.states[i]'hlt,by simp [hlt]⟩
  have q1:(r.states.map (.int .u8))[0+((i:Nat):Int).toNat]?=some (AV.int .u8 x):=by
   rw [show 0+((i:Nat):Int).toNat=i by omega,List.getElem?_map,hx];rfl
  have hs:=ZbR r.states s i
  have hl:=ZJp r.states s i
  rw [hx] at hs
  have hl2:((YP r.states s i).map ZQ6).length+[AV.int .i64 (i:Int)].length<4294967296:=by simp;omega
  have hl3:(YP r.states s i).length=((YP r.states s i).map ZQ6).length:=by simp
  repeat' (first|refine ZfH rfl rfl rfl hl3 rfl rfl hl2 (by decide) ?_|refine ZE ?_|refine ZC ?_|refine ZF rfl ?_|refine ZB rfl ?_|refine ZA ?_|(refine Zh rfl rfl (fun _=>?_) (fun _=>?_)<;>try (exfalso;omega))|(refine Zl rfl rfl (fun _=>?_) (fun _=>?_)<;>try (exfalso;omega))|refine ZU rfl ?_|refine ZG rfl ?_|refine Zi rfl rfl (by omega) ?_|refine QL rfl rfl rfl rfl ?_|refine Jb rfl rfl (by omega) (hwi _) ?_|refine QG rfl (g0 _) q1 rfl ?_|refine ZI ?_|refine ZL ?_|refine Z2 ?_|refine Z4 ?_)
  ·rename_i e
   subst e
   rw [if_pos rfl] at hs
   refine ⟨i+1,⟨?_,?_⟩,by omega,by omega⟩
   ·rw [hs,List.length_append];rfl
   ·rw [hs,List.map_append,List.length_append];rfl
  ·rename_i e
   rw [if_neg (by simpa using e),List.append_nil] at hs
   exact ⟨i+1,⟨by rw [hs];rfl,by rw [hs]⟩,by omega,by omega⟩
 ·obtain rfl:i=r.states.length:=by omega
  repeat' (first|refine ZE ?_|refine ZC ?_|refine ZF rfl ?_|refine ZB rfl ?_|refine ZA ?_|(refine Zh rfl rfl (fun _=>?_) (fun _=>?_)<;>try (exfalso;omega))|refine ZG rfl ?_|refine ZQ ?_|refine Zo ?_|refine ZP ?_|refine Za ?_|refine ZY rfl ?_|refine Zj ?_)
  refine Y6 (es:=(ZAE r.states s).map ZQ6) hA (.inr rfl) rfl rfl (by simp;rfl) (by intro v hv;obtain ⟨x,_,rfl⟩:=List.mem_map.1 hv;rfl) ?_
  rfl
theorem Zc5 {st:St} {lv b:Nat} {r:AR} (h:HasR st lv b r) (hb:r.states.length≤16384):S Tb Jk [.ptr lv (b+3) 0 0 0] st=some (.lit ((ZAE r.states 2).map ZQ6),st):=by
 refine Z5 rfl (fun A hA=>?_)
 have hs:=fun L=>ZfI (h.push hA (ro:=false) (L:=L)) hb 2
 repeat' (first|refine ZE ?_|refine ZC ?_|refine ZF rfl ?_|refine ZB rfl ?_|refine ZA ?_|refine ZD rfl rfl rfl (hs _) ?_|refine ZQ ?_|refine ZP ?_)
 refine Zd hA (by first|exact .inl rfl|exact .inr rfl) rfl rfl rfl rfl ?_
 rfl
def AR.statsAV (r:AR):AV:=.agg [.int .i64 r.slots,.int .i64 r.n,.int .i64 r.nodes.length,.int .i64 (ZAE r.states 2).length,.int .i64 r.allocs,.int .i64 r.frees,.int .i64 r.stale]
theorem ZfJ {st:St} {lv b:Nat} {r:AR} (h:HasR st lv b r) (hn:r.n≤r.blk.length) (hb:r.states.length≤16384) (h6:r.n<65536):S Tb J2 [.ptr lv (b+5) 0 0 0] st=some (r.statsAV,st):=by
 refine Z5 rfl (fun A hA=>?_)
 have g5:=fun L=>ZW hA (ro:=false) (L:=L) h.h5
 have g4:=fun L=>ZW hA (ro:=false) (L:=L) h.h4
 unfold AR.b5 at g5
 unfold AR.b4 at g4
 have hF:=fun L=>Zka (h.push hA (ro:=false) (L:=L)).allRo hn h6
 have hW:=fun L=>Zc5 (h.push hA (ro:=false) (L:=L)).allRo hb
 repeat' (first|refine ZE ?_|refine ZC ?_|refine ZF rfl ?_|refine ZO rfl rfl ?_|refine ZB rfl ?_|refine ZA ?_|refine Z7 rfl rfl ?_|refine QC rfl ?_|refine ZG rfl ?_|refine Zf rfl rfl rfl ?_|refine Qm rfl rfl rfl rfl ?_|refine Ze rfl rfl rfl ?_|refine Zv rfl rfl rfl rfl rfl rfl ?_|refine QG rfl (g5 _) rfl rfl ?_|refine ZgM rfl (g4 _) ?_|refine Js rfl rfl rfl (hF _) ?_|refine Js rfl rfl rfl (hW _) ?_|refine ZI ?_|refine ZQ ?_|refine ZP ?_)
 refine Ji hA (by first|exact .inl rfl|exact .inr rfl) rfl rfl rfl rfl rfl ?_
 unfold AR.statsAV
 have e2:(r.nodes.map nodeAV).length=r.nodes.length:=List.length_map ..
 rw [← AR.free_len hn,← e2]
end Go.Q15
namespace Go.Q15
open Go Go.QAbs
set_option maxRecDepth 100000
set_option maxHeartbeats 16000000
theorem Zhx:∀ {N:ZJ} {o:Nat} {x:Nd},lk N o=some x→∃ i:Nat,N[i]?=some (o,x)
 | [],o,x,h=>by simp [lk] at h
 | p::l,o,x,h=>by
  rw [lk] at h
  split at h
  ·rename_i q
   refine ⟨0,?_⟩
   rw [List.getElem?_cons_zero,← Option.some.inj h,← q]
  ·obtain ⟨i,hi⟩:=Zhx h
   exact ⟨i+1,by rw [List.getElem?_cons_succ];exact hi⟩
theorem Zjh {N:ZJ} (ho:Ord N) (hl:N.length≤700):AROk (Xh N):=by
 have hb:∀ i:Nat,i<700→(Xh N).blk[i]?=some ((700:Int)-1-i):=fun i hi=>by
  show ((List.range 700).map fun (j:Nat)=>((700:Nat):Int)-1-j)[i]?=_
  rw [List.getElem?_map,List.getElem?_range hi];rfl
 have hs:∀ i:Nat,i<700→(Xh N).states[i]?=some (if i<N.length then (1:Int) else 0):=fun i hi=>by
  show ((List.range 700).map fun (j:Nat)=>if j<N.length then (1:Int) else 0)[i]?=_
  rw [List.getElem?_map,List.getElem?_range hi];rfl
 have hsl:(Xh N).states.length=700:=by
  show ((List.range 700).map _).length=700
  rw [List.length_map,List.length_range]
 have hg:∀ i:Nat,i<700→(Xh N).gens[i]?=some 1:=fun i hi=>by
  show (List.replicate 700 (1:Int))[i]?=some 1
  rw [List.getElem?_replicate,if_pos hi]
 have hn:(Xh N).n=700-N.length:=rfl
 refine ⟨?_,by rw [hsl];decide,by rw [hsl,hn];omega,?_,fun i hi=>⟨699-i,?_,?_,?_⟩,fun i j hi hj q=>?_,fun s hs'=>⟨1,hg s (by omega),by omega,?_⟩,?_,fun h x hx=>?_,?_,?_,?_⟩
 ·show 700-N.length≤((List.range 700).map _).length
  rw [List.length_map,List.length_range];omega
 ·rw [hsl]
  show (List.replicate 700 (1:Int)).length=700
  rw [List.length_replicate]
 ·rw [hb i (by omega)];congr 1;omega
 ·rw [hsl];omega
 ·rw [hs _ (by omega),if_neg (by omega)]
 ·rw [hb i (by omega),hb j (by omega)] at q
  have:=Option.some.inj q
  omega
 ·show ((1:Nat):Int)≤3;decide
 ·show (3:Int)≤_;decide
 ·obtain ⟨i,hi⟩:=Zhx (N:=N) hx
  have h1:=ho i _ hi
  have h2:=(List.getElem?_eq_some_iff.1 hi).1
  exact ⟨i,1,by simp only at h1;omega,by rw [hsl];omega,by rw [hs i (by omega),if_pos h2],by rw [hg i (by omega)];rfl⟩
 ·show 0≤((N.length:Nat):Int)∧((N.length:Nat):Int)+((700-N.length:Nat):Int)≤0+((700:Nat):Int)
  omega
 ·show (0:Int)≤0∧(0:Int)≤900000
  omega
 ·show ((700:Nat):Int)≤16384
  omega
theorem Zji (s:List UInt8) (h9:s.length≤900) (A:List (Bool × List Blk)) :
 ∃ LL N ro kx,S Tb Jt [.lit [.str s]] ⟨A,false,[]⟩=some (.tup [.agg [.ptr A.length 6 0 0 0,.ptr A.length 11 0 0 0,.ref A.length kx 0 0 1],.bool true],⟨A,false,LL⟩) ∧
  (∀ T,Has ⟨A,false,LL++T⟩ A.length 1 (Xh N))∧(∀ T,(LL++T)[kx]?=some (.arr 5 0 [ro.av]))∧GoodN N∧AROk (Xh N)∧RootOk N ro∧ro.m.b=s.length:=by
 obtain ⟨v,st',hS,L,N,Ia,Ib,rs,kx,inv,rfl,X,rfl⟩:=Zkv [s] (by simp) (by simp;exact h9) A []
 have hg:∀ j,1≤j→j<L.length→∀ T:List Blk,(L.set 0 X++T)[j]?=L[j]?:=by
  intro j h1 h2 T
  rw [List.getElem?_append_left (by simpa using h2),List.getElem?_set_ne (by omega)]
 obtain ⟨b,hb,hH,_⟩:=inv.pa
 have hb1:b=1:=by simp at hb;omega
 subst hb1
 have hlt:=hH.lt
 have hrl:=inv.rlen
 have hfew:=inv.few
 simp only [List.length_singleton] at hrl hfew
 match rs,hrl,inv with
 | [ro],_,inv =>
  obtain ⟨k1,_,_,k4⟩:=inv.kb (by simp)
  simp only [List.length_nil] at k4
  have kl:=(List.getElem?_eq_some_iff.1 k1).1
  refine ⟨_,N,ro,kx,hS,fun T=>hH.frame (fun i h1 h2=>hg i (by omega) (by omega) T),fun T=>?_,inv.good,Zjh inv.ord (by simp at hfew;omega),inv.roots ro (by simp),inv.rb 0 ro s rfl rfl⟩
  show (L.set 0 X++T)[kx]?=_
  rw [hg kx (by omega) kl];exact k1
end Go.Q15
namespace Go.QAbs
section
variable {O:Orc} {k:List Fr} {Q:Yv} {e:Env} {A:List (Bool × List Blk)} {L:List Blk} {keep:List Nat} {is:List PI} {d:Nat} {st:St}
theorem ZWg {w:Nat} (h:Is O is keep k Q ((d,.ptr A.length (L.length+1) 0 0 0)::e) ⟨A,false,L++[Blk.arr w 0 [],Blk.arr 1 0 [.ref A.length L.length 0 0 0]]⟩):Is O (⟨some d,none,false,.boxnil w⟩::is) keep k Q e ⟨A,false,L⟩ :=
 ZJx (by rw [List.append_assoc];exact ZJo _) h
end
end Go.QAbs
namespace Go.Q15
open Go Go.QAbs
set_option maxRecDepth 100000
set_option maxHeartbeats 8000000
namespace Tr
mutual
def cnt:Tr→Nat
 | .mk o _ _ _ k=>(if o=0 then 1 else 0)+cntO k
def cntO:Option (List Tr)→Nat
 | none=>0
 | some l=>cntL l
def cntL:List Tr→Nat
 | []=>0
 | t::l=>t.cnt+cntL l
end
theorem cntL_append:∀ a b,cntL (a++b)=cntL a+cntL b
 | [],b=>by simp [cntL]
 | t::a,b=>by rw [List.cons_append,cntL,cntL,cntL_append a b];omega
theorem cntO_getD (k:Option (List Tr)):cntO k=cntL (k.getD []):=by cases k<;>rfl
end Tr
theorem ZQa {t:Tr} {c:Int} (hk:t.ks=[]) (hK:∀ st,S Tb Qb [t.av] st=some (.int .i64 c,st)) (st:St):S Tb YL [t.av] st=some (.int .i64 (if c=3∨c=4 then 1 else 0),st):=by
 obtain ⟨o,h,m,s,k⟩:=t
 obtain ⟨ka,hka,hka2⟩:∃ ka,Tr.avO k=ka∧(ka=.nils∨ka=.lit []):=by
  cases k with
  | none=>exact ⟨_,rfl,.inl rfl⟩
  | some l=>have:l=[]:=hk;subst this;exact ⟨_,rfl,.inr rfl⟩
 simp only [Tr.av,hka] at *
 refine Z5 rfl (fun A hA=>?_)
 rcases hka2 with rfl|rfl
 all_goals repeat' (first|refine ZE ?_|refine ZC ?_|refine ZF rfl ?_|refine ZO rfl rfl ?_|refine ZS rfl rfl rfl rfl ?_|refine Z8 rfl ?_|refine Ja rfl rfl ?_|refine Zp rfl rfl rfl rfl ?_|refine ZB rfl ?_|refine ZA ?_|refine YJ rfl rfl ?_|refine JI rfl ?_|(refine Zh rfl rfl (fun _=>?_) (fun _=>?_)<;>try (exfalso;omega))|(refine Zl rfl rfl (fun _=>?_) (fun _=>?_)<;>try (exfalso;omega))|refine ZU rfl ?_|refine ZG rfl ?_|refine Ze rfl rfl rfl ?_|refine ZD rfl rfl rfl (hK _) ?_|refine Q0 ?_|refine ZI ?_|refine ZQ ?_|refine Zo ?_|refine ZL ?_|refine ZP ?_|refine Za ?_|refine ZY rfl ?_)
 all_goals refine Zd hA (by first|exact .inl rfl|exact .inr rfl) rfl rfl rfl rfl ?_
 all_goals simp [*]
theorem Zjj {l:List Tr} {t:Tr} (h:t∈l):t.cnt≤Tr.cntL l:=by
 induction l with
 | nil=>simp at h
 | cons u l ih =>
  rw [Tr.cntL]
  rcases List.mem_cons.1 h with rfl|h
  ·omega
  ·have:=ih h;omega
theorem ZOg (l:List Tr) (i:Nat):Tr.cntL (l.take i)≤Tr.cntL l:=by
 have h:Tr.cntL l=Tr.cntL (l.take i)+Tr.cntL (l.drop i):=by rw [← Tr.cntL_append,List.take_append_drop]
 omega
theorem Zj6 {N:ZJ} {t:Tr} (hv:Val N t):t.cnt<4294967296→∀ st,S Tb YL [t.av] st=some (.int .i64 t.cnt,st):=by
 induction hv with
 | @kept o h m k x h0 hx hok hh hm hk =>
  intro hc st
  have:=ZQa (t:=.mk o h m [] k) hk (fun st=>ZJy (.mk o h m [] k) ⟨h0,rfl,hk⟩ st) st
  rw [this]
  have e:(Tr.mk o h m [] k).cnt=0:=by rw [Tr.cnt,Tr.cntO_getD,hk,if_neg h0];rfl
  rw [e];rfl
 | @leaf s k h1 h2 hk =>
  intro hc st
  have:=ZQa (t:=.mk 0 0 .zero s k) hk (fun st=>ZJz (.mk 0 0 .zero s k) ⟨rfl,rfl,rfl,h1,h2,hk⟩ st) st
  rw [this]
  have e:(Tr.mk 0 0 .zero s k).cnt=1:=by rw [Tr.cnt,Tr.cntO_getD,hk,if_pos rfl];rfl
  rw [e];rfl
 | @inner h l hh h2 h4 hl hb hv ih =>
  intro hc st
  have hK:=fun st=>ZGp (.mk 0 (h+1) .zero [] (some l)) ⟨rfl,rfl,rfl,Nat.succ_le_succ (Nat.zero_le _),hh,h2,h4⟩ st
  have e:(Tr.mk 0 (h+1) .zero [] (some l)).cnt=1+Tr.cntL l:=by rw [Tr.cnt,if_pos rfl];rfl
  rw [e] at hc ⊢
  simp only [Tr.av,Tr.avO,Tr.avL_map,Mea.zero] at hK ⊢
  refine Z5 rfl (fun A hA=>?_)
  repeat' (first|refine ZE ?_|refine ZC ?_|refine ZF rfl ?_|refine ZO rfl rfl ?_|refine ZS rfl rfl rfl rfl ?_|refine Z8 rfl ?_|refine Zp rfl rfl rfl rfl ?_|refine ZB rfl ?_|refine ZA ?_|refine QC rfl ?_|(refine Zl rfl rfl (fun _=>?_) (fun _=>?_)<;>try (exfalso;omega))|refine ZU rfl ?_|refine Ze rfl rfl rfl ?_|refine ZD rfl rfl rfl (hK _) ?_|refine ZL ?_)
  all_goals try contradiction
  refine Zq (α:=Nat × List Blk) (fun p=>[(3,.int .i64 ((1+Tr.cntL (l.take p.1):Nat):Int)),(16,.lit (l.map Tr.av)),(17,.int .i64 l.length),(18,.int .i64 p.1)])
   (fun p=>⟨A,false,.arr 7 0 [.agg [.int .u64 (0:Nat),.int .i64 ((h+1:Nat):Int),.int .i64 0,.int .i64 0,.int .i64 0,.str [],.lit (l.map Tr.av)]]::p.2⟩) (fun p=>p.1≤l.length) (fun p=>l.length-p.1) (0,[]) ?_ rfl (by simp) ?_
  ·simp [Tr.cntL]
  rintro ⟨i,G⟩ hi
  simp only at hi ⊢
  have h6:=ZOg l i
  have h7:=ZOg l (i+1)
  repeat' (first|refine ZE ?_|refine ZC ?_|refine ZF rfl ?_|refine ZB rfl ?_|refine ZA ?_|(refine Zh rfl rfl (fun _=>?_) (fun _=>?_)<;>try (exfalso;omega))|refine ZU rfl ?_|refine ZG rfl ?_|refine Z0 rfl rfl rfl ?_|refine Qr rfl rfl (by omega) Z6 (fun _ _=>?_)|refine QQ rfl (Zr _) ?_|refine Qs rfl rfl (Zr _) ?_|refine Yh rfl rfl rfl (QJ _ _ _) (Qt _ _) rfl ?_|refine ZI ?_|refine ZQ ?_|refine Zo ?_|refine ZL ?_|refine ZP ?_|refine Za ?_|refine ZY rfl ?_|refine Zj ?_)
  ·rename_i t ht
   have ht2:l[i]?=some t:=ht
   have hm:=List.mem_of_getElem? ht2
   have h5:=ih t hm (by have:=Zjj hm;omega)
   rw [Zm ht2,Tr.cntL_append,Tr.cntL,Tr.cntL] at h7
   repeat' (first|refine ZC ?_|refine ZF rfl ?_|refine ZB rfl ?_|refine ZA ?_|refine Zi rfl rfl (by omega) ?_|refine ZD rfl rfl (by first|rfl|(simp only [List.nil_append,List.append_nil,List.cons_append,Zn,ZZ,Zb];first|done|rfl)) (h5 _) ?_|refine Z2 ?_|refine Z4 ?_)
   refine ⟨(i+1,G++[.arr 7 0 [t.av]]),⟨?_,rfl⟩,by simp only;omega,by simp only;omega⟩
   simp only [Zm ht2,Tr.cntL_append,Tr.cntL]
   rw [show ((1+Tr.cntL (l.take i):Nat):Int)+(t.cnt:Int)=((1+(Tr.cntL (l.take i)+(t.cnt+0)):Nat):Int) by omega]
   rfl
  ·have hi':i=l.length:=by omega
   subst hi'
   rw [List.take_length]
   refine Zd hA (by first|exact .inl rfl|exact .inr rfl) rfl rfl rfl rfl ?_
   rfl
theorem ZgO:GoodN []:=fun o x h=>by simp [lk] at h
def exS:List UInt8:=[97,98,99,100,101,102,103,104,105,106,107,108,109,110,111,112,113]
theorem Zhy:QX exS=.mk 0 1 .zero [] (some [Qd [97,98,99,100,101,102,103,104,105],Qd [106,107,108,109,110,111,112,113]]):=by
 rfl
theorem Zjk (st:St):S Tb J1 [] st=some (.bool true,st):=by
 have hB:=fun st=>ZbK ZgO exS (by decide) st
 rw [Zhy] at hB
 have hv:Val [] (.mk 0 1 .zero [] (some [Qd [97,98,99,100,101,102,103,104,105],Qd [106,107,108,109,110,111,112,113]])):=by
  refine .inner (by decide) (by decide) (by decide) ?_ ?_ ?_
  all_goals intro t ht
  all_goals simp only [List.mem_cons,List.not_mem_nil,or_false] at ht
  all_goals rcases ht with rfl|rfl
  ·rfl
  ·rfl
  ·intro _;rw [Y1];decide
  ·intro _;rw [Y1];decide
  ·exact ZE3 ⟨by decide,by decide⟩
  ·exact ZE3 ⟨by decide,by decide⟩
 have hC:=fun st=>Zj6 hv (by decide) st
 rw [show (Tr.mk 0 1 .zero [] (some [Qd [97,98,99,100,101,102,103,104,105],Qd [106,107,108,109,110,111,112,113]])).cnt=3 from rfl] at hC
 simp only [Tr.av,Tr.avO,Tr.avL,Qd,Mea.zero,exS] at hB hC
 refine Z5 rfl (fun A hA=>?_)
 repeat' (first|refine ZE ?_|refine ZC ?_|refine ZF rfl ?_|refine ZO rfl rfl ?_|refine ZS rfl rfl rfl rfl ?_|refine Z8 rfl ?_|refine Zp rfl rfl rfl rfl ?_|refine QB rfl rfl ?_|refine ZB rfl ?_|refine ZA ?_|refine YJ rfl rfl ?_|refine QQ rfl rfl ?_|refine ZhU rfl rfl (by first|omega|decide|(simp only [List.length_cons,List.length_nil];omega)) rfl rfl ?_|(refine Zl rfl rfl (fun _=>?_) (fun _=>?_)<;>try (exfalso;omega))|(refine YH rfl rfl (fun _=>?_) (fun _=>?_)<;>try contradiction)|refine Ze rfl rfl rfl ?_|refine Zv rfl rfl rfl rfl rfl rfl ?_|refine ZD rfl rfl rfl (hB _) ?_|refine ZD rfl rfl rfl (hC _) ?_|refine ZQ ?_|refine ZP ?_)
 refine Zd hA (by first|exact .inl rfl|exact .inr rfl) rfl rfl rfl rfl ?_
 rfl
end Go.Q15
namespace Go.Q15
open Go Go.QAbs
set_option maxRecDepth 100000
set_option maxHeartbeats 8000000
theorem ZWh (s:List UInt8):QAbs.allBytes (QI s)=some s:=by
 induction s with
 | nil=>rfl
 | cons x s ih =>
  show ((QAbs.byteOf (AV.int .u8 x.toNat)).bind fun b=>(QAbs.allBytes (QI s)).map (b::·))=_
  rw [ih]
  simp [QAbs.byteOf]
theorem ZWi {b lv i1 i2 i3:Nat} {f:FuncId} (st:St) (h:lv<b):Zc QN b st (.func (.func f) [] [.ptr lv i1 0 0 0,.ptr lv i2 0 0 0,.ptr lv i3 0 0 0])=some (.func (.func f) [] [.ptr lv i1 0 0 0,.ptr lv i2 0 0 0,.ptr lv i3 0 0 0],st):=by
 simp only [Zc,QN,ZfR,if_true,mapSt,Option.bind_some,if_pos h,ZAG]
theorem ZeX {A:List (Bool × List Blk)} {b0 b1 b2 b3 b4:Blk} {v:Nat} {t:List UInt8}:Qu ⟨A,false,[b0,b1,b2,b3,b4]⟩ A.length 3 2 v t=⟨A,false,[b0,b1,.arr 1 v (QI t),.arr 1 0 [.ref A.length 2 v 0 t.length],b4]⟩:=by
 simp [Qu,St.upd]
theorem Zkb {N:ZJ} (hN:GoodN N) {st:St} {lv ix:Nat} (hr:Rd st lv ix N) {t:Tr} (ht:VE N t) (hb:t.bytes≤65536):S Tb ZIk [.ptr lv ix 0 0 0,t.av] st=some (.tup [.str (t.txt N),.int .i64 0],st):=by
 refine Z5 rfl (fun A hA=>?_)
 have hlv:lv<A.length:=by
  obtain ⟨a0,a1,im,a3,a4,a5,h1,h2⟩:=hr
  have:=St.get_le h1
  rw [hA];simp;omega
 have hrp:=fun L=>hr.push hA (ro:=false) (L:=L)
 have hC:=fun L=>ZWS (hrp L) ht hb
 rcases ht with he|hv
 ·rw [he.txt]
  have hK:=fun st=>ZCo t he st
  repeat' (first|refine ZE ?_|refine ZC ?_|refine ZF rfl ?_|refine ZS rfl rfl rfl rfl ?_|refine ZB rfl ?_|refine ZA ?_|(refine Zl rfl rfl (fun _=>?_) (fun _=>?_)<;>try (exfalso;omega))|(refine Zu rfl rfl (fun _=>?_) (fun _=>?_)<;>try (exfalso;omega))|refine ZU rfl ?_|refine ZG rfl ?_|refine ZIg rfl rfl ?_|refine Ze rfl rfl rfl ?_|refine ZJx rfl ?_|refine Qs rfl rfl (Zr _) ?_|refine ZS rfl rfl rfl (Zr _) ?_|refine Z0 rfl (Z6 _) (QM _) ?_|refine ZD rfl rfl (by first|rfl|(simp only [List.nil_append,List.append_nil,List.cons_append,Zn,ZZ,Zb];first|done|rfl)) (hC _) ?_|refine ZD rfl rfl (by first|rfl|(simp only [List.nil_append,List.append_nil,List.cons_append,Zn,ZZ,Zb];first|done|rfl)) (hK _) ?_|refine Zv rfl rfl rfl (ZWi _ (Nat.lt_succ_self _)) rfl rfl ?_|refine ZI ?_|refine ZQ ?_|refine ZP ?_|refine ZX ?_)
  all_goals try (exfalso;omega)
  all_goals refine Zd hA (by first|exact .inl rfl|exact .inr rfl) rfl rfl rfl rfl ?_
  all_goals rfl
 ·obtain ⟨k,hk1,hK⟩:=hv.kindNe
  repeat' (first|refine ZE ?_|refine ZC ?_|refine ZF rfl ?_|refine ZS rfl rfl rfl rfl ?_|refine ZB rfl ?_|refine ZA ?_|(refine Zl rfl rfl (fun _=>?_) (fun _=>?_)<;>try (exfalso;omega))|(refine Zu rfl rfl (fun _=>?_) (fun _=>?_)<;>try (exfalso;omega))|refine ZG rfl ?_|refine ZIg rfl rfl ?_|refine Ze rfl rfl rfl ?_|refine ZJx rfl ?_|refine Qs rfl rfl (Zr _) ?_|refine ZS rfl rfl rfl (Zr _) ?_|refine Z0 rfl (Z6 _) (QM _) ?_|refine ZD rfl rfl (by first|rfl|(simp only [List.nil_append,List.append_nil,List.cons_append,Zn,ZZ,Zb];first|done|rfl)) (hC _) ?_|refine ZD rfl rfl (by first|rfl|(simp only [List.nil_append,List.append_nil,List.cons_append,Zn,ZZ,Zb];first|done|rfl)) (hK _) ?_|refine Zv rfl rfl rfl (ZWi _ (Nat.lt_succ_self _)) rfl rfl ?_|refine ZI ?_)
  all_goals try (exfalso;omega)
  have hwa:∀ L,L=[.arr 1 0 [.ptr lv ix 0 0 0],.arr 7 0 [t.av],.arr 1 0 [],.arr 1 0 [.ref A.length 2 0 0 0],.arr 1 0 [.func (.func Yf) [] [.ptr A.length 0 0 0 0,.ptr A.length 3 0 0 0,.ptr A.length 4 0 0 0]]] →
   Sp Tb Yf [t.av,.ptr A.length 0 0 0 0,.ptr A.length 3 0 0 0,.ptr A.length 4 0 0 0] ⟨A,false,L⟩ fun v st'=>v=.int .i64 0∧∃ ver',st'=Qu ⟨A,false,L⟩ A.length 3 2 ver' ([]++t.txt N):=by
   rintro L rfl
   refine ZkQ hN t.h t hv rfl hb (pl:=lv) (px:=ix) (ver:=0) ⟨hrp _,by omega,by rw [St.get_cur];rfl,by rw [St.get_cur];rfl,⟨by decide,by decide⟩,⟨by decide,by decide⟩⟩ ⟨by simp [St.wr],by rw [St.get_cur];rfl,by rw [St.get_cur];rfl,by decide⟩ (by simp;omega)
  refine ZTW rfl rfl (wk4 _ _ _ _ rfl rfl rfl) (hwa _ rfl) ?_
  rintro v st' ⟨rfl,v2,rfl⟩
  rw [List.nil_append,ZeX]
  repeat' (first|refine ZE ?_|refine ZC ?_|refine ZF rfl ?_|refine ZS rfl rfl rfl rfl ?_|refine ZB rfl ?_|refine ZA ?_|(refine Zu rfl rfl (fun _=>?_) (fun _=>?_)<;>try (exfalso;omega))|refine ZG rfl ?_|refine ZI ?_)
  refine ZkK rfl (v:=.str (t.txt N)) ?_ ?_
  ·have hl:=ZJk (t.txt N)
   show (ZDr v2 0 (t.txt N).length (St.get _ A.length 2)).bind _=_
   rw [St.get_cur]
   show (ZDr v2 0 (t.txt N).length (some (Blk.arr 1 v2 (QI (t.txt N))))).bind _=_
   simp only [ZDr,true_and,hl,Nat.zero_add,Nat.le_refl,if_true,List.drop_zero,Option.bind_some]
   rw [List.take_of_length_le (by omega),ZWh];rfl
  repeat' (first|refine ZF rfl ?_|refine ZB rfl ?_|refine ZA ?_|refine ZQ ?_|refine ZP ?_)
  refine Zd hA (by first|exact .inl rfl|exact .inr rfl) rfl rfl rfl rfl ?_
  rfl
end Go.Q15
namespace Go.Q15
open Go Go.QAbs
set_option maxRecDepth 100000
set_option maxHeartbeats 8000000
structure Frm (L:List Blk) (X:Nat→Prop) (L':List Blk) (X':Nat→Prop):Prop where
 len:L.length≤L'.length
 old:∀ i,i<L.length→¬ X i→L'[i]?=L[i]?
 own:∀ i,X' i→X i∨L.length≤i
theorem Frm.trans {L0 L1 L2:List Blk} {X0 X1 X2:Nat→Prop} (h:Frm L0 X0 L1 X1) (g:Frm L1 X1 L2 X2):Frm L0 X0 L2 X2:=by
 have h1:=h.len
 have h2:=g.len
 refine ⟨by omega,fun i hi hn=>?_,fun i hi=>?_⟩
 ·rw [g.old i (by omega) (fun q=>by rcases h.own i q with w|w;exact hn w;omega),h.old i hi hn]
 ·rcases g.own i hi with w|w
  ·exact h.own i w
  ·exact .inr (by omega)
theorem Frm.app {L:List Blk} {X:Nat→Prop} (T:List Blk):Frm L X (L++T) X :=
 ⟨by simp,fun i hi _=>List.getElem?_append_left hi,fun i h=>.inl h⟩
def Fx (L:List Blk) (X:Nat→Prop) (F:List (Nat × Blk)):Prop:=∀ p∈F,L[p.1]?=some p.2∧¬ X p.1
theorem Fx.frm {L L':List Blk} {X X':Nat→Prop} {F:List (Nat × Blk)} (h:Fx L X F) (g:Frm L X L' X'):Fx L' X' F:=by
 intro p hp
 obtain ⟨h1,h2⟩:=h p hp
 have hlt:=(List.getElem?_eq_some_iff.1 h1).1
 exact ⟨by rw [g.old _ hlt h2];exact h1,fun q=>by rcases g.own _ q with w|w;exact h2 w;omega⟩
theorem Fx.append {L:List Blk} {X:Nat→Prop} {F G:List (Nat × Blk)} (h:Fx L X F) (g:Fx L X G):Fx L X (F++G):=fun p hp=>by
 rcases List.mem_append.1 hp with q|q
 ·exact h p q
 ·exact g p q
def Rx (L:List Blk) (X:Nat→Prop) (R:List (Nat × Ro)):Prop:=Fx L X (R.map fun p=>(p.1,Blk.arr 5 0 [p.2.av]))
theorem Rx.frm {L L':List Blk} {X X':Nat→Prop} {R:List (Nat × Ro)} (h:Rx L X R) (g:Frm L X L' X'):Rx L' X' R:=Fx.frm h g
theorem Rx.append {L:List Blk} {X:Nat→Prop} {R S:List (Nat × Ro)} (h:Rx L X R) (g:Rx L X S):Rx L X (R++S):=by
 unfold Rx;rw [List.map_append];exact Fx.append h g
theorem Rx.get {L:List Blk} {X:Nat→Prop} {R:List (Nat × Ro)} (h:Rx L X R) {p:Nat × Ro} (hp:p∈R):L[p.1]?=some (.arr 5 0 [p.2.av])∧¬ X p.1:=h (p.1,.arr 5 0 [p.2.av]) (List.mem_map.2 ⟨p,hp,rfl⟩)
def penX (ip:Nat) (td:AV) (i:Nat):Prop:=i=ip∨∃ lv ver s n,td=.ref lv i ver s n
structure Pen (A:List (Bool × List Blk)) (L:List Blk) (ip:Nat) (a:AV) (td:AV) (cls:List AV):Prop where
 st:∃ rp,L[ip]?=some (.arr 3 0 [.agg [a,td,rp]])
 td:(td=.nils∧cls=[])∨∃ tx ver,td=.ref A.length tx ver 0 cls.length∧L[tx]?=some (.arr 1 ver cls)∧tx≠ip∧cls≠[]
theorem Pen.frm {A:List (Bool × List Blk)} {L L':List Blk} {ip:Nat} {a td:AV} {cls:List AV} (h:Pen A L ip a td cls) (g:∀ i,penX ip td i→L'[i]?=L[i]?):Pen A L' ip a td cls:=by
 obtain ⟨⟨rp,h1⟩,h2⟩:=h
 refine ⟨⟨rp,by rw [g ip (.inl rfl)];exact h1⟩,?_⟩
 rcases h2 with q|⟨tx,ver,e1,e2,e3⟩
 ·exact .inl q
 ·exact .inr ⟨tx,ver,e1,by rw [g tx (.inr ⟨_,_,_,_,e1⟩)];exact e2,e3⟩
theorem Pen.lt {A:List (Bool × List Blk)} {L:List Blk} {ip:Nat} {a td:AV} {cls:List AV} (h:Pen A L ip a td cls) {i:Nat} (hi:penX ip td i):i<L.length:=by
 obtain ⟨⟨rp,h1⟩,h2⟩:=h
 rcases hi with rfl|⟨lv,ver,s,n,e⟩
 ·exact (List.getElem?_eq_some_iff.1 h1).1
 ·rcases h2 with ⟨q,_⟩|⟨tx,ver2,e1,e2,e3⟩
  ·rw [q] at e;simp at e
  ·rw [e1] at e
   simp only [AV.ref.injEq] at e
   rw [← e.2.1]
   exact (List.getElem?_eq_some_iff.1 e2).1
theorem Pen.app {A:List (Bool × List Blk)} {L:List Blk} {ip:Nat} {a td:AV} {cls:List AV} (h:Pen A L ip a td cls) (T:List Blk):Pen A (L++T) ip a td cls :=
 h.frm fun i hi=>List.getElem?_append_left (h.lt hi)
end Go.Q15
namespace Go.Q15
open Go Go.QAbs
set_option maxRecDepth 100000
set_option maxHeartbeats 8000000
inductive ItC where
 | leaf (s:List UInt8)
 | inn (h:Nat) (ks:List Nat)
structure It where
 rx:Nat
 c:ItC
namespace Tr
mutual
def mea:Tr→Mea
 | .mk o h m s k=>if o≠0 then m else if h=0 then Ya s else QE (meaO k)
def meaO:Option (List Tr)→List Mea
 | none=>[]
 | some l=>Zjl l
def Zjl:List Tr→List Mea
 | []=>[]
 | t::l=>t.mea::Zjl l
end
theorem meaL_map:∀ l,Zjl l=l.map mea
 | []=>rfl
 | t::l=>by rw [Zjl,meaL_map l];rfl
end Tr
theorem ZbS (h:Nat) (l:List Tr):(Tr.mk 0 (h+1) .zero [] (some l)).mea=QE (l.map Tr.mea):=by
 rw [Tr.mea,Tr.meaO,Tr.meaL_map];simp
theorem ZOh (s:List UInt8) (k:Option (List Tr)):(Tr.mk 0 0 .zero s k).mea=Ya s:=by rw [Tr.mea];simp
theorem ZOi {o h:Nat} {m:Mea} {s:List UInt8} {k:Option (List Tr)} (h0:o≠0):(Tr.mk o h m s k).mea=m:=by rw [Tr.mea];simp [h0]
structure Mea.Chn (m:Mea):Prop where
 l0:0≤m.l
 lr:m.l≤m.r
 rb:m.r≤m.b
theorem ZWj:∀ {l:List Mea},(∀ m∈l,m.Chn)→(QE l).Chn
 | [],_=>⟨by decide,by decide,by decide⟩
 | m::l,h=>by
  obtain ⟨a1,a2,a3⟩:=h m (by simp)
  obtain ⟨b1,b2,b3⟩:=ZWj (l:=l) (fun x hx=>h x (by simp [hx]))
  constructor<;>simp only [QE,Mea.add]<;>omega
theorem Zc6 (s:List UInt8):(Ya s).Chn:=by
 have h2:=ZOd s
 have h3:=List.countP_le_length (p:=Qc) (l:=s)
 constructor<;>simp only [Ya]<;>omega
theorem NdOk.chn {x:Nd} (h:NdOk x):x.mea.Chn:=by
 rcases h with h|⟨n,ks,h⟩
 ·have hm:x.mea=Ya x.text:=by unfold Nd.mea;rw [if_pos h.h]
  rw [hm];exact Zc6 _
 ·have e:=h.eq
  subst e
  have hms:Nd.mea ⟨n+1,[],some ks⟩=QE (ks.map Kid.m):=rfl
  rw [hms]
  refine ZWj (fun m hm=>?_)
  obtain ⟨k,hk,rfl⟩:=List.mem_map.1 hm
  have:=h.kid k hk
  exact ⟨this.l0,this.lr,this.rb⟩
theorem ZeY:∀ l:List Tr,(∀ t∈l,t.mea.b=t.bytes)→(QE (l.map Tr.mea)).b=Tr.bytesL l
 | [],_=>rfl
 | t::l,h=>by
  rw [List.map_cons,QE,Mea.add,Tr.bytesL]
  simp only
  rw [h t (by simp),ZeY l (fun u hu=>h u (by simp [hu]))]
theorem Val.mea_ok {N:ZJ} {t:Tr} (hv:Val N t):t.mea.b=t.bytes∧t.mea.Chn:=by
 induction hv with
 | @kept o h m k x h0 hx hok hh hm hk =>
  rw [ZOi h0]
  refine ⟨?_,by rw [← hm];exact hok.chn⟩
  rw [Tr.bytes,Tr.bytesO_getD,hk];simp [Tr.bytesL]
 | @leaf s k h1 h2 hk =>
  rw [ZOh]
  refine ⟨?_,Zc6 s⟩
  rw [Tr.bytes,Tr.bytesO_getD,hk];simp [Tr.bytesL,Ya,Mea.zero]
 | @inner h l hh h2 h4 hl hb hv ih =>
  rw [ZbS]
  refine ⟨?_,ZWj (fun m hm=>?_)⟩
  ·rw [ZeY l (fun u hu=>(ih u hu).1),Tr.bytes,Tr.bytesO];simp [Mea.zero]
  ·obtain ⟨u,hu,rfl⟩:=List.mem_map.1 hm
   exact (ih u hu).2
mutual
inductive AddT:Tr→Nat→List It→List (Nat × Ro)→Prop
 | kept {o h m k rx} (h0:o≠0):AddT (.mk o h m [] k) rx [] [(rx,⟨o,h,m⟩)]
 | leaf {s k rx}:AddT (.mk 0 0 .zero s k) rx [⟨rx,.leaf s⟩] [(rx,⟨0,0,Ya s⟩)]
 | inner {h l rx rs its R} (hl:AddL l rs its R) (hn:(R.map Prod.fst).Nodup) (hx:rx∉R.map Prod.fst):AddT (.mk 0 (h+1) .zero [] (some l)) rx (its++[⟨rx,.inn (h+1) rs⟩]) (R++[(rx,⟨0,h+1,QE (l.map Tr.mea)⟩)])
inductive AddL:List Tr→List Nat→List It→List (Nat × Ro)→Prop
 | nil:AddL [] [] [] []
 | cons {t l rx rs i1 i2 R1 R2} (ht:AddT t rx i1 R1) (hl:AddL l rs i2 R2):AddL (t::l) (rx::rs) (i1++i2) (R1++R2)
end
theorem AddL.snoc {t:Tr} {rx:Nat} {i1:List It} {R1:List (Nat × Ro)} (ht:AddT t rx i1 R1):∀ {l:List Tr} {rs:List Nat} {its:List It} {R:List (Nat × Ro)},AddL l rs its R→AddL (l++[t]) (rs++[rx]) (its++i1) (R++R1)
 | _,_,_,_,.nil=>by have:=AddL.cons ht .nil;simpa using this
 | _,_,_,_,.cons h g=>by
  have:=AddL.cons h (AddL.snoc ht g)
  simpa [List.append_assoc] using this
theorem AddL.len:∀ {l:List Tr} {rs:List Nat} {its:List It} {R:List (Nat × Ro)},AddL l rs its R→rs.length=l.length
 | _,_,_,_,.nil=>rfl
 | _,_,_,_,.cons h g=>by simp [g.len]
mutual
theorem AddT.cnt:∀ {t:Tr} {rx:Nat} {its:List It} {R:List (Nat × Ro)},AddT t rx its R→its.length≤t.cnt
 | _,_,_,_,.kept h0=>Nat.zero_le _
 | _,_,_,_,.leaf=>by rw [Tr.cnt];simp
 | _,_,_,_,.inner hl hn hx=>by
  have:=AddL.cnt hl
  rw [Tr.cnt,Tr.cntO];simp;omega
theorem AddL.cnt:∀ {l:List Tr} {rs:List Nat} {its:List It} {R:List (Nat × Ro)},AddL l rs its R→its.length≤Tr.cntL l
 | _,_,_,_,.nil=>Nat.le_refl _
 | _,_,_,_,.cons h g=>by
  have h1:=h.cnt
  have h2:=g.cnt
  rw [Tr.cntL];simp;omega
end
def No5 (F:List (Nat × Blk)):Prop:=∀ p∈F,∃ w v es,p.2=Blk.arr w v es∧w≠5
theorem No5.nil:No5 []:=fun p hp=>by simp at hp
theorem No5.cons {F:List (Nat × Blk)} {i w v:Nat} {es:List AV} (hw:w≠5) (h:No5 F):No5 ((i,Blk.arr w v es)::F):=fun p hp=>by
 rcases List.mem_cons.1 hp with rfl|q
 ·exact ⟨w,v,es,rfl,hw⟩
 ·exact h p q
theorem No5.append {F G:List (Nat × Blk)} (h:No5 F) (g:No5 G):No5 (F++G):=fun p hp=>by
 rcases List.mem_append.1 hp with q|q
 ·exact h p q
 ·exact g p q
theorem Rx.one {L:List Blk} {X:Nat→Prop} {i:Nat} {r:Ro} (h:L[i]?=some (.arr 5 0 [r.av])) (hn:¬ X i):Rx L X [(i,r)]:=by
 intro p hp
 simp only [List.map_cons,List.map_nil,List.mem_singleton] at hp
 subst hp
 exact ⟨h,hn⟩
end Go.Q15
namespace Go.Q15
open Go Go.QAbs
set_option maxRecDepth 100000
set_option maxHeartbeats 8000000
theorem AddT.root {t:Tr} {rx:Nat} {its:List It} {R:List (Nat × Ro)} (h:AddT t rx its R):∃ r:Ro,(rx,r)∈R∧r.m=t.mea∧r.h=t.h:=by
 cases h with
 | @kept o h m k _ h0=>exact ⟨⟨o,h,m⟩,by simp,(ZOi h0).symm,rfl⟩
 | @leaf s k _=>exact ⟨⟨0,0,Ya s⟩,by simp,(ZOh _ _).symm,rfl⟩
 | @inner h l _ rs its R hl hn hx=>exact ⟨⟨0,h+1,QE (l.map Tr.mea)⟩,by simp,(ZbS _ _).symm,rfl⟩
end Go.Q15
namespace Go.Q15
open Go Go.QAbs
set_option maxRecDepth 100000
set_option maxHeartbeats 8000000
def Ro.kid (r:Ro):Kid:=⟨r.at_,r.m⟩
end Go.Q15
namespace Go.Q15
open Go Go.QAbs
set_option maxRecDepth 100000
set_option maxHeartbeats 8000000
def ZbT (ρ:Nat→Ro):ItC→Nd
 | .leaf s=>⟨0,s,none⟩
 | .inn h ks=>⟨h,[],some (ks.map fun k=>(ρ k).kid)⟩
def Ro.wr (r:Ro) (h:Nat):Ro:=⟨h,r.h,r.m⟩
end Go.Q15
namespace Go.Q15
open Go Go.QAbs
set_option maxRecDepth 100000
def Ext (N M:ZJ):Prop:=∀ o x,lk N o=some x→lk M o=some x
theorem Ext.refl (N:ZJ):Ext N N:=fun _ _ h=>h
theorem Ext.trans {N M K:ZJ} (h:Ext N M) (g:Ext M K):Ext N K:=fun o x q=>g o x (h o x q)
theorem Val.ext {N M:ZJ} (hs:Ext N M) {t:Tr} (hv:Val N t):Val M t:=by
 induction hv with
 | kept h0 hx hok hh hm hk=>exact .kept h0 (hs _ _ hx) hok hh hm hk
 | leaf h1 h2 hk=>exact .leaf h1 h2 hk
 | inner hh h2 h4 hl hb hv ih=>exact .inner hh h2 h4 hl hb ih
theorem VE.ext {N M:ZJ} (hs:Ext N M) {t:Tr} (hv:VE N t):VE M t:=hv.imp id (Val.ext hs)
theorem ZKA {N M:ZJ} (hN:GoodN N) (hs:Ext N M):∀ n o x,lk N o=some x→x.h=n→JL M n o=JL N n o:=by
 intro n
 induction n with
 | zero=>intro o x hx hh;rw [JL,JL,hx,hs _ _ hx]
 | succ n ih =>
  intro o x hx hh
  rw [JL,JL,hx,hs _ _ hx]
  simp only [Option.map_some,Option.getD_some]
  have hk:=(hN o x hx).2
  have key:∀ l:List Kid,(∀ k∈l,k∈x.ks)→(l.flatMap fun k=>JL M n k.at_)=l.flatMap fun k=>JL N n k.at_:=by
   intro l
   induction l with
   | nil=>intro _;rfl
   | cons k l ih2 =>
    intro h
    obtain ⟨_,y,y1,y2,_⟩:=hk k (h k (by simp))
    rw [List.flatMap_cons,List.flatMap_cons,ih k.at_ y y1 (by omega),ih2 (fun q hq=>h q (by simp [hq]))]
  exact key _ fun _ h=>h
theorem ZbU {r:AR} (ho:AROk r) (hn:0<r.n) (x:Nd):Ext r.nodes (r.add x).nodes:=fun o y h=>by
 rw [ZJn ho hn,if_neg]
 ·exact h
 ·intro q;rw [q,ho.new hn] at h;simp at h
def ZWk (N:ZJ) (x:Nd):Prop:=∀ k∈x.ks,∃ y,lk N k.at_=some y∧NdOk y∧y.h+1=x.h∧y.mea=k.m
theorem Zhz {r:AR} (ho:AROk r) (hn:0<r.n) (hg:GoodN r.nodes) {x:Nd} (hx:NdOk x) (hk:ZWk r.nodes x) (h0:∀ k∈x.ks,k.at_≠0):GoodN (r.add x).nodes:=by
 intro o y h
 have hE:=ZbU ho hn x
 rw [ZJn ho hn] at h
 split at h
 ·simp only [Option.some.injEq] at h
  subst h
  refine ⟨hx.copy,fun k hkk=>?_⟩
  have hkk':k∈x.ks:=hkk
  obtain ⟨z,z1,z2,z3,z4⟩:=hk k hkk'
  exact ⟨h0 k hkk',z,hE _ _ z1,z3,z4⟩
 ·obtain ⟨h1,h2⟩:=hg o y h
  refine ⟨h1,fun k hkk=>?_⟩
  obtain ⟨g0,z,z1,z2,z3⟩:=h2 k hkk
  exact ⟨g0,z,hE _ _ z1,z2,z3⟩
theorem AROk.hnd {r:AR} (h:AROk r) {o:Nat} {x:Nd} (hx:lk r.nodes o=some x):XZ o∧o≠0:=by
 obtain ⟨s,g,h1,h2,h3,h4⟩:=h.key o x hx
 obtain ⟨g',g1,g2,g3⟩:=h.gen s h2
 rw [h4] at g1
 simp only [Option.some.injEq] at g1
 have:=h.n16
 have:=h.most
 unfold XZ
 omega
def ZbV (ρ:Nat→Ro) (k h:Nat):Nat→Ro:=fun i=>if i=k then (ρ i).wr h else ρ i
inductive RunOk:List It→AR→(Nat→Ro)→AR→(Nat→Ro)→List Nat→Prop
 | nil {r ρ}:RunOk [] r ρ r ρ []
 | cons {it its r ρ r' ρ' hs} (hn:0<r.n) (hx:NdOk (ZbT ρ it.c)) (hk:ZWk r.nodes (ZbT ρ it.c)) (h:RunOk its (r.add (ZbT ρ it.c)) (ZbV ρ it.rx r.next) r' ρ' hs):RunOk (it::its) r ρ r' ρ' (r.next::hs)
theorem RunOk.append {i1 i2:List It} {r r1 r2:AR} {ρ ρ1 ρ2:Nat→Ro} {h1 h2:List Nat} (h:RunOk i1 r ρ r1 ρ1 h1) (g:RunOk i2 r1 ρ1 r2 ρ2 h2):RunOk (i1++i2) r ρ r2 ρ2 (h1++h2):=by
 induction h with
 | nil=>exact g
 | cons hn hx hk h ih=>exact .cons hn hx hk (ih g)
namespace Tr
mutual
def wr:Tr→AR→AR × Ro × List Nat
 | .mk o h m s k,r =>
  if o≠0 then (r,⟨o,h,m⟩,[])
  else if h=0 then (r.add ⟨0,s,none⟩,⟨r.next,0,Ya s⟩,[r.next])
  else ((wrO k r).1.add ⟨h,[],some (wrO k r).2.1⟩,⟨(wrO k r).1.next,h,QE ((wrO k r).2.1.map Kid.m)⟩,(wrO k r).2.2++[(wrO k r).1.next])
def wrO:Option (List Tr)→AR→AR × List Kid × List Nat
 | none,r=>(r,[],[])
 | some l,r=>wrL l r
def wrL:List Tr→AR→AR × List Kid × List Nat
 | [],r=>(r,[],[])
 | t::l,r=>((wrL l (t.wr r).1).1,(t.wr r).2.1.kid::(wrL l (t.wr r).1).2.1,(t.wr r).2.2++(wrL l (t.wr r).1).2.2)
end
end Tr
structure WrB (r:AR) (c:Nat) (r':AR) (hs:List Nat):Prop where
 ok:AROk r'
 good:GoodN r'.nodes
 ext:Ext r.nodes r'.nodes
 n:r'.n+c=r.n
 len:hs.length=c
 new:∀ h∈hs,lk r.nodes h=none
 all:∀ h x,lk r'.nodes h=some x→lk r.nodes h=some x∨h∈hs
 has:∀ h∈hs,∃ x,lk r'.nodes h=some x
 nodup:hs.Nodup
 frees:r'.frees=r.frees
 stale:r'.stale=r.stale
 slots:r'.slots=r.slots
 allocs:r'.allocs=r.allocs+c
 nl:r'.nodes.length=r.nodes.length+c
theorem WrB.refl {r:AR} (ho:AROk r) (hg:GoodN r.nodes):WrB r 0 r [] :=
 ⟨ho,hg,.refl _,by simp,rfl,fun h q=>by simp at q,fun h x q=>.inl q,fun h q=>by simp at q,by simp,rfl,rfl,rfl,by simp,by simp⟩
theorem WrB.trans {r r1 r2:AR} {c d:Nat} {h1 h2:List Nat} (h:WrB r c r1 h1) (g:WrB r1 d r2 h2):WrB r (c+d) r2 (h1++h2):=by
 refine ⟨g.ok,g.good,h.ext.trans g.ext,by have:=h.n;have:=g.n;omega,by rw [List.length_append,h.len,g.len],fun o ho=>?_,fun o x ho=>?_,fun o ho=>?_,?_,g.frees.trans h.frees,g.stale.trans h.stale,g.slots.trans h.slots,by rw [g.allocs,h.allocs];omega,by rw [g.nl,h.nl];omega⟩
 ·rcases List.mem_append.1 ho with q|q
  ·exact h.new o q
  ·cases hk:lk r.nodes o with
   | none=>rfl
   | some x=>have:=g.new o q;rw [h.ext _ _ hk] at this;simp at this
 ·rcases g.all o x ho with q|q
  ·rcases h.all o x q with w|w
   ·exact .inl w
   ·exact .inr (by simp [w])
  ·exact .inr (by simp [q])
 ·rcases List.mem_append.1 ho with q|q
  ·obtain ⟨x,hx⟩:=h.has o q
   exact ⟨x,g.ext _ _ hx⟩
  ·exact g.has o q
 ·rw [List.nodup_append]
  refine ⟨h.nodup,g.nodup,fun x hx y hy e=>?_⟩
  subst e
  obtain ⟨z,hz⟩:=h.has x hx
  rw [g.new x hy] at hz
  simp at hz
theorem WrB.one {r:AR} (ho:AROk r) (hn:0<r.n) (hg:GoodN r.nodes) {x:Nd} (hx:NdOk x) (hk:ZWk r.nodes x) (h0:∀ k∈x.ks,k.at_≠0):WrB r 1 (r.add x) [r.next]:=by
 refine ⟨ho.add hn x,Zhz ho hn hg hx hk h0,ZbU ho hn x,?_,rfl,fun o q=>?_,fun o y q=>?_,fun o q=>?_,by simp,rfl,rfl,rfl,rfl,by simp [AR.add,AR.alloc]⟩
 ·show r.n-1+1=r.n;omega
 ·simp only [List.mem_singleton] at q;subst q;exact ho.new hn
 ·rw [ZJn ho hn] at q
  split at q
  ·rename_i e;exact .inr (by simp [e])
  ·exact .inl q
 ·simp only [List.mem_singleton] at q
  exact ⟨x.copy,by rw [ZJn ho hn,if_pos q]⟩
end Go.Q15
namespace Go.Q15
open Go Go.QAbs
set_option maxRecDepth 100000
structure WrOk (N:ZJ) (t:Tr) (r':AR) (ro:Ro):Prop where
 rm:ro.m=t.mea
 rh:ro.h=t.h
 live:∃ y,lk r'.nodes ro.at_=some y∧NdOk y∧y.h=t.h∧y.mea=t.mea
 txt:JL r'.nodes t.h ro.at_=t.txt N
def Exec (N:ZJ) (t:Tr):Prop:=∀ (r:AR),AROk r→GoodN r.nodes→Ext N r.nodes→t.cnt≤r.n→∀ (rx:Nat) (its:List It) (R:List (Nat × Ro)) (ρ:Nat→Ro),AddT t rx its R→(∀ p∈R,ρ p.1=p.2)→(R.map Prod.fst).Nodup →
 ∃ ρ',RunOk its r ρ (t.wr r).1 ρ' (t.wr r).2.2∧ρ' rx=(t.wr r).2.1∧(∀ k,k∉R.map Prod.fst→ρ' k=ρ k)∧WrB r t.cnt (t.wr r).1 (t.wr r).2.2∧WrOk N t (t.wr r).1 (t.wr r).2.1
structure WrLs (N:ZJ) (l:List Tr) (h:Nat) (r':AR) (ks:List Kid):Prop where
 len:ks.length=l.length
 m:ks.map Kid.m=l.map Tr.mea
 ok:∀ k∈ks,KidOk h k∧k.at_≠0∧∃ y,lk r'.nodes k.at_=some y∧NdOk y∧y.h=h∧y.mea=k.m
 txt:(ks.flatMap fun k=>JL r'.nodes h k.at_)=Tr.txtL N l
theorem Zkw {N:ZJ} (hN:GoodN N) {h:Nat}:∀ (l:List Tr),(∀ u∈l,Val N u∧u.h=h∧Big u)→(∀ u∈l,Exec N u)→∀ (r:AR),AROk r→GoodN r.nodes→Ext N r.nodes→Tr.cntL l≤r.n→∀ (rs:List Nat) (its:List It) (R:List (Nat × Ro)) (ρ:Nat→Ro),AddL l rs its R→(∀ p∈R,ρ p.1=p.2)→(R.map Prod.fst).Nodup →
 ∃ ρ',RunOk its r ρ (Tr.wrL l r).1 ρ' (Tr.wrL l r).2.2∧(rs.map fun k=>(ρ' k).kid)=(Tr.wrL l r).2.1∧(∀ k,k∉R.map Prod.fst→ρ' k=ρ k)∧WrB r (Tr.cntL l) (Tr.wrL l r).1 (Tr.wrL l r).2.2∧WrLs N l h (Tr.wrL l r).1 (Tr.wrL l r).2.1:=by
 intro l
 induction l with
 | nil =>
  intro _ _ r ho hg hE hc rs its R ρ ha hR hnd
  cases ha
  exact ⟨ρ,.nil,rfl,fun _ _=>rfl,.refl ho hg,⟨rfl,rfl,fun k hk=>by simp [Tr.wrL] at hk,rfl⟩⟩
 | cons t l ih =>
  intro hv hx r ho hg hE hc rs its R ρ ha hR hnd
  cases ha with
  | @cons _ _ rx rs i1 i2 R1 R2 ht hl =>
   rw [Tr.cntL] at hc
   rw [List.map_append,List.nodup_append] at hnd
   obtain ⟨nd1,nd2,nd3⟩:=hnd
   obtain ⟨ρ1,a1,a2,a3,a4,a5⟩:=hx t (by simp) r ho hg hE (by omega) rx i1 R1 ρ ht (fun p hp=>hR p (by simp [hp])) nd1
   have hn1:=a4.n
   have hd:∀ p∈R2,p.1∉R1.map Prod.fst:=fun p hp q=>nd3 _ q _ (List.mem_map.2 ⟨p,hp,rfl⟩) rfl
   obtain ⟨ρ2,b1,b2,b3,b4,b5⟩:=ih (fun u hu=>hv u (by simp [hu])) (fun u hu=>hx u (by simp [hu])) _ a4.ok a4.good (hE.trans a4.ext) (by omega) rs i2 R2 ρ1 hl (fun p hp=>by rw [a3 _ (hd p hp)];exact hR p (by simp [hp])) nd2
   obtain ⟨rr,hrr,_,_⟩:=ht.root
   have hrx:rx∉R2.map Prod.fst:=fun q=>nd3 rx (List.mem_map.2 ⟨_,hrr,rfl⟩) rx q rfl
   obtain ⟨v1,v2,v3⟩:=hv t (by simp)
   refine ⟨ρ2,a1.append b1,?_,?_,?_,?_⟩
   ·rw [List.map_cons,b3 rx hrx,a2,b2];rfl
   ·intro k hk
    rw [List.map_append,List.mem_append,not_or] at hk
    rw [b3 k hk.2,a3 k hk.1]
   ·rw [Tr.cntL];exact a4.trans b4
   ·obtain ⟨y,y1,y2,y3,y4⟩:=a5.live
    have hh:=a4.ok.hnd y1
    have hkm:((t.wr r).2.1.kid).m=t.mea:=a5.rm
    have hka:((t.wr r).2.1.kid).at_=(t.wr r).2.1.at_:=rfl
    refine ⟨by show _+1=_;rw [b5.len];rfl,?_,?_,?_⟩
    ·show ((t.wr r).2.1.kid).m::_=_
     rw [hkm,b5.m];rfl
    ·intro k hk
     rcases List.mem_cons.1 hk with rfl|q
     ·refine ⟨?_,hh.2,y,b4.ext _ _ y1,y2,by rw [y3,v2],by rw [y4];exact hkm.symm⟩
      have hs:=v1.size hN v3
      have hb:=v1.mea_ok.1
      have:=y2.kid (a:=(t.wr r).2.1.at_) (by rw [y3,y4,hb];exact hs) hh.1
      rw [y3,v2,y4,← a5.rm] at this
      exact this
     ·exact b5.ok k q
    ·show JL (Tr.wrL l (t.wr r).1).1.nodes h (t.wr r).2.1.at_++((Tr.wrL l (t.wr r).1).2.1.flatMap fun k=>JL (Tr.wrL l (t.wr r).1).1.nodes h k.at_)=_
     rw [b5.txt,Tr.txtL,← a5.txt,v2]
     congr 1
     exact ZKA a4.good b4.ext h _ y y1 (by rw [y3,v2])
theorem exec_ok {N:ZJ} (hN:GoodN N) {t:Tr} (hv:Val N t):t.bytes≤65536→Exec N t:=by
 induction hv with
 | @kept o h m k x h0 hx hok hh hm hk =>
  intro _ r ho hg hE hc rx its R ρ ha hR hnd
  have e:(Tr.mk o h m [] k).wr r=(r,⟨o,h,m⟩,[]):=by rw [Tr.wr,if_pos h0]
  have ec:(Tr.mk o h m [] k).cnt=0:=by rw [Tr.cnt,Tr.cntO_getD,hk,if_neg h0];rfl
  rw [e,ec]
  cases ha with
  | kept _ =>
   refine ⟨ρ,.nil,hR (rx,⟨o,h,m⟩) (by simp),fun _ _=>rfl,.refl ho hg,⟨(ZOi h0).symm,rfl,⟨x,hE _ _ hx,hok,hh,by rw [ZOi h0];exact hm⟩,?_⟩⟩
   show JL r.nodes h o=_
   rw [ZKA hN hE h o x hx hh,Tr.txt,if_neg h0,Tr.txtO_getD,hk]
   simp [Tr.txtL]
  | leaf=>exact absurd rfl h0
  | inner=>exact absurd rfl h0
 | @leaf s k h1 h2 hk =>
  intro _ r ho hg hE hc rx its R ρ ha hR hnd
  have e:(Tr.mk 0 0 .zero s k).wr r=(r.add ⟨0,s,none⟩,⟨r.next,0,Ya s⟩,[r.next]):=by rw [Tr.wr];simp
  have ec:(Tr.mk 0 0 .zero s k).cnt=1:=by rw [Tr.cnt,Tr.cntO_getD,hk];rfl
  rw [ec] at hc
  rw [e,ec]
  have hx:NdOk ⟨0,s,none⟩:=.inl ⟨rfl,h1,h2,rfl⟩
  cases ha with
  | kept h0=>exact absurd rfl h0
  | leaf =>
   have hρ:ρ rx=⟨0,0,Ya s⟩:=hR (rx,⟨0,0,Ya s⟩) (by simp)
   refine ⟨ZbV ρ rx r.next,.cons (by omega) hx (fun k hk=>by simp [ZbT,Nd.ks] at hk) .nil,?_,fun k hk=>?_,.one ho (by omega) hg hx (fun k hk=>by simp [Nd.ks] at hk) (fun k hk=>by simp [Nd.ks] at hk),⟨(ZOh s k).symm,rfl,⟨(⟨0,s,none⟩:Nd).copy,?_,hx.copy,rfl,?_⟩,?_⟩⟩
   ·simp only [ZbV,if_true,hρ];rfl
   ·simp only [List.map_cons,List.map_nil,List.mem_singleton] at hk
    simp only [ZbV,if_neg hk]
   ·rw [ZJn ho (by omega),if_pos rfl]
   ·rw [ZOh];rfl
   ·show JL _ 0 r.next=_
    rw [JL,ZJn ho (by omega),if_pos rfl,Tr.txt,if_pos rfl,Tr.txtO_getD,hk]
    simp [Tr.txtL,Nd.copy]
 | @inner h l hh h2 h4 hl hb hv ih =>
  intro hb2 r ho hg hE hc rx its R ρ ha hR hnd
  have eb:(Tr.mk 0 (h+1) .zero [] (some l)).bytes=Tr.bytesL l:=by rw [Tr.bytes,Tr.bytesO];simp [Mea.zero]
  have hbs:∀ u∈l,u.bytes≤65536:=fun u hu=>by
   obtain ⟨i,hi,rfl⟩:=List.getElem_of_mem hu
   have h3:Tr.bytesL l=Tr.bytesL (l.take i)+(l[i].bytes+Tr.bytesL (l.drop (i+1))):=by
    conv=>lhs;rw [← List.take_append_drop (i+1) l,Zm (List.getElem?_eq_getElem hi),Tr.bytesL_append,Tr.bytesL_append]
    simp [Tr.bytesL];omega
   have n1:=Tr.bytesL_nonneg (l:=l.take i) (fun t ht=>by have:=(hv t (List.mem_of_mem_take ht)).pos.2;omega)
   have n2:=Tr.bytesL_nonneg (l:=l.drop (i+1)) (fun t ht=>by have:=(hv t (List.mem_of_mem_drop ht)).pos.2;omega)
   omega
  have ec:(Tr.mk 0 (h+1) .zero [] (some l)).cnt=Tr.cntL l+1:=by rw [Tr.cnt,Tr.cntO];simp;omega
  rw [ec] at hc
  have hbl:(QE (l.map Tr.mea)).b=Tr.bytesL l:=ZeY l fun u hu=>(hv u hu).mea_ok.1
  have e:(Tr.mk 0 (h+1) .zero [] (some l)).wr r=((Tr.wrL l r).1.add ⟨h+1,[],some (Tr.wrL l r).2.1⟩,⟨(Tr.wrL l r).1.next,h+1,QE ((Tr.wrL l r).2.1.map Kid.m)⟩,(Tr.wrL l r).2.2++[(Tr.wrL l r).1.next]):=by
   rw [Tr.wr];simp [Tr.wrO]
  rw [e,ec]
  cases ha with
  | kept h0=>exact absurd rfl h0
  | @inner _ _ _ rs i1 R1 hal hn1 hx1 =>
   obtain ⟨ρ1,a1,a2,a3,a4,a5⟩:=Zkw hN l (fun u hu=>⟨hv u hu,hl u hu,fun q=>hb u hu (by rw [← hl u hu];exact q)⟩) (fun u hu=>ih u hu (hbs u hu)) r ho hg hE (by omega) rs i1 R1 ρ hal (fun p hp=>hR p (by simp [hp])) hn1
   have hρ:ρ1 rx=⟨0,h+1,QE (l.map Tr.mea)⟩:=by rw [a3 rx hx1];exact hR (rx,⟨0,h+1,QE (l.map Tr.mea)⟩) (by simp)
   have hn:0<(Tr.wrL l r).1.n:=by have:=a4.n;omega
   generalize hks:(Tr.wrL l r).2.1=ks at *
   generalize (Tr.wrL l r).1=r1 at *
   have hx:NdOk ⟨h+1,[],some ks⟩:=.inr ⟨h,ks,rfl,by omega,by have:=a5.len;omega,by have:=a5.len;omega,fun k hk=>(a5.ok k hk).1,by rw [a5.m,hbl];omega⟩
   have hki:ZWk r1.nodes ⟨h+1,[],some ks⟩:=fun k hk=>by
    obtain ⟨_,_,y,y1,y2,y3,y4⟩:=a5.ok k hk
    exact ⟨y,y1,y2,by show y.h+1=h+1;omega,y4⟩
   have hnd2:ZbT ρ1 (.inn (h+1) rs)=⟨h+1,[],some ks⟩:=by rw [ZbT,a2]
   have hrun:RunOk [⟨rx,.inn (h+1) rs⟩] r1 ρ1 (r1.add ⟨h+1,[],some ks⟩) (ZbV ρ1 rx r1.next) [r1.next]:=by
    have:=RunOk.cons (it:=⟨rx,.inn (h+1) rs⟩) (ρ:=ρ1) hn (by rw [hnd2];exact hx) (by rw [hnd2];exact hki) .nil
    rw [hnd2] at this
    exact this
   refine ⟨ZbV ρ1 rx r1.next,a1.append hrun,?_,fun k hk=>?_,a4.trans (.one a4.ok hn a4.good hx hki (fun k hk=>(a5.ok k hk).2.1)),⟨?_,rfl,⟨(⟨h+1,[],some ks⟩:Nd).copy,?_,hx.copy,rfl,?_⟩,?_⟩⟩
   ·simp only [ZbV,if_true,hρ,Ro.wr,a5.m]
   ·rw [List.map_append,List.mem_append,not_or] at hk
    have:k≠rx:=fun q=>hk.2 (by simp [q])
    simp only [ZbV,if_neg this]
    exact a3 k hk.1
   ·rw [ZbS]
    show QE (ks.map Kid.m)=_
    rw [a5.m]
   ·rw [ZJn a4.ok hn,if_pos rfl]
   ·rw [ZbS,← a5.m];rfl
   ·show JL _ (h+1) r1.next=_
    rw [JL,ZJn a4.ok hn,if_pos rfl,Tr.txt,if_pos rfl,Tr.txtO,← a5.txt]
    show (ks.flatMap fun k=>JL (r1.add _).nodes h k.at_)=_
    have key:∀ m:List Kid,(∀ k∈m,k∈ks)→(m.flatMap fun k=>JL (r1.add ⟨h+1,[],some ks⟩).nodes h k.at_)=m.flatMap fun k=>JL r1.nodes h k.at_:=by
     intro m
     induction m with
     | nil=>intro _;rfl
     | cons k m ih2 =>
      intro q
      obtain ⟨_,_,y,y1,y2,y3,y4⟩:=a5.ok k (q k (by simp))
      rw [List.flatMap_cons,List.flatMap_cons,ZKA a4.good (ZbU a4.ok hn _) h k.at_ y y1 y3,ih2 (fun w hw=>q w (by simp [hw]))]
    exact key ks fun _ h=>h
end Go.Q15
namespace Go.Q15
open Go Go.QAbs
set_option maxRecDepth 100000
set_option maxHeartbeats 8000000
end Go.Q15
namespace Go.Q15
open Go Go.QAbs
set_option maxRecDepth 100000
set_option maxHeartbeats 8000000
theorem ZE7 {A:List (Bool × List Blk)} {ro:Bool} {L:List Blk} {lv ix:Nat} {b:Blk} (T:List Blk) (h:St.get ⟨A,ro,L⟩ lv ix=some b):St.get ⟨A,ro,L++T⟩ lv ix=some b:=by
 unfold St.get at h ⊢
 simp only at h ⊢
 split
 ·rename_i q
  rw [if_pos q] at h
  have h2:=(ZOS h).1
  rw [List.getElem?_append_left (List.getElem?_eq_some_iff.1 h2).1];exact h
 ·rename_i q
  rw [if_neg q] at h;exact h
theorem HasR.app {A:List (Bool × List Blk)} {ro:Bool} {L:List Blk} {la b:Nat} {r:AR} (h:HasR ⟨A,ro,L⟩ la b r) (T:List Blk):HasR ⟨A,ro,L++T⟩ la b r :=
 ⟨ZE7 T h.h0,ZE7 T h.h1,ZE7 T h.h2,ZE7 T h.h3,ZE7 T h.h4,ZE7 T h.h5⟩
def PI (t:Tr) (its:List It) (rx:Nat) (ρ:Nat→Ro):Prop:=(IsEmpty t∧its=[]∧ρ rx=.zero)∨(∃ N,Val N t)∧∃ R,AddT t rx its R∧(∀ p∈R,ρ p.1=p.2)∧(R.map Prod.fst).Nodup
def nw (t:Tr):Nat:=if t.old=0∧t.h=0∧t.text=[] then 0 else t.cnt
theorem ZMd {N:ZJ} {t:Tr} (hv:Val N t):nw t=t.cnt:=by
 unfold nw
 cases hv with
 | kept h0=>rw [if_neg];simp [Tr.old,h0]
 | leaf h1=>rw [if_neg];rintro ⟨_,_,q⟩;simp only [Tr.text] at q;rw [q] at h1;simp at h1
 | inner=>rw [if_neg];simp [Tr.h]
theorem ZOj {t:Tr} (h:IsEmpty t):nw t=0:=by
 unfold nw;rw [if_pos ⟨h.old,h.h,h.text⟩]
theorem ZgP {t:Tr} (ht:IsEmpty t) (st:St):S Tb YL [t.av] st=some (.int .i64 (0:Nat),st) :=
 ZQa (c:=1) ht.ks (fun st=>ZCo t ht st) st
end Go.Q15
namespace Go.Q15
open Go Go.QAbs
set_option maxRecDepth 100000
set_option maxHeartbeats 8000000
theorem ZgQ {b lv ix:Nat} (st:St) (h:lv<b):Zc QN b st (.map lv ix)=some (.map lv ix,st):=by
 simp only [Zc,QN,if_pos h]
def YQ (l:List Nat):List (AV × AV):=l.map fun (h:Nat)=>(AV.int .u64 h,AV.bool true)
theorem Zc7 (o:Nat):∀ l:List Nat,ZAh (.int .u64 o) (YQ l)=some (if o∈l then some (.bool true) else none)
 | []=>rfl
 | p::l=>by
  rw [YQ,List.map_cons,ZAh]
  show (Option.bind (if IntKind.u64=IntKind.u64 then some ((o:Int) == (p:Int)) else none) fun b=>if b=true then some (some (AV.bool true)) else ZAh (.int .u64 o) (YQ l))=_
  rw [if_pos rfl,Option.bind_some,Zc7 o l]
  by_cases q:o=p
  ·subst q;simp
  ·rw [if_neg (by simp;omega)]
   simp [q]
theorem ZbW (o:Nat):∀ l:List Nat,o∉l→ZIW (.int .u64 o) (.bool true) (YQ l)=some (YQ (l++[o]))
 | [],_=>rfl
 | p::l,h=>by
  simp only [List.mem_cons,not_or] at h
  rw [YQ,List.map_cons,ZIW]
  show (Option.bind (if IntKind.u64=IntKind.u64 then some ((o:Int) == (p:Int)) else none) fun b=>if b=true then some ((AV.int .u64 o,AV.bool true)::YQ l) else (ZIW (.int .u64 o) (.bool true) (YQ l)).map ((AV.int .u64 p,AV.bool true)::·))=_
  rw [if_pos rfl,Option.bind_some,if_neg (by simp;omega),ZbW o l h.2]
  rfl
theorem ZOk {st:St} {lv mx:Nat} {l:List Nat} (hg:st.get lv mx=some (.map (YQ l))) (o:Nat):lookV st 0 (.bool false) false (.int .u64 o) (.map lv mx)=some (.bool (decide (o∈l))):=by
 simp only [lookV,Zbg,hg,ZQ8,Option.bind_some,Yr,if_true,Zc7]
 by_cases q:o∈l
 ·simp [q,ZYq]
 ·simp [q,ZYq]
def JH (h:Nat):AV:=.int .u64 h
section
variable {O:Orc} {k:List Fr} {Q:Yv} {e:Env} {A:List (Bool × List Blk)} {L:List Blk} {keep:List Nat} {is:List QAbs.PI} {d:Nat}
theorem Zjm {st:St} {s x:Opd} {lv jx ver w bytes:Nat} {es ys:List AV} (hA:A=st.A++[(st.ro,st.L)]) (hwr:st.wr lv) (hg:st.get lv jx=some (.arr w ver es)) (hs:Zg e s=some (.ref lv jx ver 0 es.length)) (hx:Zg e x=some (.lit ys))
 (hw:JE w ys=true) (hsl:mapSt (Zc QN (lv+1)) ⟨A,false,L⟩ ys=some (ys,⟨A,false,L⟩)) (hl:es.length+ys.length<4294967296) (hb:bytes≤4096)
 (h:∀ A',A'=(st.upd lv jx (.arr w (ver+1) (es++ys))).A++[((st.upd lv jx (.arr w (ver+1) (es++ys))).ro,(st.upd lv jx (.arr w (ver+1) (es++ys))).L)]→Is O is keep k Q ((d,.ref lv jx (ver+1) 0 (es.length+ys.length))::e) ⟨A',false,L⟩) :
 Is O (⟨some d,none,false,.app w bytes s x⟩::is) keep k Q e ⟨A,false,L⟩:=by
 have hlv:=St.get_le hg
 refine Z3 (v:=.ref lv jx (ver+1) 0 (es.length+ys.length)) (st':=St.upd ⟨A,false,L⟩ lv jx (.arr w (ver+1) (es++ys))) ?_ ?_
 ·have hg':=ZW hA (ro:=false) (L:=L) hg
  have hw':=Xu hA hlv hwr (ro:=false) (L:=L)
  simp only [Zk,evalPO,ZH hs,ZH hx,elems,Option.bind_some,Q9,hw,if_true,hsl,ZZk,hg',ZLn,true_and,if_pos (show 0+es.length≤es.length∧es.length+ys.length<4294967296∧bytes≤4096 by omega),List.drop_zero]
  rw [List.take_of_length_le (by omega),St.put_upd hw' hg']
  rfl
 ·rw [J6 hA hlv]
  exact h _ rfl
end
namespace Tr
mutual
def kwT:Tr→List Nat→List Nat
 | .mk o _ _ _ k,out=>kwO k (if o≠0∧o∉out then out++[o] else out)
def kwO:Option (List Tr)→List Nat→List Nat
 | none,out=>out
 | some l,out=>kwL l out
def kwL:List Tr→List Nat→List Nat
 | [],out=>out
 | t::l,out=>kwL l (kwT t out)
end
mutual
def siz:Tr→Nat
 | .mk _ _ _ _ k=>1+sizO k
def sizO:Option (List Tr)→Nat
 | none=>0
 | some l=>sizL l
def sizL:List Tr→Nat
 | []=>0
 | t::l=>siz t+sizL l
end
theorem kwL_append:∀ (a b:List Tr) (out:List Nat),kwL (a++b) out=kwL b (kwL a out)
 | [],b,out=>rfl
 | t::a,b,out=>by rw [List.cons_append,kwL,kwL,kwL_append a b]
theorem sizL_append:∀ a b,sizL (a++b)=sizL a+sizL b
 | [],b=>by simp [sizL]
 | t::a,b=>by rw [List.cons_append,sizL,sizL,sizL_append a b];omega
theorem kwO_getD (k:Option (List Tr)) (out:List Nat):kwO k out=kwL (k.getD []) out:=by cases k<;>rfl
theorem sizO_getD (k:Option (List Tr)):sizO k=sizL (k.getD []):=by cases k<;>rfl
theorem kwT_len (t:Tr):∀ out,(kwT t out).length≤out.length+t.siz:=by
 induction t using Tr.ind with
 | step o h m s k ih =>
  intro out
  rw [kwT,siz,kwO_getD,sizO_getD]
  have key:∀ (l:List Tr),(∀ t∈l,∀ out,(kwT t out).length≤out.length+t.siz)→∀ out,(kwL l out).length≤out.length+sizL l:=by
   intro l
   induction l with
   | nil=>intro _ out;simp [kwL,sizL]
   | cons a l ih2 =>
    intro hl out
    rw [kwL,sizL]
    have h1:=ih2 (fun t ht=>hl t (by simp [ht])) (kwT a out)
    have h2:=hl a (by simp) out
    omega
  have:=key (k.getD []) ih (if o≠0∧o∉out then out++[o] else out)
  split at this
  ·rename_i q;rw [if_pos q];rw [List.length_append,List.length_singleton] at this;omega
  ·rename_i q;rw [if_neg q];omega
theorem kwL_len:∀ (l:List Tr) (out:List Nat),(kwL l out).length≤out.length+sizL l
 | [],out=>by simp [kwL,sizL]
 | t::l,out=>by
  rw [kwL,sizL]
  have h1:=kwL_len l (kwT t out)
  have h2:=kwT_len t out
  omega
end Tr
structure KS (st:St) (lv mb mx ob ox wb ver:Nat) (out:List Nat):Prop where
 wr:st.wr lv
 hm:st.get lv mb=some (.arr 1 0 [.map lv mx])
 hmx:st.get lv mx=some (.map (YQ out))
 ho:st.get lv ob=some (.arr 1 0 [.ref lv ox ver 0 out.length])
 hox:st.get lv ox=some (.arr 1 ver (out.map JH))
 hw:st.get lv wb=some (.arr 1 0 [.func (.func Ye) [] [.ptr lv mb 0 0 0,.ptr lv ob 0 0 0,.ptr lv wb 0 0 0]])
 n1:mx≠ox
 n2:mx≠ob
 n3:ox≠ob
 n4:mb≠mx∧mb≠ox∧mb≠ob
 n5:wb≠mx∧wb≠ox∧wb≠ob
def JO (st:St) (lv mx ob ox ver:Nat) (out:List Nat):St:=((st.upd lv mx (.map (YQ out))).upd lv ox (.arr 1 ver (out.map JH))).upd lv ob (.arr 1 0 [.ref lv ox ver 0 out.length])
theorem KS.get {st:St} {lv mb mx ob ox wb ver:Nat} {out:List Nat} (h:KS st lv mb mx ob ox wb ver out) (v:Nat) (t:List Nat) (l' i':Nat) :
 (JO st lv mx ob ox v t).get l' i'=if l'=lv∧i'=ob then some (.arr 1 0 [.ref lv ox v 0 t.length]) else if l'=lv∧i'=ox then some (.arr 1 v (t.map JH)) else if l'=lv∧i'=mx then some (.map (YQ t)) else st.get l' i':=by
 have g1:∀ l' i',(st.upd lv mx (.map (YQ t))).get l' i'=if l'=lv∧i'=mx then some (.map (YQ t)) else st.get l' i':=fun l' i'=>St.get_upd h.hmx rfl
 have b1:(st.upd lv mx (.map (YQ t))).get lv ox=some (.arr 1 ver (out.map JH)):=by rw [g1,if_neg (fun q=>h.n1 q.2.symm)];exact h.hox
 have g2:∀ l' i',((st.upd lv mx (.map (YQ t))).upd lv ox (.arr 1 v (t.map JH))).get l' i'=if l'=lv∧i'=ox then some (.arr 1 v (t.map JH)) else (st.upd lv mx (.map (YQ t))).get l' i':=fun l' i'=>St.get_upd b1 rfl
 have b2:((st.upd lv mx (.map (YQ t))).upd lv ox (.arr 1 v (t.map JH))).get lv ob=some (.arr 1 0 [.ref lv ox ver 0 out.length]):=by rw [g2,if_neg (fun q=>h.n3 q.2.symm),g1,if_neg (fun q=>h.n2 q.2.symm)];exact h.ho
 rw [JO,St.get_upd b2 rfl,g2,g1]
theorem KS.put {st:St} {lv mb mx ob ox wb ver:Nat} {out:List Nat} (h:KS st lv mb mx ob ox wb ver out) (v:Nat) (t:List Nat):KS (JO st lv mx ob ox v t) lv mb mx ob ox wb v t:=by
 refine ⟨St.wr_upd (St.wr_upd (St.wr_upd h.wr h.wr) (St.wr_upd h.wr h.wr)) (St.wr_upd (St.wr_upd h.wr h.wr) (St.wr_upd h.wr h.wr)),?_,?_,?_,?_,?_,h.n1,h.n2,h.n3,h.n4,h.n5⟩
 ·rw [h.get,if_neg (fun q=>h.n4.2.2 q.2),if_neg (fun q=>h.n4.2.1 q.2),if_neg (fun q=>h.n4.1 q.2)];exact h.hm
 ·rw [h.get,if_neg (fun q=>h.n2 q.2),if_neg (fun q=>h.n1 q.2),if_pos ⟨rfl,rfl⟩]
 ·rw [h.get,if_pos ⟨rfl,rfl⟩]
 ·rw [h.get,if_neg (fun q=>h.n3 q.2),if_pos ⟨rfl,rfl⟩]
 ·rw [h.get,if_neg (fun q=>h.n5.2.2 q.2),if_neg (fun q=>h.n5.2.1 q.2),if_neg (fun q=>h.n5.1 q.2)];exact h.hw
theorem KS.same {st:St} {lv mb mx ob ox wb ver:Nat} {out:List Nat} (h:KS st lv mb mx ob ox wb ver out):JO st lv mx ob ox ver out=st:=by
 rw [JO,upd_same h.hmx,upd_same h.hox,upd_same h.ho]
theorem ZgR {st:St} {lv mx ob ox v1 v2:Nat} {s t:List Nat} (h1:mx≠ox) (h2:mx≠ob) (h3:ox≠ob):JO (JO st lv mx ob ox v1 s) lv mx ob ox v2 t=JO st lv mx ob ox v2 t:=by
 unfold JO
 generalize Blk.map (YQ s)=a1
 generalize Blk.map (YQ t)=a2
 generalize Blk.arr 1 v1 (s.map JH)=b1
 generalize Blk.arr 1 v2 (t.map JH)=b2
 generalize Blk.arr 1 0 [AV.ref lv ox v1 0 s.length]=c1
 generalize Blk.arr 1 0 [AV.ref lv ox v2 0 t.length]=c2
 rw [ZOY (st:=(st.upd lv mx a1).upd lv ox b1) (fun q=>h2 q.symm),ZOY (st:=st.upd lv mx a1) (fun q=>h1 q.symm),ZOX,ZOY (st:=(st.upd lv mx a2).upd lv ox b1) (fun q=>h3 q.symm),ZOX,ZOX]
theorem ZeZ {st:St} {A:List (Bool × List Blk)} {ro:Bool} {L:List Blk} (hA:A=st.A++[(st.ro,st.L)]) {lv mx ob ox ver:Nat} {t:List Nat} (hl:lv≤st.A.length) :
 JO ⟨A,ro,L⟩ lv mx ob ox ver t=⟨(JO st lv mx ob ox ver t).A++[((JO st lv mx ob ox ver t).ro,(JO st lv mx ob ox ver t).L)],ro,L⟩:=by
 unfold JO
 rw [J6 hA hl]
 have e2:=fun (b:Blk)=>J6 (st:=st.upd lv mx (.map (YQ t))) (A:=(st.upd lv mx (.map (YQ t))).A++[((st.upd lv mx (.map (YQ t))).ro,(st.upd lv mx (.map (YQ t))).L)]) (ro:=ro) (L:=L) (lv:=lv) (ix:=ox) (b:=b) rfl (by rw [St.upd_A];exact hl)
 rw [e2]
 exact J6 rfl (by rw [St.upd_A,St.upd_A];exact hl)
theorem KS.push {st:St} {A:List (Bool × List Blk)} {ro:Bool} {L:List Blk} (hA:A=st.A++[(st.ro,st.L)]) {lv mb mx ob ox wb ver:Nat} {out:List Nat} (h:KS st lv mb mx ob ox wb ver out):KS ⟨A,ro,L⟩ lv mb mx ob ox wb ver out :=
 ⟨Xu hA (St.get_le h.hm) h.wr,ZW hA h.hm,ZW hA h.hmx,ZW hA h.ho,ZW hA h.hox,ZW hA h.hw,h.n1,h.n2,h.n3,h.n4,h.n5⟩
theorem Zjn (st:St) (lv mx ob ox ver:Nat) (out:List Nat):(JO st lv mx ob ox ver out).A.length=st.A.length:=by
 unfold JO;rw [St.upd_A,St.upd_A,St.upd_A]
theorem Zjo (t:Tr):t.Pos→∀ {st:St} {lv mb mx ob ox wb ver:Nat} {out:List Nat},KS st lv mb mx ob ox wb ver out→out.length+t.siz<4294967296 →
 Sp Tb Ye [t.av,.ptr lv mb 0 0 0,.ptr lv ob 0 0 0,.ptr lv wb 0 0 0] st fun v st'=>v=.tup []∧∃ ver',st'=JO st lv mx ob ox ver' (t.kwT out):=by
 induction t using Tr.ind with
 | step o h m s k ih =>
  intro hp st lv mb mx ob ox wb ver out hs hl
  cases hp with
  | mk h0 h4 hk2 =>
  have e1:(Tr.mk o h m s k).kwT out=Tr.kwL (k.getD []) (if o≠0∧o∉out then out++[o] else out):=by rw [Tr.kwT,Tr.kwO_getD]
  have e2:(Tr.mk o h m s k).siz=1+Tr.sizL (k.getD []):=by rw [Tr.siz,Tr.sizO_getD]
  rw [e1]
  rw [e2] at hl
  refine ZhW rfl ?_
  obtain ⟨A,hA⟩:∃ A,A=st.A++[(st.ro,st.L)]:=⟨_,rfl⟩
  rw [← hA]
  have hlv:=St.get_le hs.hm
  have hav:(Tr.mk o h m s k).av=.agg [.int .u64 o,.int .i64 h,.int .i64 m.b,.int .i64 m.r,.int .i64 m.l,.str s,slV Tr.av k]:=by rw [Tr.av,Tr.avO_sl]
  -- the loop over the children
  have key:∀ (ver1:Nat) (out1:List Nat) (A1:List (Bool × List Blk)),A1=(JO st lv mx ob ox ver1 out1).A++[((JO st lv mx ob ox ver1 out1).ro,(JO st lv mx ob ox ver1 out1).L)]→out1.length≤out.length+1→∀ e:Env,e=[(3,.ptr lv wb 0 0 0),(4,.ptr A.length 0 0 0 0)]∨e=[(1,.ptr lv mb 0 0 0),(2,.ptr lv ob 0 0 0),(3,.ptr lv wb 0 0 0),(4,.ptr A.length 0 0 0 0),(16,.bool false)] →
   Ru (S Tb) (.seq ZG3 (.block 0 (.loop ZAu))) [] (fun x e st''=>∃ v st',Jq false ([]:List RV) (x,e,st'')=some (v,st')∧v=.tup []∧∃ ver',st'=JO st lv mx ob ox ver' (Tr.kwL (k.getD []) out1)) e ⟨A1,false,[.arr 7 0 [(Tr.mk o h m s k).av]]⟩:=by
   intro ver1 out1 A1 hA1 hl1 e he
   have hAl:A.length=A1.length:=by rw [hA,hA1];simp [Zjn]
   rw [hAl] at he
   rw [hav]
   cases k with
   | none =>
    simp only [slV]
    rcases he with rfl|rfl
    all_goals repeat' (first|refine ZE ?_|refine ZC ?_|refine ZF rfl ?_|refine ZO rfl rfl ?_|refine ZS rfl rfl rfl rfl ?_|refine ZB rfl ?_|refine ZA ?_|refine JI rfl ?_|(refine Zh rfl rfl (fun _=>?_) (fun _=>?_)<;>try (exfalso;omega))|refine ZG rfl ?_|refine Q0 ?_|refine Zo ?_|refine ZL ?_|refine ZP ?_|refine Za ?_|refine ZY rfl ?_)
    all_goals try (exfalso;omega)
    all_goals exact ⟨_,_,Zd hA1 (.inl rfl) rfl rfl rfl rfl rfl,rfl,ver1,rfl⟩
   | some l =>
    simp only [Option.getD] at h4 hk2 ih hl ⊢
    simp only [slV]
    have hloop:Ru (S Tb) (.loop ZAu) [.blk 0] (fun x e st''=>∃ v st',Jq false ([]:List RV) (x,e,st'')=some (v,st')∧v=.tup []∧∃ ver',st'=JO st lv mx ob ox ver' (Tr.kwL l out1)) [(3,.ptr lv wb 0 0 0),(26,.lit (l.map Tr.av)),(27,.int .i64 l.length),(28,.int .i64 0)] ⟨A1,false,[.arr 7 0 [.agg [.int .u64 o,.int .i64 h,.int .i64 m.b,.int .i64 m.r,.int .i64 m.l,.str s,.lit (l.map Tr.av)]]]⟩:=by
     refine Zq (α:=Nat × List Blk × Nat) (fun p=>[(3,.ptr lv wb 0 0 0),(26,.lit (l.map Tr.av)),(27,.int .i64 l.length),(28,.int .i64 p.1)])
      (fun p=>⟨(JO st lv mx ob ox p.2.2 (Tr.kwL (l.take p.1) out1)).A++[((JO st lv mx ob ox p.2.2 (Tr.kwL (l.take p.1) out1)).ro,(JO st lv mx ob ox p.2.2 (Tr.kwL (l.take p.1) out1)).L)],false,.arr 7 0 [.agg [.int .u64 o,.int .i64 h,.int .i64 m.b,.int .i64 m.r,.int .i64 m.l,.str s,.lit (l.map Tr.av)]]::p.2.1⟩)
      (fun p=>p.1≤l.length) (fun p=>l.length-p.1) (0,[],ver1) rfl ?_ (by simp) ?_
     ·simp only [List.take_zero,Tr.kwL,← hA1]
     rintro ⟨i,G,ver2⟩ hi
     simp only at hi ⊢
     have hk3:=hs.put ver2 (Tr.kwL (l.take i) out1)
     have hpp:∀ v3 t3,JO (JO st lv mx ob ox ver2 (Tr.kwL (l.take i) out1)) lv mx ob ox v3 t3=JO st lv mx ob ox v3 t3:=fun v3 t3=>ZgR hs.n1 hs.n2 hs.n3
     generalize hs1:JO st lv mx ob ox ver2 (Tr.kwL (l.take i) out1)=st1 at *
     obtain ⟨A2,hA2⟩:∃ A2,A2=st1.A++[(st1.ro,st1.L)]:=⟨_,rfl⟩
     rw [← hA2]
     have hgw:=fun L=>ZW hA2 (ro:=false) (L:=L) hk3.hw
     repeat' (first|refine ZE ?_|refine ZC ?_|refine ZB rfl ?_|refine ZA ?_|(refine Zh rfl rfl (fun _=>?_) (fun _=>?_)<;>try (exfalso;omega))|refine ZU rfl ?_|refine ZG rfl ?_|refine Z0 rfl rfl rfl ?_|refine Qr rfl rfl (by omega) Z6 (fun _ _=>?_)|refine QQ rfl (Zr _) ?_|refine Yh rfl rfl rfl (QJ _ _ _) (Qt _ _) rfl ?_|refine ZI ?_|refine Zo ?_|refine ZL ?_|refine ZP ?_|refine Za ?_|refine ZY rfl ?_|refine Zj ?_)
     ·rename_i u hu
      have hu2:l[i]?=some u:=hu
      have hum:=List.mem_of_getElem? hu2
      have hle:lv≤st1.A.length:=St.get_le hk3.hm
      have hsum:Tr.sizL l=Tr.sizL (l.take i)+(u.siz+Tr.sizL (l.drop (i+1))):=by
       conv=>lhs;rw [← List.take_append_drop (i+1) l,Zm hu2,Tr.sizL_append,Tr.sizL_append]
       simp [Tr.sizL];omega
      have hlen:=Tr.kwL_len (l.take i) out1
      have ihu:=fun L=>ih u hum (hk2 u hum) (hk3.push hA2 (ro:=false) (L:=L)) (by omega)
      have hkw:Tr.kwL (l.take (i+1)) out1=u.kwT (Tr.kwL (l.take i) out1):=by
       rw [Zm hu2,Tr.kwL_append];rfl
      refine QG rfl (hgw _) rfl rfl ?_
      repeat' (refine Qs rfl rfl (Zr _) ?_)
      refine ZTW rfl rfl (wk4 _ _ _ _ rfl rfl rfl) (ihu _) ?_
      rintro v st' ⟨rfl,v3,rfl⟩
      rw [ZeZ hA2 hle,hpp,← hkw]
      repeat' (first|refine ZC ?_|refine ZF rfl ?_|refine ZB rfl ?_|refine ZA ?_|refine Zi rfl rfl (by omega) ?_|refine Z2 ?_|refine Z4 ?_)
      exact ⟨(i+1,_,v3),⟨rfl,rfl⟩,by simp only;omega,by simp only;omega⟩
     ·have hi':i=l.length:=by omega
      subst hi'
      rw [List.take_length] at *
      exact ⟨_,_,Zd hA2 (.inl rfl) rfl rfl rfl rfl rfl,rfl,ver2,hs1.symm⟩
    rcases he with rfl|rfl
    all_goals repeat' (first|exact hloop|refine ZE ?_|refine ZC ?_|refine ZF rfl ?_|refine ZO rfl rfl ?_|refine ZS rfl rfl rfl rfl ?_|refine ZB rfl ?_|refine ZA ?_|refine QC rfl ?_|refine ZL ?_)
  have hg1:=fun L=>ZW hA (ro:=false) (L:=L) hs.hm
  have hg2:=fun L=>ZW hA (ro:=false) (L:=L) hs.hmx
  have hlk:=fun L=>ZOk (hg2 L) o
  have hkey0:=key ver out A (by rw [hs.same];exact hA) (by omega) _ (.inr rfl)
  have hwide:=Z6 (Tr.mk o h m s k)
  have hforce:=QM (Tr.mk o h m s k)
  rw [hav] at hwide hforce
  by_cases ho:o=0
  ·subst ho
   rw [if_neg (by simp)]
   rw [hav] at hkey0 ⊢
   repeat' (first|refine Z0 rfl hwide hforce ?_|exact hkey0|refine ZE ?_|refine ZC ?_|refine ZF rfl ?_|refine ZO rfl rfl ?_|refine ZS rfl rfl rfl rfl ?_|refine Ja rfl rfl ?_|refine Zp rfl rfl rfl rfl ?_|refine ZB rfl ?_|refine ZA ?_|(refine Zu rfl rfl (fun _=>?_) (fun _=>?_)<;>try (exfalso;omega))|refine ZG rfl ?_|refine ZI ?_)
   all_goals contradiction
  ·by_cases hm:o∈out
   ·rw [if_neg (by simp [hm])]
    rw [hav] at hkey0 ⊢
    rw [decide_eq_true hm] at hlk
    repeat' (first|refine Z0 rfl hwide hforce ?_|exact hkey0|refine ZE ?_|refine ZC ?_|refine ZF rfl ?_|refine ZO rfl rfl ?_|refine ZS rfl rfl rfl rfl ?_|refine Z8 rfl ?_|refine Zp rfl rfl rfl rfl ?_|refine ZB rfl ?_|refine ZA ?_|(refine Zu rfl rfl (fun _=>?_) (fun _=>?_)<;>try (exfalso;omega))|refine ZG rfl ?_|refine Jy rfl rfl ?_|refine QG rfl (hg1 _) rfl rfl ?_|refine ZDW rfl rfl (hlk _) ?_|refine ZI ?_)
    all_goals contradiction
   ·rw [if_pos ⟨ho,hm⟩]
    have hkey:=key (ver+1) (out++[o])
    rw [hav] at hkey ⊢
    rw [decide_eq_false hm] at hlk
    repeat' (first|refine Z0 rfl hwide hforce ?_|refine ZE ?_|refine ZC ?_|refine ZF rfl ?_|refine ZO rfl rfl ?_|refine ZS rfl rfl rfl rfl ?_|refine Z8 rfl ?_|refine Zp rfl rfl rfl rfl ?_|refine ZB rfl ?_|refine ZA ?_|(refine Zu rfl rfl (fun _=>?_) (fun _=>?_)<;>try (exfalso;omega))|refine ZU rfl ?_|refine Jy rfl rfl ?_|refine QG rfl (hg1 _) rfl rfl ?_|refine ZDW rfl rfl (hlk _) ?_)
    all_goals try contradiction
    refine Zcu hA rfl rfl rfl hs.wr hs.hmx rfl (ZbW o out hm) (fun A' hA'=>?_)
    have q1:∀ l' i',(st.upd lv mx (.map (YQ (out++[o])))).get l' i'=if l'=lv∧i'=mx then some (.map (YQ (out++[o]))) else st.get l' i':=fun l' i'=>St.get_upd hs.hmx rfl
    have ka:(st.upd lv mx (.map (YQ (out++[o])))).get lv ob=some (.arr 1 0 [.ref lv ox ver 0 out.length]):=by rw [q1,if_neg (fun q=>hs.n2 q.2.symm)];exact hs.ho
    have kb:(st.upd lv mx (.map (YQ (out++[o])))).get lv ox=some (.arr 1 ver (out.map JH)):=by rw [q1,if_neg (fun q=>hs.n1 q.2.symm)];exact hs.hox
    have hw1:=St.wr_upd (b:=.map (YQ (out++[o]))) (ix:=mx) hs.wr hs.wr
    have hAl:A.length=A'.length:=by rw [hA,hA'];simp [St.upd_A]
    rw [hAl] at hkey ⊢
    have hput:JO st lv mx ob ox (ver+1) (out++[o])=((st.upd lv mx (.map (YQ (out++[o])))).upd lv ox (.arr 1 (ver+1) (out.map JH++[.int .u64 o]))).upd lv ob (.arr 1 0 [.ref lv ox (ver+1) 0 (out.length+1)]):=by
     unfold JO
     rw [List.map_append,List.length_append];rfl
    rw [hput] at hkey
    clear hput q1
    generalize st.upd lv mx (.map (YQ (out++[o])))=st1 at *
    have hg3:=fun L=>ZW hA' (ro:=false) (L:=L) ka
    repeat' (first|refine ZC ?_|refine ZO rfl rfl ?_|refine ZS rfl rfl rfl rfl ?_|refine ZB rfl ?_|refine ZA ?_|refine QL rfl rfl rfl rfl ?_|refine QG rfl (hg3 _) rfl rfl ?_)
    refine Zjm hA' hw1 kb (by rw [List.length_map];rfl) rfl rfl rfl (by simp;omega) (by decide) (fun A2 hA2=>?_)
    have q2:∀ l' i',(st1.upd lv ox (.arr 1 (ver+1) (out.map JH++[.int .u64 o]))).get l' i'=if l'=lv∧i'=ox then some (.arr 1 (ver+1) (out.map JH++[.int .u64 o])) else st1.get l' i':=fun l' i'=>St.get_upd kb rfl
    have kc:(st1.upd lv ox (.arr 1 (ver+1) (out.map JH++[.int .u64 o]))).get lv ob=some (.arr 1 0 [.ref lv ox ver 0 out.length]):=by rw [q2,if_neg (fun q=>hs.n3 q.2.symm)];exact ka
    have hw2:=St.wr_upd (b:=.arr 1 (ver+1) (out.map JH++[.int .u64 o])) (ix:=ox) hw1 hw1
    have hAl2:A'.length=A2.length:=by rw [hA',hA2];simp [St.upd_A]
    rw [hAl2] at hkey ⊢
    generalize st1.upd lv ox (.arr 1 (ver+1) (out.map JH++[.int .u64 o]))=st2 at *
    refine ZIj hA2 rfl rfl hw2 kc rfl (Qz _ (Nat.lt_succ_self _)) rfl (fun A3 hA3=>?_)
    have hAl3:A2.length=A3.length:=by rw [hA2,hA3];simp [St.upd_A]
    rw [hAl3] at hkey ⊢
    have hk:=hkey A3 (by rw [hA3];simp) (by simp) _ (.inl rfl)
    repeat' (first|exact hk|refine ZB rfl ?_|refine ZA ?_)
theorem Zh0 {t:Tr} (hp:t.Pos) (hsz:t.siz<4294967296) (st:St):S Tb ZDX [t.av] st=some (.lit ((t.kwT []).map JH),st):=by
 refine Z5 rfl (fun A hA=>?_)
 have hW:∀ L,L=[.arr 7 0 [t.av],.arr 1 0 [],.arr 1 0 [.ref A.length 1 0 0 0],.map [],.arr 1 0 [.map A.length 3],.arr 1 0 [.func (.func Ye) [] [.ptr A.length 4 0 0 0,.ptr A.length 2 0 0 0,.ptr A.length 5 0 0 0]]] →
  Sp Tb Ye [t.av,.ptr A.length 4 0 0 0,.ptr A.length 2 0 0 0,.ptr A.length 5 0 0 0] ⟨A,false,L⟩ fun v st'=>v=.tup []∧∃ ver',st'=JO ⟨A,false,L⟩ A.length 3 2 1 ver' (t.kwT []):=by
  rintro L rfl
  refine Zjo t hp (ver:=0) (mb:=4) (mx:=3) (ob:=2) (ox:=1) (wb:=5) ⟨by simp [St.wr],by rw [St.get_cur];rfl,by rw [St.get_cur];rfl,by rw [St.get_cur];rfl,by rw [St.get_cur];rfl,by rw [St.get_cur];rfl,by decide,by decide,by decide,by decide,by decide⟩ (by simp;omega)
 repeat' (first|refine ZE ?_|refine ZC ?_|refine ZF rfl ?_|refine ZS rfl rfl rfl rfl ?_|refine ZB rfl ?_|refine ZA ?_|refine ZIg rfl rfl ?_|refine Ze rfl rfl rfl ?_|refine ZJx rfl ?_|refine ZMy rfl ?_|refine ZS rfl rfl rfl (Zr _) ?_|refine Z0 rfl (Z6 _) (QM _) ?_|refine Zv rfl rfl rfl (ZgQ _ (Nat.lt_succ_self _)) rfl rfl ?_|refine Zv rfl rfl rfl (ZWi _ (Nat.lt_succ_self _)) rfl rfl ?_)
 refine ZTW rfl rfl (wk4 _ _ _ _ rfl rfl rfl) (hW _ rfl) ?_
 rintro v st' ⟨rfl,v2,rfl⟩
 have hpc:∀ b0 b1 b2 b3 b4 b5 w,JO ⟨A,false,[b0,b1,b2,b3,b4,b5]⟩ A.length 3 2 1 v2 w=⟨A,false,[b0,.arr 1 v2 (w.map JH),.arr 1 0 [.ref A.length 1 v2 0 w.length],.map (YQ w),b4,b5]⟩:=by
  intro b0 b1 b2 b3 b4 b5 w
  simp [JO,St.upd]
 rw [hpc]
 generalize t.kwT []=w at *
 repeat' (first|refine ZE ?_|refine ZC ?_|refine ZF rfl ?_|refine ZS rfl rfl rfl rfl ?_|refine ZB rfl ?_|refine ZA ?_|refine ZQ ?_|refine ZP ?_)
 refine Y6 (es:=w.map JH) hA (by first|exact .inl rfl|exact .inr rfl) rfl rfl (by simp) (by intro v hv;obtain ⟨x,_,rfl⟩:=List.mem_map.1 hv;rfl) ?_
 rfl
end Go.Q15
namespace Go.Q15
open Go Go.QAbs
set_option maxRecDepth 100000
set_option maxHeartbeats 8000000
def wrV (t:Tr) (r:AR):AR × Ro × List Nat:=if t.old=0∧t.h=0∧t.text=[] then (r,.zero,[]) else t.wr r
theorem ZfK {N:ZJ} {t:Tr} (hv:Val N t) (r:AR):wrV t r=t.wr r:=by
 unfold wrV
 cases hv with
 | kept h0=>rw [if_neg];simp [Tr.old,h0]
 | leaf h1=>rw [if_neg];rintro ⟨_,_,q⟩;simp only [Tr.text] at q;rw [q] at h1;simp at h1
 | inner=>rw [if_neg];simp [Tr.h]
theorem ZZb {t:Tr} (h:IsEmpty t) (r:AR):wrV t r=(r,.zero,[]):=by
 unfold wrV;rw [if_pos ⟨h.old,h.h,h.text⟩]
theorem Val.not_empty {N:ZJ} {t:Tr} (hv:Val N t):¬ IsEmpty t:=fun h=>by
 have:=hv.pos.2
 have:=h.bytes
 omega
theorem PI.run {r:AR} (ho:AROk r) (hg:GoodN r.nodes) {t:Tr} (hv:VE r.nodes t) (hb:t.bytes≤65536) (hn:nw t≤r.n) {its:List It} {rx:Nat} {ρ:Nat→Ro} (h:PI t its rx ρ) :
 ∃ ρ',RunOk its r ρ (wrV t r).1 ρ' (wrV t r).2.2∧ρ' rx=(wrV t r).2.1:=by
 rcases h with ⟨h1,rfl,h2⟩|⟨⟨M,hM⟩,R,h1,h2,h3⟩
 ·rw [ZZb h1];exact ⟨ρ,.nil,h2⟩
 ·rcases hv with hv|hv
  ·exact absurd hv hM.not_empty
  ·rw [ZfK hv]
   rw [ZMd hv] at hn
   obtain ⟨ρ',a1,a2,_⟩:=exec_ok hg hv hb r ho hg (.refl _) hn rx its R ρ h1 h2 h3
   exact ⟨ρ',a1,a2⟩
theorem RunOk.len {its:List It} {r r':AR} {ρ ρ':Nat→Ro} {hs:List Nat} (h:RunOk its r ρ r' ρ' hs):hs.length=its.length:=by
 induction h with
 | nil=>rfl
 | cons hn hx hk h ih=>simp [ih]
theorem RunOk.inv {it:It} {its:List It} {r r':AR} {ρ ρ':Nat→Ro} {l:List Nat} (h:RunOk (it::its) r ρ r' ρ' l) :
 ∃ hs,l=r.next::hs∧0<r.n∧NdOk (ZbT ρ it.c)∧ZWk r.nodes (ZbT ρ it.c)∧RunOk its (r.add (ZbT ρ it.c)) (ZbV ρ it.rx r.next) r' ρ' hs:=by
 cases h with
 | cons hn hx hk h=>exact ⟨_,rfl,hn,hx,hk,h⟩
theorem RunOk.nil_inv {r r':AR} {ρ ρ':Nat→Ro} {l:List Nat} (h:RunOk [] r ρ r' ρ' l):l=[]∧r'=r∧ρ'=ρ:=by
 cases h;exact ⟨rfl,rfl,rfl⟩
end Go.Q15
namespace Go.QAbs
end Go.QAbs
namespace Go.QAbs
end Go.QAbs
namespace Go.QAbs
end Go.QAbs
namespace Go.QAbs
end Go.QAbs
namespace Go.QAbs
end Go.QAbs
namespace Go.Q15
open Go Go.QAbs
set_option maxRecDepth 100000
set_option maxHeartbeats 8000000
def ZbX (N:ZJ) (o:Nat):Nd:=(lk N o).getD ⟨0,[],none⟩
theorem ZDp {N:ZJ} {o:Nat} {x:Nd} (h:lk N o=some x):ZbX N o=x:=by unfold ZbX;rw [h];rfl
def ZbY (N:ZJ):Nat→Nat→List Nat
 | 0,o=>[o]
 | n+1,o=>o::(ZbX N o).ks.flatMap fun k=>ZbY N n k.at_
theorem Zc8 {s:St} {l i:Nat} {b:Blk} (h:s.get l i=some b) (more:List (Bool × List Blk)) (ro:Bool) (L:List Blk):St.get ⟨s.ps++more,ro,L⟩ l i=some b:=by
 have hl:=St.get_le h
 have h1:=ZW (A:=s.ps) rfl (ro:=ro) (L:=L) h
 unfold St.get at h1 ⊢
 have e1:l≠s.ps.length:=by simp;omega
 have e2:l≠(s.ps++more).length:=by simp;omega
 simp only [if_neg e1,if_neg e2] at h1 ⊢
 rw [List.getElem?_append_left (by simp;omega)]
 exact h1
theorem Rd.more {s:St} {lv ix:Nat} {N:ZJ} (h:Rd s lv ix N) (more:List (Bool × List Blk)) (ro:Bool) (L:List Blk):Rd ⟨s.ps++more,ro,L⟩ lv ix N:=by
 obtain ⟨a0,a1,im,a3,a4,a5,h1,h2⟩:=h
 exact ⟨a0,a1,im,a3,a4,a5,Zc8 h1 _ _ _,Zc8 h2 _ _ _⟩
end Go.Q15
namespace Go.Q15
open Go Go.QAbs
set_option maxRecDepth 100000
set_option maxHeartbeats 8000000
def RtOk (N:ZJ) (r:Ro):Prop:=r=.zero∨(r.at_≠0∧∃ x,lk N r.at_=some x∧NdOk x∧x.h=r.h∧x.mea=r.m)
def Zh1 (N:ZJ) (r:Ro):List Nat:=if r.at_=0 then [] else ZbY N r.h r.at_
theorem RtOk.h13 {N:ZJ} (hN:GoodN N) {r:Ro} (hr:RtOk N r):r.h≤13:=by
 rcases hr with rfl|⟨h0,x,h1,h2,h3,h4⟩
 ·decide
 ·have hv:Val N (.keep r):=.kept h0 h1 h2 h3 h4 rfl
  have hb:(Tr.keep r).bytes=r.m.b:=by simp [Tr.keep,Tr.bytes,Tr.bytesO]
  have:=h2.mea_pos
  exact hv.height hN (by rw [hb,← h4];omega)
def QK (r:Ro):Tr:=if r.at_=0 then .zero else .keep r
theorem ZfL {st:St} {lv ix:Nat} {N:ZJ} (hr:Rd st lv ix N) {r:Ro} (h:RtOk N r):S Tb Xl [.ptr lv ix 0 0 0,r.av] st=some (.tup [(QK r).av,.int .i64 0],st):=by
 unfold QK
 rcases h with rfl|⟨h0,x,h1,h2,h3,h4⟩
 ·rw [if_pos (by rfl)];exact Zf1
 ·rw [if_neg h0];exact ZkP hr h1 h2 h0 h3 h4
end Go.Q15
namespace Go.QAbs
theorem ZBe {s:St} {l i:Nat} {b:Blk} (h:s.get l i=some b) (more:List (Bool × List Blk)) (ro:Bool) (L:List Blk):St.get ⟨s.ps++more,ro,L⟩ l i=some b:=by
 have hl:=St.get_le h
 have h1:=ZW (A:=s.ps) rfl (ro:=ro) (L:=L) h
 unfold St.get at h1 ⊢
 have e1:l≠s.ps.length:=by simp;omega
 have e2:l≠(s.ps++more).length:=by simp;omega
 simp only [if_neg e1,if_neg e2] at h1 ⊢
 rw [List.getElem?_append_left (by simp;omega)]
 exact h1
theorem ZfM {s:St} {lv:Nat} (hl:lv≤s.A.length) (h:s.wr lv) (more:List (Bool × List Blk)) (ro:Bool) (L:List Blk):St.wr ⟨s.ps++more,ro,L⟩ lv:=by
 have h1:=Xu (A:=s.ps) rfl hl h (ro:=ro) (L:=L)
 unfold St.wr at h1 ⊢
 have e1:lv≠s.ps.length:=by simp;omega
 have e2:lv≠(s.ps++more).length:=by simp;omega
 simp only [if_neg e1,if_neg e2] at h1 ⊢
 rw [List.getElem?_append_left (by simp;omega)]
 exact h1
theorem Zc9 {s:St} {lv ix:Nat} {b:Blk} (hl:lv≤s.A.length) (more:List (Bool × List Blk)) (ro:Bool) (L:List Blk):St.upd ⟨s.ps++more,ro,L⟩ lv ix b=⟨(s.upd lv ix b).ps++more,ro,L⟩:=by
 have h1:=J6 (A:=s.ps) (ro:=ro) (L:=L) rfl hl (ix:=ix) (b:=b)
 unfold St.upd at h1 ⊢
 have e1:lv≠s.ps.length:=by simp;omega
 have e2:lv≠(s.ps++more).length:=by simp;omega
 simp only [if_neg e1,if_neg e2] at h1 ⊢
 simp only [St.mk.injEq,and_true] at h1 ⊢
 rw [List.getElem?_append_left (by simp;omega),List.set_append_left _ _ (by simp;omega),h1]
theorem ZZc:∀ {ks:List (Nat × Nat)} {s:St} {bs:List Blk} {more:List (Bool × List Blk)} {ro:Bool} {L:List Blk},(∀ k∈ks,k.1≤s.A.length)→Y8 ⟨s.ps++more,ro,L⟩ ks bs=⟨(Y8 s ks bs).ps++more,ro,L⟩
 | [],_,bs,_,_,_,_=>by cases bs<;>rfl
 | _::_,_,[],_,_,_,_=>rfl
 | k::ks,s,b::bs,more,ro,L,hk=>by
  rw [Y8,Zc9 (hk k (by simp)),ZZc (s:=s.upd k.1 k.2 b) (fun q hq=>by rw [St.upd_A];exact hk q (by simp [hq]))]
  rfl
theorem Cl.more {s:St} {ks:List (Nat × Nat)} {bs:List Blk} (h:Cl s ks bs) (more:List (Bool × List Blk)) (ro:Bool) (L:List Blk):Cl ⟨s.ps++more,ro,L⟩ ks bs :=
 ⟨h.nd,h.len,fun k hk=>ZfM (h.le k hk) (h.wr k hk) _ _ _,fun j lv ix b h1 h2=>ZBe (h.get j lv ix b h1 h2) _ _ _⟩
end Go.QAbs
namespace Go.Q15
open Go Go.QAbs
set_option maxRecDepth 100000
set_option maxHeartbeats 8000000
def XT (N:ZJ) (v:List Nat):List (List UInt8):=v.filterMap fun h=>if (ZbX N h).h=0 then some (ZbX N h).text else none
end Go.Q15
namespace Go.Q15
open Go Go.QAbs
set_option maxRecDepth 100000
set_option maxHeartbeats 8000000
end Go.Q15
namespace Go.Q15
open Go Go.QAbs
set_option maxRecDepth 100000
set_option maxHeartbeats 8000000
theorem ZdA:∀ l:List Tr,(∀ t∈l,4*(t.cnt:Int)+4≤t.bytes)→4*(Tr.cntL l:Int)+4*l.length≤Tr.bytesL l
 | [],_=>by simp [Tr.cntL,Tr.bytesL]
 | t::l,h=>by
  have h1:=h t (by simp)
  have h2:=ZdA l fun u hu=>h u (by simp [hu])
  simp only [Tr.cntL,Tr.bytesL,List.length_cons]
  omega
theorem ZbZ {N:ZJ} (hN:GoodN N) {t:Tr} (hv:Val N t):(t.cnt:Int)≤t.bytes∧(Big t→4*(t.cnt:Int)+4≤t.bytes):=by
 have hsz:=hv.size hN
 have hps:=hv.pos.2
 induction hv with
 | @kept o h m k x h0 hx hok hh hm hk =>
  have ec:(Tr.mk o h m [] k).cnt=0:=by rw [Tr.cnt,Tr.cntO_getD,hk,if_neg h0];rfl
  have hl:h≤16:=by
   rcases hok with q|⟨n,ks,q⟩
   ·rw [← hh,q.h];omega
   ·have:=q.n15;have e:=q.eq;subst e;simp only at hh;omega
  rw [ec]
  refine ⟨by omega,fun q=>?_⟩
  have h1:=hsz q
  have h2:=(ZBZ hl).1
  simp only [Tr.h] at h1
  omega
 | @leaf s k h1 h2 hk =>
  have ec:(Tr.mk 0 0 .zero s k).cnt=1:=by rw [Tr.cnt,Tr.cntO_getD,hk];rfl
  rw [ec]
  refine ⟨by omega,fun q=>?_⟩
  have:=q rfl
  omega
 | @inner h l hh h2 h4 hl hb hv ih =>
  have ec:(Tr.mk 0 (h+1) .zero [] (some l)).cnt=Tr.cntL l+1:=by rw [Tr.cnt,Tr.cntO];simp;omega
  have eb:(Tr.mk 0 (h+1) .zero [] (some l)).bytes=Tr.bytesL l:=by rw [Tr.bytes,Tr.bytesO];simp [Mea.zero]
  have:=ZdA l fun u hu=>(ih u hu ((hv u hu).size hN) (hv u hu).pos.2).2 (fun q=>hb u hu (by rw [← hl u hu];exact q))
  rw [ec,eb]
  exact ⟨by omega,fun _=>by omega⟩
end Go.Q15
namespace Go.Q15
open Go Go.QAbs
set_option maxRecDepth 100000
set_option maxHeartbeats 8000000
end Go.Q15
namespace Go.Q15
open Go Go.QAbs
set_option maxRecDepth 100000
set_option maxHeartbeats 8000000
theorem PI.ok {r:AR} (ho:AROk r) (hg:GoodN r.nodes) {t:Tr} (hv:VE r.nodes t) (hb:t.bytes≤65536) (hn:nw t≤r.n) {its:List It} {rx:Nat} {ρ:Nat→Ro} (h:PI t its rx ρ) :
 WrB r (nw t) (wrV t r).1 (wrV t r).2.2∧(IsEmpty t∧(wrV t r).2.1=.zero∨Val r.nodes t∧WrOk r.nodes t (wrV t r).1 (wrV t r).2.1):=by
 rcases h with ⟨h1,_,h2⟩|⟨⟨M,hM⟩,R,h1,h2,h3⟩
 ·have e:nw t=0:=by unfold nw;rw [if_pos ⟨h1.old,h1.h,h1.text⟩]
  rw [ZZb h1,e];exact ⟨.refl ho hg,.inl ⟨h1,rfl⟩⟩
 ·rcases hv with hv|hv
  ·exact absurd hv hM.not_empty
  ·rw [ZfK hv,ZMd hv]
   rw [ZMd hv] at hn
   obtain ⟨ρ',a1,a2,a3,a4,a5⟩:=exec_ok hg hv hb r ho hg (.refl _) hn rx its R ρ h1 h2 h3
   exact ⟨a4,.inr ⟨hv,a5⟩⟩
def ZZd (N:ZJ) (r:Ro):List UInt8:=if r.at_=0 then [] else JL N r.h r.at_
structure Rt (N:ZJ) (r:Ro) (s:List UInt8):Prop where
 rt:RtOk N r
 tx:ZZd N r=s
theorem RtOk.ext {N M:ZJ} (hE:Ext N M) {r:Ro} (h:RtOk N r):RtOk M r:=h.imp id fun ⟨h0,x,h1,h2⟩=>⟨h0,x,hE _ _ h1,h2⟩
theorem Rt.ext {N M:ZJ} (hN:GoodN N) (hE:Ext N M) {r:Ro} {s:List UInt8} (h:Rt N r s):Rt M r s:=by
 refine ⟨h.rt.ext hE,?_⟩
 rw [← h.tx]
 unfold ZZd
 split
 ·rfl
 ·rename_i q
  rcases h.rt with e|⟨_,x,h1,_,h2,_⟩
  ·rw [e] at q;exact absurd rfl q
  ·exact ZKA hN hE _ _ x h1 h2
theorem Rt.zero (N:ZJ):Rt N .zero []:=⟨.inl rfl,rfl⟩
theorem Rt.m {N:ZJ} (hN:GoodN N) {r:Ro} {s:List UInt8} (h:Rt N r s):r.m=Ya s:=by
 obtain ⟨h,rfl⟩:=h
 unfold ZZd
 rcases h with rfl|⟨h0,x,h1,h2,h3,h4⟩
 ·rfl
 ·rw [if_neg h0,ZQV hN _ _ x h1 h3,h4]
theorem Rt.wr {r:AR} (ho:AROk r) {N:ZJ} {t:Tr} {ro:Ro} (h:WrOk N t r ro):Rt r.nodes ro (t.txt N):=by
 obtain ⟨y,h1,h2,h3,h4⟩:=h.live
 have h0:=(ho.hnd h1).2
 refine ⟨.inr ⟨h0,y,h1,h2,by rw [h3,h.rh],by rw [h4,h.rm]⟩,?_⟩
 unfold ZZd
 rw [if_neg h0,h.rh,h.txt]
theorem Rt.keep {N:ZJ} {r:Ro} {s:List UInt8} (h:Rt N r s):VE N (QK r)∧(QK r).txt N=s:=by
 obtain ⟨h,rfl⟩:=h
 unfold ZZd QK
 rcases h with rfl|⟨h0,x,h1,h2,h3,h4⟩
 ·rw [if_pos (by rfl),if_pos (by rfl)];exact ⟨.inl zero_empty,rfl⟩
 ·rw [if_neg h0,if_neg h0]
  exact ⟨.inr (.kept h0 h1 h2 h3 h4 rfl),by rw [Tr.keep,Tr.txt,if_neg h0];simp [Tr.txtO]⟩
theorem Rt.b {N:ZJ} (hN:GoodN N) {r:Ro} {s:List UInt8} (h:Rt N r s):(QK r).bytes=s.length∧r.m.b=s.length:=by
 have h1:=h.keep
 have h2:=h1.1.len hN
 rw [h1.2] at h2
 exact ⟨h2.symm,by rw [h.m hN];rfl⟩
theorem ZHA (N:ZJ) (v w:List Nat):XT N (v++w)=XT N v++XT N w:=by unfold XT;rw [List.filterMap_append]
theorem ZdB {N:ZJ} (hN:GoodN N):∀ n o x,lk N o=some x→x.h=n→(XT N (ZbY N n o)).flatten=JL N n o:=by
 intro n
 induction n with
 | zero =>
  intro o x hx hh
  rw [ZbY,JL,hx]
  simp [XT,ZDp hx,hh]
 | succ n ih =>
  intro o x hx hh
  rw [ZbY,JL,hx,ZDp hx]
  have h0:XT N [o]=[]:=by simp [XT,ZDp hx];omega
  have e:=ZHA N [o] (x.ks.flatMap fun k=>ZbY N n k.at_)
  rw [h0] at e
  simp only [Option.map_some,Option.getD_some]
  rw [show (o::x.ks.flatMap fun k=>ZbY N n k.at_)=[o]++x.ks.flatMap fun k=>ZbY N n k.at_ from rfl,e,List.nil_append]
  have hk:=(hN o x hx).2
  have key:∀ l:List Kid,(∀ k∈l,k∈x.ks)→(XT N (l.flatMap fun k=>ZbY N n k.at_)).flatten=l.flatMap fun k=>JL N n k.at_:=by
   intro l
   induction l with
   | nil=>intro _;rfl
   | cons k l ih2 =>
    intro h
    obtain ⟨_,y,y1,y2,_⟩:=hk k (h k (by simp))
    rw [List.flatMap_cons,List.flatMap_cons,ZHA,List.flatten_append,ih k.at_ y y1 (by omega),ih2 (fun q hq=>h q (by simp [hq]))]
  exact key _ fun _ h=>h
theorem Rt.leaves {N:ZJ} (hN:GoodN N) {r:Ro} {s:List UInt8} (h:Rt N r s):(XT N (Zh1 N r)).flatten=s:=by
 obtain ⟨h,rfl⟩:=h
 unfold ZZd Zh1
 split
 ·rfl
 ·rename_i q
  rcases h with rfl|⟨_,x,h1,_,h2,_⟩
  ·exact absurd rfl q
  ·exact ZdB hN _ _ x h1 h2
end Go.Q15
namespace Go.Q15
open Go Go.QAbs
set_option maxRecDepth 100000
set_option maxHeartbeats 8000000
end Go.Q15
namespace Go.Q15
open Go Go.QAbs
set_option maxRecDepth 100000
set_option maxHeartbeats 8000000
def Rts (N:ZJ) (ros:List Ro) (ss:List (List UInt8)):Prop:=ros.length=ss.length∧∀ (i:Nat) (ro:Ro) (s:List UInt8),ros[i]?=some ro→ss[i]?=some s→Rt N ro s
theorem Rts.ext {N M:ZJ} (hN:GoodN N) (hE:Ext N M) {ros:List Ro} {ss:List (List UInt8)} (h:Rts N ros ss):Rts M ros ss:=⟨h.1,fun i ro s h1 h2=>(h.2 i ro s h1 h2).ext hN hE⟩
theorem Rts.snoc {N:ZJ} {ros:List Ro} {ss:List (List UInt8)} (h:Rts N ros ss) {ro:Ro} {s:List UInt8} (g:Rt N ro s):Rts N (ros++[ro]) (ss++[s]):=by
 refine ⟨by simp [h.1],fun i r t h1 h2=>?_⟩
 rcases Nat.lt_or_ge i ros.length with q|q
 ·rw [List.getElem?_append_left q] at h1
  rw [List.getElem?_append_left (by rw [← h.1];exact q)] at h2
  exact h.2 i r t h1 h2
 ·rw [List.getElem?_append_right q] at h1
  rw [List.getElem?_append_right (by rw [← h.1];exact q)] at h2
  rw [← h.1] at h2
  match hk:i-ros.length with
  | 0=>rw [hk] at h1 h2;obtain rfl:=Option.some.inj h1;obtain rfl:=Option.some.inj h2;exact g
  | n+1=>rw [hk] at h1;simp at h1
end Go.Q15
namespace Go.Q15
open Go Go.QAbs
set_option maxRecDepth 100000
set_option maxHeartbeats 8000000
def ZWl (x n:Int):Int:=(x % 18446744073709551616) % (n+1)
theorem ZGz {x n:Int} (h:0≤n):0≤ZWl x n∧ZWl x n≤n:=by
 unfold ZWl
 have:=Int.emod_nonneg (x % 18446744073709551616) (show n+1≠0 by omega)
 have:=Int.emod_lt_of_pos (x % 18446744073709551616) (show 0<n+1 by omega)
 omega
theorem Zj7 (x:Int):IntKind.u64.wrap x=x % 18446744073709551616:=by
 have e1:IntKind.u64.signed=false:=rfl
 have e2:IntKind.u64.bits=64:=rfl
 simp only [IntKind.wrap,e1,e2,Bool.false_and,if_false,Bool.false_eq_true]
 rfl
theorem Zh2 (x n:Int) (h0:0≤n) (h1:n<4611686018427387904) (st:St):S Tb YK [.int .i64 x,.int .i64 n] st=some (.int .i64 (ZWl x n),st):=by
 have hp:=ZGz (x:=x) h0
 have hw:IntKind.u64.wrap (n+1)=n+1:=by rw [Zj7];omega
 have hx:=Int.emod_nonneg x (show (18446744073709551616:Int)≠0 by decide)
 have hrem:ZFC .rem (.int .u64 (IntKind.u64.wrap x)) (.int .u64 (n+1))=some (.int .u64 (ZWl x n)):=by
  rw [Zj7]
  show (if n+1=0 then none else some (AV.int .u64 ((x % 18446744073709551616).tmod (n+1))))=_
  rw [if_neg (by omega),Int.tmod_eq_emod_of_nonneg hx];rfl
 refine Z5 rfl (fun A hA=>?_)
 repeat' (first|refine ZE ?_|refine ZC ?_|refine ZF rfl ?_|refine ZB rfl ?_|refine ZA ?_)
 refine Zi4 rfl ?_
 repeat' (first|refine ZF rfl ?_|refine Zi rfl rfl (by omega) ?_)
 refine ZIf rfl hw ?_
 refine ZFN rfl rfl hrem ?_
 refine ZIf rfl (ZO0 (by omega) (by omega)) ?_
 repeat' (first|refine ZF rfl ?_|refine ZB rfl ?_|refine ZA ?_|refine ZQ ?_|refine ZP ?_)
 refine Zd hA (by first|exact .inl rfl|exact .inr rfl) rfl rfl rfl rfl ?_
 rfl
end Go.Q15
namespace Go.Q15
open Go Go.QAbs
set_option maxRecDepth 100000
set_option maxHeartbeats 1000000
theorem ZE8 (k:Option (List Tr)):(Tr.ownO k).getD []=(k.getD []).map Tr.own:=by
 cases k with
 | none=>rfl
 | some l=>simp [Tr.ownO,Tr.ownL_map]
theorem Zkx (t:Tr):t.own.h=t.h:=by cases t;rfl
theorem ZQb (t:Tr):t.own.bytes=t.bytes:=by
 induction t using Tr.ind with
 | step o h m s k ih =>
  rw [Tr.own,Tr.bytes,Tr.bytes,Tr.bytesO_getD,Tr.bytesO_getD,ZE8]
  generalize k.getD []=l at ih
  congr 1
  induction l with
  | nil=>rfl
  | cons a l ih2=>rw [List.map_cons,Tr.bytesL,Tr.bytesL,ih a (by simp),ih2 (fun t ht=>ih t (by simp [ht]))]
theorem Zjp (N:ZJ) (t:Tr):t.own.txt N=t.txt N:=by
 induction t using Tr.ind with
 | step o h m s k ih =>
  rw [Tr.own,Tr.txt,Tr.txt,Tr.txtO_getD,Tr.txtO_getD,ZE8]
  generalize k.getD []=l at ih
  congr 1
  induction l with
  | nil=>rfl
  | cons a l ih2=>rw [List.map_cons,Tr.txtL,Tr.txtL,ih a (by simp),ih2 (fun t ht=>ih t (by simp [ht]))]
theorem Zjq {N:ZJ} {t:Tr} (hv:Val N t):Val N t.own:=by
 induction hv with
 | kept h0 hx hok hh hm hk =>
  rw [Tr.own]
  exact .kept h0 hx hok hh hm (by rw [ZE8,hk];rfl)
 | leaf h1 h2 hk =>
  rw [Tr.own]
  exact .leaf h1 h2 (by rw [ZE8,hk];rfl)
 | inner hh h2 h4 hl hb hv ih =>
  rename_i h l
  rw [Tr.own,Tr.ownO,Tr.ownL_map]
  refine .inner hh (by rw [List.length_map];exact h2) (by rw [List.length_map];exact h4) ?_ ?_ ?_
  ·intro t ht
   obtain ⟨u,hu,rfl⟩:=List.mem_map.1 ht
   rw [Zkx];exact hl u hu
  ·intro t ht q
   obtain ⟨u,hu,rfl⟩:=List.mem_map.1 ht
   rw [ZQb];exact hb u hu q
  ·intro t ht
   obtain ⟨u,hu,rfl⟩:=List.mem_map.1 ht
   exact ih u hu
theorem Zea {N:ZJ} {t:Tr} (h:VE N t):VE N t.own:=by
 rcases h with h|h
 ·obtain ⟨o,h',m,s,k⟩:=t
  obtain ⟨h1,h2,h3,h4,h5⟩:=h
  exact .inl ⟨h1,h2,h3,h4,by show (Tr.ownO k).getD []=[];rw [ZE8];simp only [Tr.ks] at h5;rw [h5];rfl⟩
 ·exact .inr (Zjq h)
end Go.Q15
namespace Go.Q15
open Go Go.QAbs
set_option maxRecDepth 100000
set_option maxHeartbeats 8000000
structure Ed where
 what:Nat
 n:Int
 at_:Int
 len:Int
 text:List UInt8
def Ed.av (y:Ed):AV:=.agg [.int .u8 y.what,.int .i64 y.n,.int .i64 y.at_,.int .i64 y.len,.str y.text]
theorem ZQ7 {O:Orc} {k:List Fr} {Q:Yv} {e:Env} {st:St} {keep:List Nat} {is:List QAbs.PI} {d:Nat} {α:Type} {f:α→AV} {x:Opd} {l:List α} (hx:Zg e x=some (.lit (l.map f))) (h:Is O is keep k Q ((d,.int .i64 l.length)::e) st):Is O (⟨some d,none,false,.len 1 x⟩::is) keep k Q e st:=by
 refine ZTV hx ?_
 rw [List.length_map];exact h
structure PlanOk (N:ZJ) (ros:List Ro):Prop where
 rt:∀ r∈ros,RtOk N r∧(QK r).bytes=r.m.b∧0≤r.m.b∧r.m.b≤60000
 len:ros.length<65536
theorem Rts.plan {N:ZJ} (hN:GoodN N) {ros:List Ro} {ss:List (List UInt8)} (h:Rts N ros ss) (hl:ros.length<65536) (hs:∀ s∈ss,s.length≤60000):PlanOk N ros:=by
 refine ⟨fun r hr=>?_,hl⟩
 obtain ⟨i,hi,rfl⟩:=List.getElem_of_mem hr
 have hi2:i<ss.length:=by rw [← h.1];exact hi
 have g:=h.2 i _ _ (List.getElem?_eq_getElem hi) (List.getElem?_eq_getElem hi2)
 obtain ⟨b1,b2⟩:=g.b hN
 have:=hs _ (List.getElem_mem hi2)
 exact ⟨g.rt,by rw [b1,b2],by omega,by omega⟩
theorem RtOk.keep {N:ZJ} {r:Ro} (h:RtOk N r):VE N (QK r):=(Rt.keep ⟨h,rfl⟩).1
end Go.Q15
namespace Go.Q15
open Go Go.QAbs
set_option maxRecDepth 100000
set_option maxHeartbeats 8000000
def Zh3 (l:List Ed):Prop:=(∃ s∈l.take 100,200<s.text.length)∨60<l.length
open Classical in
noncomputable instance (l:List Ed):Decidable (Zh3 l):=Classical.propDecidable _
theorem Zh4 {l:List Ed} (h:¬ Zh3 l):l.length≤60∧∀ s∈l,s.text.length≤200:=by
 have h1:l.length≤60:=by
  rcases Nat.lt_or_ge 60 l.length with q|q
  ·exact absurd (.inr q) h
  ·exact q
 refine ⟨h1,fun s hs=>?_⟩
 rcases Nat.lt_or_ge 200 s.text.length with q|q
 ·refine absurd (.inl ⟨s,?_,q⟩) h
  rw [List.take_of_length_le (by omega)];exact hs
 ·exact q
end Go.Q15
namespace Go.QAbs
end Go.QAbs
namespace Go.Q15
open Go Go.QAbs
set_option maxRecDepth 100000
set_option maxHeartbeats 8000000
end Go.Q15
namespace Go.Q15
open Go Go.QAbs
set_option maxRecDepth 100000
set_option maxHeartbeats 8000000
def ZdC (r:AR) (o:Nat):Prop:=XZ o∧r.states[o % 65536]?=some 1∧r.gens[o % 65536]?=some ((o / 65536:Nat):Int)
instance (r:AR) (o:Nat):Decidable (ZdC r o):=by unfold ZdC;exact inferInstance
theorem AROk.live {r:AR} (h:AROk r) {o:Nat} {x:Nd} (hx:lk r.nodes o=some x):ZdC r o∧o<18446744073709551616:=by
 obtain ⟨s,g,k1,k2,k3,k4⟩:=h.key o x hx
 obtain ⟨h1,h2⟩:=h.hnd hx
 have:=h.n16
 have hm:o % 65536=s:=by omega
 have hd:o / 65536=g:=by omega
 unfold ZdC
 rw [hm,hd]
 refine ⟨⟨h1,k3,k4⟩,?_⟩
 unfold XZ at h1
 omega
theorem Zh5 {l:List Nat} {i x h:Nat} (hx:l[i]?=some x) (hn:h∉l.take i) (e:x≠h):h∉l.take (i+1):=by
 rw [Zm hx,List.mem_append,List.mem_singleton]
 exact fun q=>q.elim hn fun q=>e q.symm
theorem Zjr (l:List Nat) (hb:l.length<4294967296) (h:Nat) (st:St) :
 S Tb Xw [.lit (l.map JH),.int .u64 h] st=some (.bool (decide (h∈l)),st):=by
 refine Z5 rfl (fun A hA=>?_)
 repeat' (first|refine ZE ?_|refine ZC ?_|refine ZF rfl ?_|refine ZB rfl ?_|refine ZA ?_|refine ZL ?_)
 refine Zq (α:=Nat) (fun i=>[(0,.lit (l.map JH)),(1,.int .u64 h),(5,.int .i64 i)]) (fun i=>⟨A,false,[]⟩) (fun i=>i≤l.length∧h∉l.take i) (fun i=>l.length-i) 0 rfl rfl ⟨by omega,by simp⟩ ?_
 rintro i ⟨hi,hni⟩
 rcases Nat.lt_or_ge i l.length with hlt|hge
 ·obtain ⟨x,hx⟩:∃ x,l[i]?=some x:=⟨l[i]'hlt,List.getElem?_eq_getElem _⟩
  have q:0≤((i:Nat):Int)∧l[((i:Nat):Int).toNat]?=some x:=⟨by omega,by rw [show ((i:Nat):Int).toNat=i by omega];exact hx⟩
  repeat' (first|refine ZJ9 rfl rfl q (fun _=>rfl) ?_|refine ZE ?_|refine ZC ?_|refine ZF rfl ?_|refine ZB rfl ?_|refine ZA ?_|refine QC rfl ?_|refine QQ rfl rfl ?_|(refine Zh rfl rfl (fun _=>?_) (fun _=>?_)<;>try (exfalso;omega))|(refine Zl rfl rfl (fun _=>?_) (fun _=>?_)<;>try (exfalso;omega))|refine ZU rfl ?_|refine ZG rfl ?_|refine Zi rfl rfl (by omega) ?_|refine ZI ?_|refine ZQ ?_|refine ZL ?_|refine ZP ?_|refine ZX ?_|refine Z2 ?_|refine QT ?_|refine Z4 ?_|refine ZBp ?_)
  all_goals try (exfalso;omega)
  ·rename_i e
   obtain rfl:x=h:=by omega
   rw [decide_eq_true (List.mem_of_getElem? hx)]
   refine Zd hA (by first|exact .inl rfl|exact .inr rfl) rfl rfl rfl rfl ?_
   rfl
  ·rename_i e
   exact ⟨i+1,⟨rfl,rfl⟩,⟨by omega,Zh5 hx hni (by omega)⟩,by omega⟩
 ·obtain rfl:i=l.length:=by omega
  rw [List.take_length] at hni
  rw [decide_eq_false hni]
  repeat' (first|refine ZE ?_|refine ZC ?_|refine ZF rfl ?_|refine ZB rfl ?_|refine ZA ?_|refine QC rfl ?_|(refine Zh rfl rfl (fun _=>?_) (fun _=>?_)<;>try (exfalso;omega))|refine ZG rfl ?_|refine ZQ ?_|refine Zo ?_|refine ZP ?_|refine Za ?_|refine ZY rfl ?_|refine Zj ?_)
  all_goals try (exfalso;omega)
  refine Zd hA (by first|exact .inl rfl|exact .inr rfl) rfl rfl rfl rfl ?_
  rfl
end Go.Q15
namespace Go.Q15
open Go Go.QAbs
set_option maxRecDepth 100000
set_option maxHeartbeats 8000000
end Go.Q15
namespace Go.Q15
open Go Go.QAbs
set_option maxRecDepth 100000
set_option maxHeartbeats 16000000
end Go.Q15
namespace Go.Q15
open Go Go.QAbs
set_option maxRecDepth 100000
set_option maxHeartbeats 16000000
theorem RtOk.size {N:ZJ} (hN:GoodN N) {r:Ro} (h:RtOk N r) (h1:1≤r.h):(leastB r.h:Int)≤r.m.b:=by
 rcases h with rfl|⟨h0,x,h2,h3,h4,h5⟩
 ·simp [Ro.zero] at h1
 ·have hv:=(Rt.keep (N:=N) (r:=r) ⟨.inr ⟨h0,x,h2,h3,h4,h5⟩,rfl⟩).1
  have hk:QK r=.keep r:=by unfold QK;rw [if_neg h0]
  rw [hk] at hv
  rcases hv with q|q
  ·exact absurd q.old h0
  ·have:=q.size hN (fun q=>by simp only [Tr.keep,Tr.h] at q;omega)
   simpa [Tr.keep,Tr.h,Tr.bytes,Tr.bytesO] using this
end Go.Q15
namespace Go.Q15
open Go Go.QAbs
set_option maxRecDepth 100000
set_option maxHeartbeats 16000000
end Go.Q15
namespace Go.Q15
open Go Go.QAbs
set_option maxRecDepth 100000
set_option maxHeartbeats 16000000
theorem guards {texts:List (List UInt8)} {ys:List Ed} (hl:¬ ZfG texts) (hm:¬ Zh3 ys):(texts.flatten.length≤900∧texts.length≤4)∧ys.length≤60∧∀ y∈ys,y.text.length≤200:=by
 refine ⟨?_,Zh4 hm⟩
 have:=Zht hl
 rw [List.length_flatten]
 omega
end Go.Q15
namespace Go.Q15
open Go Go.QAbs
set_option maxRecDepth 100000
set_option maxHeartbeats 8000000
def AR.give (r:AR) (o:Nat):AR :=
 if r.gens[o % 65536]?=some r.most then { r with states:=r.states.set (o % 65536) 2 }
 else { r with gens:=r.gens.set (o % 65536) ((o / 65536:Nat)+1),states:=r.states.set (o % 65536) 0,blk:=r.blk.take r.n++[((o % 65536:Nat):Int)],n:=r.n+1,ver:=r.ver+1 }
end Go.Q15
namespace Go.Q15
open Go Go.QAbs
set_option maxRecDepth 100000
set_option maxHeartbeats 8000000
end Go.Q15
namespace Go.Q15
open Go Go.QAbs
set_option maxRecDepth 100000
set_option maxHeartbeats 8000000
end Go.Q15
namespace Go.Q15
open Go Go.QAbs
set_option maxRecDepth 100000
set_option maxHeartbeats 16000000
theorem ZdD:∀ (n:Nat) (l:List Nat),l.Nodup→(∀ x∈l,x<n)→l.length≤n:=by
 intro n
 induction n with
 | zero=>intro l _ h;cases l with
  | nil=>exact Nat.le_refl _
  | cons a l=>have:=h a (by simp);omega
 | succ n ih =>
  intro l hd h
  by_cases hm:n∈l
  ·have := ih (l.erase n) (hd.erase n) (fun x hx => by
    have h1:=h x (List.mem_of_mem_erase hx)
    have h2:x≠n:=fun e=>by subst e;exact hd.not_mem_erase hx
    omega)
   rw [List.length_erase_of_mem hm] at this
   omega
  ·have := ih l hd (fun x hx => by
    have h1:=h x hx
    have h2:x≠n:=fun e=>hm (e▸hx)
    omega)
   omega
theorem AROk.few {r:AR} (h:AROk r) {l:List Nat} (hd:l.Nodup) (hl:∀ o∈l,∃ x,lk r.nodes o=some x):l.length≤16384:=by
 have h16:=h.n16
 have key:∀ o∈l,ZdC r o:=fun o ho=>by obtain ⟨x,hx⟩:=hl o ho;exact (h.live hx).1
 have h1:(l.map (· % 65536)).Nodup:=by
  unfold List.Nodup at hd ⊢
  rw [List.pairwise_map]
  refine hd.imp_of_mem (fun {p o} hp ho hne e=>hne ?_)
  have a:=(key p hp).2.2
  have c:=(key o ho).2.2
  rw [e,c] at a
  have:=Option.some.inj a
  omega
 have:=ZdD r.states.length _ h1 (fun x hx=>by
  obtain ⟨o,ho,rfl⟩:=List.mem_map.1 hx
  exact (List.getElem?_eq_some_iff.1 (key o ho).2.1).1)
 rw [List.length_map] at this
 omega
theorem Zh6 {N:ZJ} (hN:GoodN N) {t:Tr} (hv:VE N t) (hb:t.bytes≤65536) (st:St):S Tb YL [t.av] st=some (.int .i64 (nw t),st):=by
 rcases hv with h|h
 ·rw [ZOj h];exact ZgP h st
 ·rw [ZMd h]
  have:=(ZbZ hN h).1
  exact Zj6 h (by omega) st
theorem Zjs (r:AR):eqV [(0,0),(1,0),(2,0),(3,0),(4,0),(5,0),(6,0)] 0 r.statsAV r.statsAV=some true:=by
 unfold AR.statsAV
 show (if decide _=true then (if decide _=true then (if decide _=true then (if decide _=true then (if decide _=true then (if decide _=true then (if decide _=true then some true else some false) else some false) else some false) else some false) else some false) else some false) else some false)=_
 simp
end Go.Q15
namespace Go.Q15
open Go Go.QAbs
set_option maxRecDepth 100000
set_option maxHeartbeats 16000000
end Go.Q15
namespace Go.Q15
open Go Go.QAbs
set_option maxRecDepth 100000
set_option maxHeartbeats 16000000
structure MkInv (r:AR) (ros:List Ro) (ss:List (List UInt8)) (n:Nat) (B:Nat):Prop where
 ok:AROk r
 good:GoodN r.nodes
 rts:Rts r.nodes ros ss
 len:ros.length=n
 n20:n≤20
 small:∀ s∈ss,s.length≤B
 nl:r.nodes.length+r.n=1500
theorem MkInv.plan {r:AR} {ros:List Ro} {ss:List (List UInt8)} {n B:Nat} (h:MkInv r ros ss n B) (hB:B≤60000):PlanOk r.nodes ros:=h.rts.plan h.good (by have:=h.len;have:=h.n20;omega) (fun s hs=>by have:=h.small s hs;omega)
theorem MkInv.mb {r:AR} {ros:List Ro} {ss:List (List UInt8)} {n B:Nat} (h:MkInv r ros ss n B):∀ ro∈ros,ro.m.b≤(B:Int):=by
 intro ro hr
 obtain ⟨i,hi,rfl⟩:=List.getElem_of_mem hr
 have hi2:i<ss.length:=by rw [← h.rts.1];exact hi
 have g:=h.rts.2 i _ _ (List.getElem?_eq_getElem hi) (List.getElem?_eq_getElem hi2)
 have:=(g.b h.good).2
 have:=h.small _ (List.getElem_mem hi2)
 omega
end Go.Q15
namespace Go.Q15
open Go Go.QAbs
set_option maxRecDepth 100000
set_option maxHeartbeats 8000000
end Go.Q15
namespace Go.Q15
open Go Go.QAbs
set_option maxRecDepth 100000
set_option maxHeartbeats 8000000
end Go.Q15
namespace Go.Q15
open Go Go.QAbs
set_option maxRecDepth 100000
set_option maxHeartbeats 8000000
def bel (N:ZJ):Nat→Nat→List Nat→List Nat
 | 0,h,s=>if h∈s then s else s++[h]
 | n+1,h,s=>if h∈s then s else (ZbX N h).ks.foldl (fun s k=>bel N n k.at_ s) (s++[h])
structure Visit (τ:List Nat→List Nat→St) (lm mx:Nat) (g:FuncId) (caps:List AV):Prop where
 len:∀ u w u' w',(τ u w).ps.length=(τ u' w').ps.length
 wr:∀ u w,(τ u w).wr lm
 get:∀ u w,(τ u w).get lm mx=some (.map (YQ u))
 upd:∀ u w v,(τ u w).upd lm mx (.map (YQ v))=τ v w
 call:∀ u w h more L,w.length<1000000000→∃ v,S Tb g ([.int .u64 (h:Nat)]++caps) ⟨(τ u w).ps++more,false,L⟩=some (v,⟨(τ u (w++[h])).ps++more,false,L⟩)
 wk:∀ h:Nat,Zb (Zn ([]++[.int .u64 (h:Nat)]++caps))=some ([.int .u64 (h:Nat)]++caps)
 wk2:∀ la b h:Nat,Zb (Zn ([]++[.ptr la b 0 0 0,.int .u64 (h:Nat),.map lm mx,.func (.func g) [] caps]++[]))=some [.ptr la b 0 0 0,.int .u64 (h:Nat),.map lm mx,.func (.func g) [] caps]
theorem Zh7 {O:Orc} {k:List Fr} {Q:Yv} {e:Env} {L:List Blk} {keep:List Nat} {is:List QAbs.PI} {s0:St} {more:List (Bool × List Blk)} {x i v:Opd} {lv ix h:Nat} {w:AV} {es es':List (AV × AV)} (hx:Zg e x=some (.map lv ix)) (hi:Zg e i=some (.int .u64 h)) (hv:Zg e v=some w) (hw:s0.wr lv) (hg:s0.get lv ix=some (.map es))
 (hs:Zc QN (lv+1) ⟨s0.ps++more,false,L⟩ w=some (w,⟨s0.ps++more,false,L⟩)) (hp:ZIW (.int .u64 h) w es=some es')
 (hh:Is O is keep k Q e ⟨(s0.upd lv ix (.map es')).ps++more,false,L⟩):Is O (⟨none,none,false,.mupd 0 x i v⟩::is) keep k Q e ⟨s0.ps++more,false,L⟩:=by
 have hl:=St.get_le hg
 have g':=ZBe hg more false L
 have w':=ZfM hl hw more false L
 refine Z3 (od:=none) (v:=.undef) (st':=St.upd ⟨s0.ps++more,false,L⟩ lv ix (.map es')) ?_ ?_
 ·simp only [Zk,evalPO,ZH hx,ZH hi,ZH hv,ZQe,Yr,if_true,hs,Option.bind_some,ZTd,g',ZQ8,hp,St.put_upd w' g',ZA8]
 ·rw [Zc9 hl];exact hh
theorem ZdE {N:ZJ} {n P:Nat} (ih:∀ (h:Nat) (s:List Nat) (x:Nd),lk N h=some x→x.h=n→3*(bel N n h s).length+1≤3*s.length+P):∀ (ks:List Kid) (s:List Nat),(∀ k∈ks,∃ y,lk N k.at_=some y∧y.h=n)→3*(ks.foldl (fun s k=>bel N n k.at_ s) s).length+ks.length≤3*s.length+ks.length*P:=by
 intro ks
 induction ks with
 | nil=>intro s _;simp
 | cons k l ihl =>
  intro s hk
  rw [List.foldl_cons]
  obtain ⟨y,y1,y2⟩:=hk k (by simp)
  have a1:=ih k.at_ s y y1 y2
  have a2:=ihl (bel N n k.at_ s) (fun z hz=>hk z (List.mem_cons_of_mem _ hz))
  rw [List.length_cons,Nat.add_mul]
  omega
theorem Zjt {N:ZJ} (hN:GoodN N):∀ (n h:Nat) (s:List Nat) (x:Nd),lk N h=some x→x.h=n→3*(bel N n h s).length+1≤3*s.length+4 ^ (n+1):=by
 intro n
 induction n with
 | zero =>
  intro h s x hx hh
  rw [bel]
  split
  ·omega
  ·rw [List.length_append];simp;omega
 | succ n ih =>
  intro h s x hx hh
  rw [bel,ZDp hx]
  have hp:4 ^ (n+1+1)=4*4 ^ (n+1):=by rw [Nat.pow_succ];omega
  have h1:0<4 ^ (n+1):=Nat.pow_pos (by decide)
  split
  ·omega
  ·have hk4:=(hN h x hx).1.len
   have hkids:=(hN h x hx).2
   have:=ZdE ih x.ks (s++[h]) (fun k hk=>by obtain ⟨_,y,y1,y2,_⟩:=hkids k hk;exact ⟨y,y1,by omega⟩)
   rw [List.length_append,List.length_singleton] at this
   have h3:(4-x.ks.length)*4 ^ (n+1)+x.ks.length*4 ^ (n+1)=4*4 ^ (n+1):=by rw [← Nat.add_mul];congr 1;omega
   have h4:(4-x.ks.length)*1≤(4-x.ks.length)*4 ^ (n+1):=Nat.mul_le_mul_left _ h1
   generalize 4 ^ (n+1)=P at *
   generalize (4-x.ks.length)*P=P1 at *
   generalize x.ks.length*P=P2 at *
   omega
theorem ZWm {τ:List Nat→List Nat→St} {lm mx:Nat} {g:FuncId} {caps:List AV} (hV:Visit τ lm mx g caps) {N:ZJ} {la b:Nat} (hR:∀ u w,Rd (τ u w) la (b+5) N) {h:Nat} {x:Nd} (hx:lk N h=some x) (hk4:x.ks.length≤4) (s:List Nat) (hs:h∉s) (f:Kid→List Nat→List Nat) {B:Nat} (hB:B≤900000000)
 (hlen:∀ i,((x.ks.take i).foldl (fun s k=>f k s) (s++[h])).length≤B)
 (hf:∀ k∈x.ks,∀ (s:List Nat) (more:List (Bool × List Blk)) (L:List Blk),s.length≤B→S Tb JC [.ptr la (b+5) 0 0 0,.int .u64 k.at_,.map lm mx,.func (.func g) [] caps] ⟨(τ s s).ps++more,false,L⟩=some (.int .i64 0,⟨(τ (f k s) (f k s)).ps++more,false,L⟩))
 {more:List (Bool × List Blk)} {st st':St} (hst:st.ps=(τ s s).ps++more) (hst':st'.ps=(τ (x.ks.foldl (fun s k=>f k s) (s++[h])) (x.ks.foldl (fun s k=>f k s) (s++[h]))).ps++more) :
 S Tb JC [.ptr la (b+5) 0 0 0,.int .u64 h,.map lm mx,.func (.func g) [] caps] st=some (.int .i64 0,st'):=by
 refine ZWW rfl (fun A hA=>?_)
 have hA2:A=(τ s s).ps++more:=hA.trans hst
 clear hA
 subst hA2
 have hlk:=fun L=>ZOk (ZBe (hV.get s s) more false L) h
 simp only [decide_eq_false hs] at hlk
 have hl0:=hlen 0
 simp only [List.take_zero,List.foldl_nil,List.length_append,List.length_singleton] at hl0
 repeat' (first|refine ZE ?_|refine ZC ?_|refine ZF rfl ?_|refine ZB rfl ?_|refine ZA ?_|refine ZG rfl ?_|refine ZDW rfl rfl (hlk _) ?_|refine ZI ?_)
 all_goals try contradiction
 refine Zh7 rfl rfl rfl (hV.wr s s) (hV.get s s) rfl (ZbW h s hs) ?_
 rw [hV.upd]
 have hG:=fun L=>Ze5 ((hR (s++[h]) s).more more false L) hx hk4
 have hcp:x.copy.av=.agg [.int .i64 x.h,.str x.text,.lit (x.ks.map Kid.av)]:=rfl
 rw [hcp] at hG
 obtain ⟨v,hc⟩:=hV.call (s++[h]) s h more [.arr 3 0 [.agg [.int .i64 x.h,.str x.text,.lit (x.ks.map Kid.av)]]] (by omega)
 generalize hA1:(τ (s++[h]) s).ps++more=A1 at *
 repeat' (first|refine ZD rfl rfl (hV.wk h) hc ?_|refine ZE ?_|refine ZC ?_|refine ZF rfl ?_|refine ZO rfl rfl ?_|refine QB rfl rfl ?_|refine ZB rfl ?_|refine ZA ?_|(refine Zu rfl rfl (fun _=>?_) (fun _=>?_)<;>try (exfalso;omega))|refine ZG rfl ?_|refine Ze rfl rfl rfl ?_|refine Zv rfl rfl rfl rfl rfl rfl ?_|refine ZD rfl rfl rfl (hG _) ?_|refine ZI ?_)
 all_goals try contradiction
 obtain ⟨A2,hA2⟩:∃ A2,A2=(τ (s++[h]) (s++[h])).ps++more:=⟨_,rfl⟩
 have e12:A1.length=A2.length:=by
  have:=hV.len (s++[h]) s (s++[h]) (s++[h])
  rw [← hA1,hA2]
  simp only [List.length_append] at this ⊢
  omega
 rw [← hA2,e12]
 repeat' (first|refine ZQ7 rfl ?_|refine ZF rfl ?_|refine ZS rfl rfl rfl rfl ?_|refine ZB rfl ?_|refine ZA ?_|refine ZL ?_)
 refine Zq (α:=Nat × List Blk) (fun p=>[(0,.ptr la (b+5) 0 0 0),(2,.map lm mx),(3,.func (.func g) [] caps),(32,.lit (x.ks.map Kid.av)),(33,.int .i64 x.ks.length),(34,.int .i64 p.1)])
  (fun p=>⟨(τ ((x.ks.take p.1).foldl (fun s k=>f k s) (s++[h])) ((x.ks.take p.1).foldl (fun s k=>f k s) (s++[h]))).ps++more,false,.arr 3 0 [.agg [.int .i64 x.h,.str x.text,.lit (x.ks.map Kid.av)]]::p.2⟩) (fun p=>p.1≤x.ks.length) (fun p=>x.ks.length-p.1) (0,[]) rfl (by rw [hA2];rfl) (Nat.zero_le _) ?_
 rintro ⟨i,G⟩ hi
 simp only at hi ⊢
 rcases Nat.lt_or_ge i x.ks.length with hlt|hge
 ·obtain ⟨kd,hk⟩:∃ k,x.ks[i]?=some k:=⟨x.ks[i]'hlt,List.getElem?_eq_getElem _⟩
  have qk:0≤((i:Nat):Int)∧x.ks[((i:Nat):Int).toNat]?=some kd:=⟨by omega,by rw [show ((i:Nat):Int).toNat=i by omega];exact hk⟩
  have hcl:=fun L=>hf kd (List.mem_of_getElem? hk) _ more L (hlen i)
  have hnx:(x.ks.take (i+1)).foldl (fun s k=>f k s) (s++[h])=f kd ((x.ks.take i).foldl (fun s k=>f k s) (s++[h])):=by
   rw [Zm hk,List.foldl_append];rfl
  rw [← hnx] at hcl
  generalize hP:(τ ((x.ks.take (i+1)).foldl (fun s k=>f k s) (s++[h])) ((x.ks.take (i+1)).foldl (fun s k=>f k s) (s++[h]))).ps++more=P at *
  generalize (τ ((x.ks.take i).foldl (fun s k=>f k s) (s++[h])) ((x.ks.take i).foldl (fun s k=>f k s) (s++[h]))).ps++more=A3 at *
  repeat' (first|refine ZJ9 (f:=Kid.av) rfl rfl qk (fun _=>rfl) ?_|refine ZD rfl rfl (hV.wk2 _ _ _) (hcl _) ?_|refine ZE ?_|refine ZC ?_|refine ZF rfl ?_|refine ZO rfl rfl ?_|refine ZB rfl ?_|refine ZA ?_|refine Qs rfl rfl rfl ?_|refine QQ rfl rfl ?_|(refine Zh rfl rfl (fun _=>?_) (fun _=>?_)<;>try (exfalso;omega))|(refine Zu rfl rfl (fun _=>?_) (fun _=>?_)<;>try (exfalso;omega))|refine ZU rfl ?_|refine ZG rfl ?_|refine Zi rfl rfl (by omega) ?_|refine Z0 rfl rfl rfl ?_|refine Yh rfl rfl rfl rfl rfl rfl ?_|refine ZI ?_|refine ZL ?_|refine Z2 ?_|refine Z4 ?_)
  all_goals try contradiction
  all_goals try (exfalso;omega)
  refine ⟨(i+1,G++[.arr 4 0 [kd.av]]),⟨rfl,?_⟩,by simp only;omega,by simp only;omega⟩
  simp only
  rw [hP]
  rfl
 ·obtain rfl:i=x.ks.length:=by omega
  rw [List.take_length]
  repeat' (first|refine ZE ?_|refine ZC ?_|refine ZF rfl ?_|refine ZB rfl ?_|refine ZA ?_|(refine Zh rfl rfl (fun _=>?_) (fun _=>?_)<;>try (exfalso;omega))|refine ZG rfl ?_|refine ZQ ?_|refine Zo ?_|refine ZP ?_|refine Za ?_|refine ZY rfl ?_|refine Zj ?_)
  all_goals try (exfalso;omega)
  refine Zd (st:=st') hst'.symm (.inr rfl) rfl rfl rfl rfl ?_
  rfl
theorem ZWn {τ:List Nat→List Nat→St} {lm mx:Nat} {g:FuncId} {caps:List AV} (hV:Visit τ lm mx g caps) {la b:Nat} {h:Nat} (s:List Nat) (hs:h∈s) {more:List (Bool × List Blk)} {st:St} (hst:st.ps=(τ s s).ps++more) :
 S Tb JC [.ptr la (b+5) 0 0 0,.int .u64 h,.map lm mx,.func (.func g) [] caps] st=some (.int .i64 0,st):=by
 refine ZWW rfl (fun A hA=>?_)
 have hA2:A=(τ s s).ps++more:=hA.trans hst
 have hA0:=hA
 clear hA
 subst hA2
 have hlk:=fun L=>ZOk (ZBe (hV.get s s) more false L) h
 simp only [decide_eq_true hs] at hlk
 repeat' (first|refine ZE ?_|refine ZC ?_|refine ZF rfl ?_|refine ZB rfl ?_|refine ZA ?_|refine ZU rfl ?_|refine ZDW rfl rfl (hlk _) ?_|refine ZQ ?_|refine ZP ?_|refine ZX ?_)
 all_goals try contradiction
 refine Zd (st:=st) hA0 (.inr rfl) rfl rfl rfl rfl ?_
 rfl
theorem Zh8 {s t:St} (h:s.ps=t.ps):s=t:=by
 obtain ⟨A,r,L⟩:=s
 obtain ⟨A',r',L'⟩:=t
 have:=List.append_inj' h rfl
 obtain ⟨rfl,h2⟩:=this
 simp only [List.cons.injEq,Prod.mk.injEq,and_true] at h2
 obtain ⟨rfl,rfl⟩:=h2
 rfl
theorem ZfN {τ:List Nat→List Nat→St} {lm mx:Nat} {g:FuncId} {caps:List AV} (hV:Visit τ lm mx g caps) {N:ZJ} (hN:GoodN N) {la b:Nat} (hR:∀ u w,Rd (τ u w) la (b+5) N):∀ (n h:Nat) (x:Nd) (s:List Nat),lk N h=some x→x.h=n→s.length+4 ^ (n+1)≤900000000→∀ {more:List (Bool × List Blk)} {st st':St},st.ps=(τ s s).ps++more→st'.ps=(τ (bel N n h s) (bel N n h s)).ps++more →
 S Tb JC [.ptr la (b+5) 0 0 0,.int .u64 h,.map lm mx,.func (.func g) [] caps] st=some (.int .i64 0,st'):=by
 intro n
 induction n with
 | zero =>
  intro h x s hx hh hb more st st' hst hst'
  by_cases hm:h∈s
  ·rw [bel,if_pos hm,← hst] at hst'
   rw [Zh8 hst']
   exact ZWn hV s hm hst
  ·rw [bel,if_neg hm] at hst'
   have hks:x.ks=[]:=by
    rcases (hN h x hx).1 with q|⟨m,ks,q⟩
    ·exact q.ks
    ·have e:=q.eq;subst e;simp at hh
   refine ZWm hV hR hx (by rw [hks];decide) s hm (fun _ s=>s) (Nat.le_refl _) (fun i=>?_) (fun k hk=>by rw [hks] at hk;simp at hk) hst (by rw [hks];exact hst')
   rw [hks,List.take_nil,List.foldl_nil,List.length_append,List.length_singleton]
   simp at hb;omega
 | succ n ih =>
  intro h x s hx hh hb more st st' hst hst'
  by_cases hm:h∈s
  ·rw [bel,if_pos hm,← hst] at hst'
   rw [Zh8 hst']
   exact ZWn hV s hm hst
  ·rw [bel,if_neg hm,ZDp hx] at hst'
   have hk4:=(hN h x hx).1.len
   have hkids:=(hN h x hx).2
   have hp:4 ^ (n+1+1)=4*4 ^ (n+1):=by rw [Nat.pow_succ];omega
   have h1:4≤4 ^ (n+1):=by rw [Nat.pow_succ];have:0<4 ^ n:=Nat.pow_pos (by decide);omega
   refine ZWm hV hR hx hk4 s hm (fun k s=>bel N n k.at_ s) (B:=900000000-4 ^ (n+1)) (by omega) (fun i=>?_) (fun k hk s' more' L hl=>?_) hst hst'
   ·have:=ZdE (Zjt hN n) (x.ks.take i) (s++[h]) (fun k hk=>by obtain ⟨_,y,y1,y2,_⟩:=hkids k (List.mem_of_mem_take hk);exact ⟨y,y1,by omega⟩)
    rw [List.length_append,List.length_singleton] at this
    have hti:(x.ks.take i).length≤4:=by rw [List.length_take];omega
    have h4:(x.ks.take i).length*4 ^ (n+1)≤4*4 ^ (n+1):=Nat.mul_le_mul_right _ hti
    generalize (x.ks.take i).length*4 ^ (n+1)=P2 at *
    generalize 4 ^ (n+1)=P at *
    omega
   ·obtain ⟨_,y,y1,y2,_⟩:=hkids k hk
    exact ih k.at_ y s' y1 (by omega) (by omega) (more:=more'++[(false,L)]) (List.append_assoc ..) (List.append_assoc ..)
end Go.Q15
