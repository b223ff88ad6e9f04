/- A part of the proof: SLc, SLd, SSd, SSe, SSf, SSg, SSh, SSi, SSj, SSk, SQc, SQd, SQe, SSl, SQf, SQg, SQh, SSm, SSn, SLe, FY, SHJ, TZa, SHI2, TZo, FYi, TZr. No condition. -/
import Derived.SliceStrings
import Derived.Deep.Slices
import Derived.Carry
import Derived.Shelf.Strings.OnBuilder
import Derived.Test.YtleajkoecgbnlaaGreatProg
import Derived.Shelf.Small.Strs
import Derived.Shelf.Strings.Search1
import Derived.Shelf.Strings.Search2
import Derived.Shelf.Strings.Search3
import Derived.ChangeSlices
import Derived.Test.YtleajkoecgbnlaaGreatSoT7
set_option linter.unusedVariables false
set_option linter.unusedSimpArgs false
namespace Go.Q15
open Go Go.QAbs
set_option maxRecDepth 100000
set_option maxHeartbeats 8000000
section
variable {st:St} {la b:Nat} {r:Ro} {N:ZQ} {s:List UInt8}
theorem ZML (hN:GoodN N) (hR:Rd st la (b+5) N) (h:Rt N r s) (hs:s.length<=65536) {a n:Nat} (h2:a+n<=s.length):S TS Yf [.ptr la (b+5) 0 0 0,r.av,.int .i64 a,.int .i64 n] st=some (.tup [.str ((s.drop a).take n),.int .i64 0],st):=by
 refine QI (T:=TS) rfl (fun A hA=>?_)
 obtain ⟨p1,p2,p3⟩:=Zfz hN h n a n (Nat.le_refl _) h2
 have hP:=fun L=>Zki hN (hR.push hA (ro:=false) (L:=L)) h (by omega) (a:=a) (n:=n) h2
 have hJ:=fun st=>upS (Znt (pcs N r n a n) (by omega) (by rw [p1,List.length_take,List.length_drop];omega) st)
 rw [p1] at hJ
 generalize (pcs N r n a n).map AV.str=l at *
 unfold Ro.av at *
 repeat' (first|refine ZF ?_|refine ZD ?_|refine ZG rfl ?_|refine ZV rfl rfl rfl rfl ?_|refine Zw rfl rfl ?_|refine ZB rfl ?_|refine ZC ?_|refine Zh rfl rfl rfl ?_|refine ZA rfl rfl rfl (hP _) ?_|refine ZA rfl rfl rfl (hJ _) ?_|refine ZL ?_|refine ZJ ?_)
 all_goals try contradiction
 all_goals refine Ze hA (by first|exact .inl rfl|exact .inr rfl) rfl rfl rfl rfl ?_
 all_goals rfl
theorem ZWq (s t:List UInt8) (hs:s.length<=65536) (st:St):S TS Y4 [.str s,.str t] st=some (.int .i64 (Lib.index s t),st):=by
 refine QI (T:=TS) rfl (fun A hA=>?_)
 have hI:∀ st,S TS Qh [.str s,.str t] st=some (.int .i64 (Lib.index s t),st):=fun st=>ZMT (o:=ZOv) rfl (by
  unfold ZOv ZID
  simp only
  rw [if_pos (by omega)];rfl)
 repeat' (first|refine ZF ?_|refine ZD ?_|refine ZG rfl ?_|refine ZB rfl ?_|refine ZC ?_|refine ZA rfl rfl rfl (hI _) ?_|refine ZL ?_|refine ZJ ?_)
 refine Ze hA (by first|exact .inl rfl|exact .inr rfl) rfl rfl rfl rfl ?_
 rfl
theorem ZeX (hN:GoodN N) (hR:Rd st la (b+5) N) (h:Rt N r s) (hs:s.length<=65536) (t:List UInt8) {a:Nat} (h2:a<=s.length) :
 S TS ZAm [.ptr la (b+5) 0 0 0,r.av,.str t,.int .i64 a] st=some (if Lib.index (s.drop a) t<0 then .tup [.int .i64 0,.bool false,.int .i64 0] else .tup [.int .i64 (a+Lib.index (s.drop a) t),.bool true,.int .i64 0],st):=by
 refine QI (T:=TS) rfl (fun A hA=>?_)
 have hmb:r.m.b=s.length:=(h.b hN).2
 have hC:=fun L=>upS (ZaF hN (hR.push hA (ro:=false) (L:=L)) h (by omega) (a:=(a:Int)) (n:=0) (by omega) (by omega) (by omega))
 have hRe:=fun L=>ZML hN (hR.push hA (ro:=false) (L:=L)) h hs (a:=a) (n:=s.length-a) (by omega)
 rw [show ((s.length-a:Nat):Int)=r.m.b-(a:Int) by omega,List.take_of_length_le (by rw [List.length_drop];exact Nat.le_refl _)] at hRe
 have hI:=fun st=>ZWq (s.drop a) t (by rw [List.length_drop];omega) st
 have hle:Lib.index (s.drop a) t<=100000000/\-1<=Lib.index (s.drop a) t:=by
  refine ⟨?_,Lib.index_ge _ _⟩
  have key:∀ (l t:List UInt8),Lib.index l t<=l.length:=by
   intro l t
   induction l with
   | nil=>unfold Lib.index;split<;>simp
   | cons c l ih =>
    rw [Lib.index];simp only [List.length_cons]
    split
    ·omega
    ·split<;>omega
  have:=key (s.drop a) t
  rw [List.length_drop] at this;omega
 generalize Lib.index (s.drop a) t=z at *
 generalize s.drop a=sd at *
 unfold Ro.av at *
 repeat' (first|refine ZF ?_|refine ZD ?_|refine ZG rfl ?_|refine ZP rfl rfl ?_|refine ZV rfl rfl rfl rfl ?_|refine Zw rfl rfl ?_|refine ZB rfl ?_|refine ZC ?_|(refine Zr rfl rfl (fun _=>?_) (fun _=>?_)<;>try (exfalso;omega))|(refine Zn rfl rfl (fun _=>?_) (fun _=>?_)<;>try (exfalso;omega))|refine ZW rfl ?_|refine ZH rfl ?_|refine Zq rfl rfl (by omega) ?_|refine JI rfl rfl (by omega) ?_|refine Zh rfl rfl rfl ?_|refine ZA rfl rfl rfl (hC _) ?_|refine ZA rfl rfl rfl (hRe _) ?_|refine ZA rfl rfl rfl (hI _) ?_|refine ZI ?_|refine ZL ?_|refine ZJ ?_|refine ZZ ?_)
 all_goals try contradiction
 all_goals try (exfalso;omega)
 all_goals refine Ze hA (by first|exact .inl rfl|exact .inr rfl) rfl rfl rfl rfl ?_
 ·rw [if_pos (by assumption)]
 ·rw [if_neg (by omega)]
end
theorem ZiE (A:List (Bool × List Blk)):S Tb Yr [] ⟨A,false,[]⟩=some (.tup [.ptr A.length 6 0 0 0,exRo.av,.bool true],⟨A,false,[.arr 5 0 [exRo.av]]++(arB A.length 1 exR++[.arr 5 0 [exRo.av]])⟩):=by
 have hN:=Zgm 8 4 (by omega) (by omega) A [.arr 5 0 [Ro.zero.av]]
 have h1:=Zgx (ZES A [.arr 5 0 [Ro.zero.av]] [] (Q2 8 4)) (ZWl 8 4 (by omega) (by omega)) ZMA exS (by decide) (by rw [ZnC];decide)
 rw [ZWk,ZnB] at h1
 change S Tb ZBV [.ptr A.length 6 0 0 0,.str exS] ⟨A,false,_⟩=some (_,⟨A,false,[.arr 5 0 [Ro.zero.av]]++(arB A.length 1 exR++[])⟩) at h1
 refine Xx rfl ?_
 repeat' (first|refine ZF ?_|refine ZD ?_|refine ZG rfl ?_|refine QD rfl ?_|refine Zl rfl rfl rfl rfl ?_|refine Zw rfl rfl ?_|refine ZB rfl ?_|refine ZC ?_|(refine Zn rfl rfl (fun _=>?_) (fun _=>?_)<;>try (exfalso;omega))|refine ZH rfl ?_|refine JN rfl rfl rfl rfl ?_|refine Zh rfl rfl rfl ?_|refine ZA rfl rfl rfl (hN) ?_|refine ZI ?_)
 all_goals try contradiction
 all_goals try (exfalso;omega)
 unfold exS at h1;refine ZA rfl rfl rfl h1 ?_
 change Is _ _ _ _ _ _ ⟨A,false,[.arr 5 0 [Ro.zero.av],exR.b0,exR.b1,exR.b2,exR.b3 A.length 1,exR.b4,exR.b5 A.length 1]⟩
 generalize hb0:exR.b0=b0 at *
 generalize hb1:exR.b1=b1 at *
 generalize hb2:exR.b2=b2 at *
 generalize hb3:exR.b3 A.length 1=b3 at *
 generalize hb4:exR.b4=b4 at *
 generalize hb5:exR.b5 A.length 1=b5 at *
 repeat' (first|refine ZDC rfl rfl rfl rfl rfl rfl ?_|refine ZEM rfl rfl rfl rfl rfl rfl rfl ?_|refine ZF ?_|refine ZD ?_|refine ZG rfl ?_|refine ZP rfl rfl ?_|refine ZV rfl rfl rfl rfl ?_|refine QD rfl ?_|refine Zl rfl rfl rfl rfl ?_|refine Zw rfl rfl ?_|refine ZB rfl ?_|refine ZC ?_|(refine Zj rfl rfl (fun _=>?_) (fun _=>?_)<;>try (exfalso;omega))|refine Zh rfl rfl rfl ?_|refine Z5 rfl rfl rfl rfl rfl rfl ?_|refine ZL ?_|refine ZJ ?_)
 all_goals first|exact absurd rfl ‹_›|(refine (ZnX (.inr rfl) rfl rfl rfl rfl rfl).trans ?_;subst hb0 hb1 hb2 hb3 hb4 hb5;rfl)
theorem ZiF (st:St):S TS Qy [] st=some (.bool true,st):=by
 refine QI (T:=TS) rfl (fun A hA=>?_)
 obtain ⟨o1,o2,o3⟩:=ZoP;have hS:=upS (ZiE A);generalize hX0:[Blk.arr 5 0 [exRo.av]]++(arB A.length 1 exR++[.arr 5 0 [exRo.av]])=X0 at hS
 have hHas:∀ T,Has ⟨A,false,X0++T⟩ A.length 1 exR:=fun T=>by
  rw [<- hX0]
  have:=ZES A [.arr 5 0 [exRo.av]] ([.arr 5 0 [exRo.av]]++T) exR
  simpa [List.append_assoc] using this
 have hRe:=fun T=>ZML (a:=7) (n:=4) o2 (hHas T).r.rd o3 (by decide) (by decide)
 have hFi:=fun T=>ZeX (a:=0) o2 (hHas T).r.rd o3 (by decide) [105,106] (by decide)
 have e1:(exS.drop 7).take 4=[104,105,106,107]:=rfl
 have e2:Lib.index (exS.drop 0) [105,106]=8:=by decide
 rw [e1] at hRe;rw [e2] at hFi
 simp only [show ¬ ((8:Int)<0) by decide,if_false] at hFi
 repeat' (first|refine ZF ?_|refine ZD ?_|refine ZG rfl ?_|refine QD rfl ?_|refine Zl rfl rfl rfl rfl ?_|refine Zw rfl rfl ?_|refine ZB rfl ?_|refine ZC ?_|refine Qx rfl rfl rfl ?_|(refine Zj rfl rfl (fun _=>?_) (fun _=>?_)<;>try (exfalso;omega))|(refine Ye rfl rfl (fun _=>?_) (fun _=>?_)<;>try contradiction)|refine ZH rfl ?_|refine XQ rfl rfl ?_|refine Zv rfl rfl rfl ?_|refine Js rfl rfl rfl rfl rfl rfl ?_|refine ZA rfl rfl rfl (hS) ?_|refine ZA rfl rfl rfl (hRe _) ?_|refine ZA rfl rfl rfl (hFi _) ?_|refine ZI ?_|refine ZL ?_|refine ZJ ?_)
 all_goals try contradiction
 all_goals try (exfalso;omega)
 refine Ze hA (by first|exact .inl rfl|exact .inr rfl) rfl rfl rfl rfl ?_
 rfl
def Zn1 (T T':Tab):Prop:=∀ f x,T f=some x->T' f=some x\/∀ n args st,QN T n f args st=none
theorem ZWr {T T':Tab} (h:Zn1 T T'):∀ n,Le (QN T n) (QN T' n)
 | 0=>fun _ _ _ _ q=>by simp [QN] at q
 | n+1=>fun f args st r q=>by
  have q0:=q
  obtain ⟨x,hx,hq⟩:=Option.bind_eq_some_iff.1 (show ((T f).bind _)=some r from q)
  rcases h f x hx with h1|h1
  ·refine Option.bind_eq_some_iff.2 ⟨x,h1,?_⟩
   cases x with
   | pf pf=>exact ZCT (ZWr h n) (ZSe (Nat.le_refl n)) hq
   | base o=>exact hq
  ·rw [h1 (n+1) args st] at q0;exact absurd q0 (by simp)
theorem Zn2 {T T':Tab} (h:Zn1 T T'):Le (S T) (S T'):=fun f a st r q=>by
 obtain ⟨n,hn⟩:=S_iff.1 q;exact S_iff.2 ⟨n,ZWr h n _ _ _ _ hn⟩
theorem ZoS (n:Nat) (args:List AV) (st:St):QN TS n Z8 args st=none:=by
 cases n with
 | zero=>rfl
 | succ n =>
  show ((TS Z8).bind _)=none
  rw [show TS Z8=none from rfl];rfl
theorem no83 (n:Nat) (args:List AV) (st:St):QN TS n Zp args st=none:=by
 cases n with
 | zero=>rfl
 | succ n =>
  show ((TS Zp).bind _)=none
  rw [show TS Zp=some (.pf QS) from rfl]
  simp only [oS,ZnI,JP,QS,Je,Jf,jB,if_false,exec,ZFp,Q0,wantedV,Zco,Qc,Zc,evalPO,Zid,Xn,oS,Jo,ZMQ,Opd.get,Qv,ZoS,Option.bind_none]
noncomputable def tO:List (FuncId × Ent):=(Zp,.base Zmq)::tS
noncomputable def TO:Tab:=Yv tO
theorem leO:Zn1 TS TO:=fun f x hx=>by
 by_cases hf:f=Zp
 ·subst hf;exact .inr no83
 ·refine .inl ?_
  show (if Zp=f then _ else Yv tS f)=_
  rw [if_neg (fun q=>hf q.symm)];exact hx
theorem upO {f:FuncId} {args:List AV} {st:St} {r:AV × St} (h:S TS f args st=some r):S TO f args st=some r:=Zn2 leO _ _ _ _ h
theorem ZeY (s t:List UInt8) (st:St):S TO YL [.str s,.str t] st=some (.int .i64 (Lib.compareBytes s t),st):=by
 refine QI (T:=TO) rfl (fun A hA=>?_)
 have hI:∀ st,S TO Zp [.str s,.str t] st=some (.int .i64 (Lib.compareBytes s t),st):=fun st=>ZMT (o:=Zmq) rfl rfl
 repeat' (first|refine ZF ?_|refine ZD ?_|refine ZG rfl ?_|refine ZB rfl ?_|refine ZC ?_|refine ZA rfl rfl rfl (hI _) ?_|refine ZL ?_|refine ZJ ?_)
 refine Ze hA (by first|exact .inl rfl|exact .inr rfl) rfl rfl rfl rfl ?_
 rfl
theorem Zgz:∀ (s t:List UInt8),Lib.compareBytes t s=0-Lib.compareBytes s t
 | [],[]=>rfl
 | [],_::_=>rfl
 | _::_,[]=>rfl
 | a::xs,b::ys=>by
  show (if b<a then (-1:Int) else if a<b then 1 else Lib.compareBytes ys xs)=0-(if a<b then (-1:Int) else if b<a then 1 else Lib.compareBytes xs ys)
  by_cases h:a<b
  ·have h2:¬ b<a:=by rw [UInt8.lt_iff_toNat_lt] at h ⊢;omega
   rw [if_neg h2,if_pos h,if_pos h];rfl
  ·by_cases h':b<a
   ·rw [if_pos h',if_neg h,if_pos h'];rfl
   ·rw [if_neg h,if_neg h',if_neg h,if_neg h'];exact Zgz xs ys
theorem ZaG:∀ (s t:List UInt8),-1<=Lib.compareBytes s t/\Lib.compareBytes s t<=1
 | [],[]=>by decide
 | [],_::_=>by simp [Lib.compareBytes]
 | _::_,[]=>by simp [Lib.compareBytes]
 | a::xs,b::ys=>by
  rw [Lib.compareBytes]
  have:=ZaG xs ys
  split
  ·omega
  ·split<;>omega
section
variable {st:St} {la b:Nat} {r q:Ro} {N:ZQ} {s t:List UInt8}
theorem ZPT (hN:GoodN N) (hR:Rd st la (b+5) N) (h:Rt N r s) (h':Rt N q t) (hs:s.length<=65536) (ht:t.length<=65536):S TO Y3 [.ptr la (b+5) 0 0 0,r.av,q.av] st=some (.tup [.int .i64 (Lib.compareBytes s t),.int .i64 0],st):=by
 refine QI (T:=TO) rfl (fun A hA=>?_)
 have hmb:r.m.b=s.length:=(h.b hN).2;have hmb':q.m.b=t.length:=(h'.b hN).2
 have hK:=fun L=>upO (upS (ZSR (hR.push hA (ro:=false) (L:=L)) h.rt))
 have hK':=fun L=>upO (upS (ZSR (hR.push hA (ro:=false) (L:=L)) h'.rt))
 have hRe:=fun L=>upO (ZML hN (hR.push hA (ro:=false) (L:=L)) h hs (a:=0) (n:=s.length) (by omega))
 have hRe':=fun L=>upO (ZML hN (hR.push hA (ro:=false) (L:=L)) h' ht (a:=0) (n:=t.length) (by omega))
 rw [<- hmb,List.drop_zero,List.take_length] at hRe;rw [<- hmb',List.drop_zero,List.take_length] at hRe'
 have hC:=fun st=>ZeY s t st
 generalize Lib.compareBytes s t=c at *
 unfold Ro.av at *
 repeat' (first|refine ZF ?_|refine ZD ?_|refine ZG rfl ?_|refine ZP rfl rfl ?_|refine ZV rfl rfl rfl rfl ?_|refine Zw rfl rfl ?_|refine ZB rfl ?_|refine ZC ?_|refine ZCD rfl rfl ?_|refine Qn rfl rfl ?_|refine ZjU rfl rfl (by first|omega|decide|(simp only [List.length_cons,List.length_nil];omega)) rfl rfl ?_|(refine Zr rfl rfl (fun _=>?_) (fun _=>?_)<;>try (exfalso;omega))|(refine Zn rfl rfl (fun _=>?_) (fun _=>?_)<;>try (exfalso;omega))|refine ZW rfl ?_|refine ZH rfl ?_|refine Zq rfl rfl (by omega) ?_|refine Zh rfl rfl rfl ?_|refine Z5 rfl rfl rfl rfl rfl rfl ?_|refine Q6 rfl rfl rfl rfl ?_|refine Z5 rfl rfl rfl (QT _ _ _) (JC _ _) rfl ?_|refine Jy ?_|refine ZA rfl rfl (by first|rfl|(simp only [lE,lN,lC,Zb,ZS,ZU];first|done|rfl)) (hK _) ?_|refine ZA rfl rfl (by first|rfl|(simp only [lE,lN,lC,Zb,ZS,ZU];first|done|rfl)) (hK' _) ?_|refine ZA rfl rfl (by first|rfl|(simp only [lE,lN,lC,Zb,ZS,ZU];first|done|rfl)) (hRe _) ?_|refine ZA rfl rfl (by first|rfl|(simp only [lE,lN,lC,Zb,ZS,ZU];first|done|rfl)) (hRe' _) ?_|refine ZA rfl rfl (by first|rfl|(simp only [lE,lN,lC,Zb,ZS,ZU];first|done|rfl)) (hC _) ?_|refine ZI ?_|refine ZL ?_|refine Z0 ?_|refine ZO ?_|refine ZJ ?_|refine Zi ?_|refine QA ?_|refine Zg rfl ?_)
 all_goals try contradiction
 all_goals try (exfalso;omega)
 all_goals refine Ze hA (by first|exact .inl rfl|exact .inr rfl) rfl rfl rfl rfl ?_
 all_goals rfl
end
set_option maxHeartbeats 16000000
structure Op where
 at_:Int
 num:Int
 text:List UInt8
def ZoT (l:List Op):Prop:=∃ s∈l,300<s.text.length
noncomputable instance (l:List Op):Decidable (ZoT l):=Classical.propDecidable _
def ZCQ (texts:List (List UInt8)) (ys:List Ed):Prop:=ZPS texts\/ZWo ys\/12<ys.length
noncomputable instance (texts:List (List UInt8)) (ys:List Ed):Decidable (ZCQ texts ys):=Classical.propDecidable _
theorem Zkj (texts:List (List UInt8)) (ys:List Ed) (hb:texts.length<9223372036854775808) (hbs:∀ s∈texts,s.length<9223372036854775808) (hy:ys.length<9223372036854775808) (hys:∀ y∈ys,y.text.length<9223372036854775808) (st:St) :
 S Tb YV [.lit (texts.map .str),.lit (ys.map Ed.av)] st=some (.bool (decide (ZCQ texts ys)),st):=by
 refine QI rfl (fun A hA=>?_)
 have hLg:=fun st=>Zns texts hb hbs st
 have hMn:=fun st=>ZkM ys hy hys st
 by_cases hl:ZPS texts
 ·rw [decide_eq_true (show ZCQ texts ys from .inl hl)]
  simp only [decide_eq_true hl] at hLg
  repeat' (first|refine ZF ?_|refine ZD ?_|refine ZG rfl ?_|refine Jp rfl rfl ?_|refine Zl rfl rfl rfl rfl ?_|refine ZB rfl ?_|refine ZC ?_|refine ZA rfl rfl rfl (hLg _) ?_|refine ZL ?_|refine ZJ ?_)
  all_goals try contradiction
  all_goals refine Ze hA (by first|exact .inl rfl|exact .inr rfl) rfl rfl rfl rfl ?_
  all_goals rfl
 simp only [decide_eq_false hl] at hLg
 by_cases hm:ZWo ys
 ·rw [decide_eq_true (show ZCQ texts ys from .inr (.inl hm))]
  simp only [decide_eq_true hm] at hMn
  repeat' (first|refine ZF ?_|refine ZD ?_|refine ZG rfl ?_|refine QD rfl ?_|refine Jp rfl rfl ?_|refine Zl rfl rfl rfl rfl ?_|refine ZB rfl ?_|refine ZC ?_|refine ZA rfl rfl rfl (hLg _) ?_|refine ZA rfl rfl rfl (hMn _) ?_|refine ZL ?_|refine ZJ ?_)
  all_goals try contradiction
  all_goals refine Ze hA (by first|exact .inl rfl|exact .inr rfl) rfl rfl rfl rfl ?_
  all_goals rfl
 simp only [decide_eq_false hm] at hMn
 by_cases h12:12<ys.length
 ·rw [decide_eq_true (show ZCQ texts ys from .inr (.inr h12))]
  repeat' (first|refine ZMI rfl ?_|refine ZF ?_|refine ZD ?_|refine ZG rfl ?_|refine QD rfl ?_|refine Zl rfl rfl rfl rfl ?_|refine ZB rfl ?_|refine ZC ?_|(refine QV rfl rfl (fun _=>?_) (fun _=>?_)<;>try (exfalso;omega))|refine ZA rfl rfl rfl (hLg _) ?_|refine ZA rfl rfl rfl (hMn _) ?_|refine ZL ?_|refine ZJ ?_)
  all_goals try contradiction
  all_goals try (exfalso;omega)
  all_goals refine Ze hA (by first|exact .inl rfl|exact .inr rfl) rfl rfl rfl rfl ?_
  all_goals rfl
 ·rw [decide_eq_false (show ¬ ZCQ texts ys from fun q=>q.elim hl fun q=>q.elim hm h12)]
  repeat' (first|refine ZMI rfl ?_|refine ZF ?_|refine ZD ?_|refine ZG rfl ?_|refine QD rfl ?_|refine Zl rfl rfl rfl rfl ?_|refine ZB rfl ?_|refine ZC ?_|(refine QV rfl rfl (fun _=>?_) (fun _=>?_)<;>try (exfalso;omega))|refine ZA rfl rfl rfl (hLg _) ?_|refine ZA rfl rfl rfl (hMn _) ?_|refine ZL ?_|refine ZJ ?_)
  all_goals try contradiction
  all_goals try (exfalso;omega)
  all_goals refine Ze hA (by first|exact .inl rfl|exact .inr rfl) rfl rfl rfl rfl ?_
  all_goals rfl
theorem Zf2 (x n:Int) (h0:0<=n) (h1:n<4611686018427387904) (st:St):S Tb Jd [.int .i64 x,.int .i64 n] st=some (.int .i64 (Q7 x n),st):=by
 refine QI rfl (fun A hA=>?_)
 have hP:=fun st=>Zca x n h0 h1 st
 repeat' (first|refine ZF ?_|refine ZD ?_|refine ZG rfl ?_|refine ZB rfl ?_|refine ZC ?_|refine ZA rfl rfl rfl (hP _) ?_|refine ZL ?_|refine ZJ ?_)
 refine Ze hA (by first|exact .inl rfl|exact .inr rfl) rfl rfl rfl rfl ?_
 rfl
section
variable {n:Nat} {r:AR} {v w:Nat} {ros:List Ro} {ss:List (List UInt8)} {G0 G1 G2:List Blk}
theorem Zn3:(ltL n r v ros G0 w ss G1).length=8+G0.length+G1.length:=by
 simp [ltL];omega
end
set_option maxHeartbeats 32000000
theorem Zkk (t:List UInt8):∀ (l:List UInt8),Lib.index l t<=l.length:=by
 intro l
 induction l with
 | nil=>unfold Lib.index;split<;>simp
 | cons c l ih =>
  rw [Lib.index];simp only [List.length_cons]
  split
  ·omega
  ·split<;>omega
theorem up4 {f:FuncId} {args:List AV} {st:St} {r:AV × St} (h:S Tb f args st=some r):S TO f args st=some r:=upO (upS h)
theorem Zkl {texts:List (List UInt8)} {ys:List Ed} (h:¬ ZCQ texts ys):(texts.flatten.length<=900/\texts.length<=4)/\ys.length<=12/\∀ y∈ys,y.text.length<=200:=by
 have h1:¬ ZPS texts:=fun q=>h (.inl q)
 have h2:¬ ZWo ys:=fun q=>h (.inr (.inl q))
 have h3:¬ 12<ys.length:=fun q=>h (.inr (.inr q))
 obtain ⟨a,b,c⟩:=Znz h1 h2
 exact ⟨a,by omega,c⟩
theorem Zcc (texts:List (List UInt8)) (ys:List Ed) (x y:Int) (sub:List UInt8) (fr:Int) (hb:texts.length<9223372036854775808) (hbs:∀ s∈texts,s.length<9223372036854775808) (hy:ys.length<9223372036854775808) (hys:∀ y∈ys,y.text.length<9223372036854775808) (hsub:sub.length<9223372036854775808) (st:St) :
 S TO Jt [.lit (texts.map .str),.lit (ys.map Ed.av),.int .i64 x,.int .i64 y,.str sub,.int .i64 fr] st=some (.bool true,st):=by
 refine QI (T:=TO) rfl (fun A hA=>?_)
 have hBy:=fun st=>up4 (Zkj texts ys hb hbs hy hys st)
 have hWk:=fun st=>upO (ZiF st)
 by_cases hl:ZCQ texts ys
 ·simp only [decide_eq_true hl] at hBy
  repeat' (first|refine ZF ?_|refine ZD ?_|refine ZG rfl ?_|refine Jp rfl rfl ?_|refine Zl rfl rfl rfl rfl ?_|refine ZB rfl ?_|refine ZC ?_|refine ZW rfl ?_|refine ZA rfl rfl rfl (hBy _) ?_|refine ZA rfl rfl rfl (hWk _) ?_|refine ZL ?_|refine ZJ ?_|refine ZZ ?_)
  all_goals try contradiction
  all_goals refine Ze hA (by first|exact .inl rfl|exact .inr rfl) rfl rfl rfl rfl ?_
  all_goals rfl
 simp only [decide_eq_false hl] at hBy
 by_cases h20:100<sub.length
 ·repeat' (first|refine ZF ?_|refine ZD ?_|refine ZG rfl ?_|refine QD rfl ?_|refine Zl rfl rfl rfl rfl ?_|refine ZB rfl ?_|refine ZC ?_|refine JG rfl ?_|(refine QV rfl rfl (fun _=>?_) (fun _=>?_)<;>try (exfalso;omega))|refine ZW rfl ?_|refine ZA rfl rfl rfl (hBy _) ?_|refine ZA rfl rfl rfl (hWk _) ?_|refine ZL ?_|refine ZJ ?_|refine ZZ ?_)
  all_goals try contradiction
  all_goals try (exfalso;omega)
  all_goals refine Ze hA (by first|exact .inl rfl|exact .inr rfl) rfl rfl rfl rfl ?_
  all_goals rfl
 obtain ⟨h9,h12,hy2⟩:=Zkl hl;obtain ⟨v,st',hMk0,r,c,ros,ss,G0,G1,n,rfl,rfl,hI⟩:=Zn0 texts ys h9 h12 hy2 A;have hMk:=up4 hMk0;clear hMk0;have hn20:=hI.n20;have hrs:=hI.len;have hsl:=hI.rts.1
 rcases Nat.eq_zero_or_pos n with hn0|hpos
 ·subst hn0
  repeat' (first|refine ZF ?_|refine ZD ?_|refine ZG rfl ?_|refine QD rfl ?_|refine Zl rfl rfl rfl rfl ?_|refine Zw rfl rfl ?_|refine ZB rfl ?_|refine ZC ?_|refine JG rfl ?_|refine JJ rfl ?_|(refine QV rfl rfl (fun _=>?_) (fun _=>?_)<;>try (exfalso;omega))|(refine Zj rfl rfl (fun _=>?_) (fun _=>?_)<;>try (exfalso;omega))|refine ZW rfl ?_|refine ZH rfl ?_|refine XQ rfl rfl ?_|refine ZA rfl rfl rfl (hBy _) ?_|refine ZA rfl rfl rfl (hWk _) ?_|refine ZA rfl rfl rfl (hMk) ?_|refine ZI ?_|refine ZL ?_|refine ZJ ?_|refine ZZ ?_)
  all_goals try contradiction
  all_goals try (exfalso;omega)
  all_goals refine Ze hA (by first|exact .inl rfl|exact .inr rfl) rfl rfl rfl rfl ?_
  all_goals rfl
 have hpb:=Qk (x:=x) (n:=(n:Int)-1) (by omega)
 have hPk:=fun st=>up4 (Zf2 x ((n:Int)-1) (by omega) (by omega) st)
 have hpb':=Qk (x:=y) (n:=(n:Int)-1) (by omega)
 have hPk':=fun st=>up4 (Zf2 y ((n:Int)-1) (by omega) (by omega) st)
 generalize Q7 x ((n:Int)-1)=z at *
 generalize Q7 y ((n:Int)-1)=z' at *
 obtain ⟨ro,hro⟩:∃ x,ros[z.toNat]?=some x:=⟨_,jE (by omega)⟩
 obtain ⟨s,hs⟩:∃ x,ss[z.toNat]?=some x:=⟨_,jE (by omega)⟩
 obtain ⟨ro',hro'⟩:∃ x,ros[z'.toNat]?=some x:=⟨_,jE (by omega)⟩
 obtain ⟨s',hs'⟩:∃ x,ss[z'.toNat]?=some x:=⟨_,jE (by omega)⟩
 have hRt:=hI.rts.2 z.toNat ro s hro hs;have hRt':=hI.rts.2 z'.toNat ro' s' hro' hs';have hsm:=hI.small s (jM hs);have hsm':=hI.small s' (jM hs');have hGd:=hI.good
 have hpb2:=Qk (x:=fr) (n:=(s.length:Int)) (by omega)
 have hPk2:=fun st=>up4 (Zf2 fr (s.length:Int) (by omega) (by omega) st)
 generalize Q7 fr (s.length:Int)=f at *
 have f6:(ltL A.length r n ros G0 c ss G1)[6]?=_:=Zny;have f7:(ltL A.length r n ros G0 c ss G1)[7+G0.length]?=_:=lt_7
 have g6:(ros.map Ro.av)[0+z.toNat]?=some ro.av:=by rw [Nat.zero_add,jG,hro];rfl
 have g6':(ros.map Ro.av)[0+z'.toNat]?=some ro'.av:=by rw [Nat.zero_add,jG,hro'];rfl
 have g7:(ss.map AV.str)[0+z.toNat]?=some (.str s):=by rw [Nat.zero_add,jG,hs];rfl
 have g7':(ss.map AV.str)[0+z'.toNat]?=some (.str s'):=by rw [Nat.zero_add,jG,hs'];rfl
 have hz:=Zn3 (n:=A.length) (r:=r) (v:=n) (ros:=ros) (G0:=G0) (w:=c) (ss:=ss) (G1:=G1)
 have hne:¬ (A.length=A.length/\(ltL A.length r n ros G0 c ss G1).length=7+G0.length):=by rw [hz];omega
 have hHas:=ZWp (A:=A) (r:=r) (v:=n) (ros:=ros) (G0:=G0) (w:=c) (ss:=ss) (G1:=G1)
 generalize ltL A.length r n ros G0 c ss G1=X at *
 have hC1:=ZPT hGd hHas.r.rd hRt hRt' (by omega) (by omega)
 have hC2:=ZPT hGd hHas.r.rd hRt' hRt (by omega) (by omega)
 rw [Zgz] at hC2
 have hSC:=fun st=>ZeY s s' st
 have hcb:=ZaG s s'
 generalize Lib.compareBytes s s'=cc at *
 have hFi:=upO (ZeX hGd hHas.r.rd hRt (by omega) sub (a:=f.toNat) (by omega))
 have hIx:=fun st=>upO (ZWq (s.drop f.toNat) sub (by rw [List.length_drop];omega) st)
 have hxl:=Zkk sub (s.drop f.toNat);have hxg:=Lib.index_ge (s.drop f.toNat) sub;rw [List.length_drop] at hxl
 rw [show ((f.toNat:Nat):Int)=f by omega] at hFi
 generalize Lib.index (s.drop f.toNat) sub=w at *
 by_cases hw:w<0
 ·rw [if_pos hw] at hFi
  unfold Ro.av at hC1 hC2 hFi
  repeat' (first|refine ZjR rfl (by omega) ?_|refine ZCA rfl rfl (by omega) f6 ?_|refine ZV rfl f6 g6 (ZMH _) ?_|refine ZV rfl f6 g6' (ZMH _) ?_|refine ZCA rfl rfl (by omega) f7 ?_|refine ZV rfl f7 g7 rfl ?_|refine ZV rfl f7 g7' rfl ?_|refine ZF ?_|refine ZD ?_|refine ZG rfl ?_|refine QD rfl ?_|refine Zl rfl rfl rfl rfl ?_|refine Zw rfl rfl ?_|refine ZB rfl ?_|refine ZC ?_|refine JG rfl ?_|refine JJ rfl ?_|(refine Zr rfl rfl (fun _=>?_) (fun _=>?_)<;>try (exfalso;omega))|(refine QV rfl rfl (fun _=>?_) (fun _=>?_)<;>try (exfalso;omega))|(refine Zj rfl rfl (fun _=>?_) (fun _=>?_)<;>try (exfalso;omega))|(refine Zn rfl rfl (fun _=>?_) (fun _=>?_)<;>try (exfalso;omega))|refine ZW rfl ?_|refine ZH rfl ?_|refine XQ rfl rfl ?_|refine JI rfl rfl (by omega) ?_|refine ZBQ rfl rfl (by omega) ?_|refine ZA rfl rfl rfl (hBy _) ?_|refine ZA rfl rfl rfl (hWk _) ?_|refine ZA rfl rfl rfl (hMk) ?_|refine ZA rfl rfl rfl (hPk _) ?_|refine ZA rfl rfl rfl (hPk' _) ?_|refine ZA rfl rfl rfl (hPk2 _) ?_|refine ZA rfl rfl rfl (hC1) ?_|refine ZA rfl rfl rfl (hC2) ?_|refine ZA rfl rfl rfl (hSC _) ?_|refine ZA rfl rfl rfl (hFi) ?_|refine ZA rfl rfl rfl (hIx _) ?_|refine ZI ?_|refine ZL ?_|refine ZJ ?_|refine ZZ ?_)
  all_goals try contradiction
  all_goals try (exfalso;omega)
  all_goals refine Ze hA (by first|exact .inl rfl|exact .inr rfl) rfl rfl rfl rfl ?_
  all_goals rfl
 ·rw [if_neg hw] at hFi
  unfold Ro.av at hC1 hC2 hFi
  repeat' (first|refine ZjR rfl (by omega) ?_|refine ZCA rfl rfl (by omega) f6 ?_|refine ZV rfl f6 g6 (ZMH _) ?_|refine ZV rfl f6 g6' (ZMH _) ?_|refine ZCA rfl rfl (by omega) f7 ?_|refine ZV rfl f7 g7 rfl ?_|refine ZV rfl f7 g7' rfl ?_|refine ZF ?_|refine ZD ?_|refine ZG rfl ?_|refine QD rfl ?_|refine Zl rfl rfl rfl rfl ?_|refine Zw rfl rfl ?_|refine ZB rfl ?_|refine ZC ?_|refine JG rfl ?_|refine JJ rfl ?_|(refine Zr rfl rfl (fun _=>?_) (fun _=>?_)<;>try (exfalso;omega))|(refine QV rfl rfl (fun _=>?_) (fun _=>?_)<;>try (exfalso;omega))|(refine Zj rfl rfl (fun _=>?_) (fun _=>?_)<;>try (exfalso;omega))|(refine Zn rfl rfl (fun _=>?_) (fun _=>?_)<;>try (exfalso;omega))|refine ZH rfl ?_|refine XQ rfl rfl ?_|refine Zq rfl rfl (by omega) ?_|refine JI rfl rfl (by omega) ?_|refine ZBQ rfl rfl (by omega) ?_|refine ZA rfl rfl rfl (hBy _) ?_|refine ZA rfl rfl rfl (hWk _) ?_|refine ZA rfl rfl rfl (hMk) ?_|refine ZA rfl rfl rfl (hPk _) ?_|refine ZA rfl rfl rfl (hPk' _) ?_|refine ZA rfl rfl rfl (hPk2 _) ?_|refine ZA rfl rfl rfl (hC1) ?_|refine ZA rfl rfl rfl (hC2) ?_|refine ZA rfl rfl rfl (hSC _) ?_|refine ZA rfl rfl rfl (hFi) ?_|refine ZA rfl rfl rfl (hIx _) ?_|refine ZI ?_|refine ZL ?_|refine ZJ ?_)
  all_goals try contradiction
  all_goals try (exfalso;omega)
  all_goals refine Ze hA (by first|exact .inl rfl|exact .inr rfl) rfl rfl rfl rfl ?_
  all_goals rfl
end Go.Q15
namespace Go.QAbs
open Go.ChangeShapes Go.WideShapes Go.RowKit Go.Deep
variable {P:Program}
def rho0:Rho:=⟨fun _ _=>⟨0,0,0⟩,fun _=>(0,[])⟩
theorem ZiG (lv ix:Nat):St.empty.get lv ix=none:=by
 unfold St.empty St.get
 split<;>simp [vis]
theorem Zkm {W:World} {b o:Nat} {v:Value} (h:W.cell? ⟨b,o,none⟩=some v):(cx .empty rho0 W 0).im b o v :=
 ⟨h,fun ⟨lv,ix,w,ver,es,hg,_⟩=>by rw [ZiG] at hg;simp at hg⟩
theorem walk_in (hm:P.follows .mixedOrders=true) {T:Tab} (hT:TabOk P T) {f:FuncId} {args:List AV} (h:∃ st',S T f args .empty=some (.bool true,st')) {W:World} {xs:List Value} (hg:KG P W (.of W)) (hx:RL (cx .empty rho0 W 0) args xs) :
 Calls P f xs.toArray W fun e W'=>e=.returned (.bool true)/\Below W.heap.size W W':=by
 obtain ⟨st',h⟩:=h
 refine (Zlp hm hT h hg (ZhP W) hx).mono fun e' W' ⟨x,_,he,g,hv⟩=>?_
 subst he
 exact ⟨by rw [J4 hv],g.rel.below.b⟩
theorem Zg0 {W:World} {b off len cap w:Nat} (es:List AV) (g:Nat->Value) (hlen:es.length=len) (hc:len<=cap) (he:∀ (i:Nat) (e:AV),es[i]?=some e->R (cx .empty rho0 W 0).pure e (g i))
 (hg:∀ i,i<len->(g i).cells.size=w/\∀ (j:Nat) (v:Value),(g i).cells[j]?=some v->W.cell? ⟨b,off+i*w+j,none⟩=some v):R (cx .empty rho0 W 0) (.lit es) (.slice (some ⟨b,off,none⟩) len cap):=by
 subst hlen
 exact .lit (w:=w) g he (fun i hi=>⟨(hg i hi).1,fun j v hv=>Zkm ((hg i hi).2 j v hv)⟩) hc
section
variable {H:Type} {enc:TypeId × Value->H}
theorem open_strs_arg {W:World} {base:Nat} {t e:TypeId} {v:Value} {d:DataW H} {ps:List MemPlace} (ht:P.underlying t=some (.slice e)) (he:P.underlying e=some .string) (hc:P.cellsOf e=1)
 (hval:Value.okWide P W .any base t v) (h:DataW.Trod enc P W 0 (fun _=>true) true t v d ps) :
 ∃ ss:List (List UInt8),(∀ s∈ss,s.length<=maxLen)/\ss.length<=maxLen/\R (cx .empty rho0 W 0) (.lit (ss.map .str)) v:=by
 obtain ⟨a0,len,cap,rfl⟩:=okWide_slice ht hval;obtain ⟨fuel,hf⟩:=h
 rcases open_strings ht he hc hf with ⟨hcs,hx⟩|⟨a,len',cap',ss,hcs,_,hl,hm,hz,hx,hcell,hsz⟩
 ·refine ⟨[],by simp,by simp,?_⟩
  have:(Value.slice a0 len cap)=.slice none 0 0:=by simpa [Value.cells] using hcs
  rw [this];exact .lit0 _ _
 ·have hv:(Value.slice a0 len cap)=.slice (some a) len' cap':=by simpa [Value.cells] using hcs
  rw [hv];simp only [if_true] at hz
  refine ⟨(ss.take len').map (fun s=>s.data.toList),?_,?_,?_⟩
  ·intro s hs
   obtain ⟨s',hs',rfl⟩:=List.mem_map.1 hs;rw [Array.length_toList];exact hsz s' (List.mem_of_mem_take hs')
  ·rw [List.length_map,List.length_take];omega
  ·cases len' with
   | zero=>exact .lit0 _ _
   | succ n =>
    obtain ⟨b,off,spot⟩:=a
    have hspot:spot=none:=by simpa [Addr.add] using World.cell?_spot (hcell 0 (by omega))
    subst hspot
    refine Zg0 (w:=1) _ (fun i=>.string (ss.getD i ByteArray.empty)) (by simp;omega) hl (fun i e he=>?_) (fun i hi=>⟨rfl,fun j v hv=>?_⟩)
    ·rw [jG,jG,List.getElem?_take] at he
     by_cases hi:i<n+1
     ·rw [if_pos hi] at he
      have hs:ss[i]?=some (ss.getD i ByteArray.empty):=by
       have:i<ss.length:=by omega
       simp [List.getD,this]
      rw [hs] at he;simp only [Option.map_some,oJ] at he;subst he;rw [str_eq (ss.getD i ByteArray.empty)];exact .str _
     ·rw [if_neg hi] at he;simp at he
    ·have hj : j = 0 := by
      have:j<(Value.string (ss.getD i ByteArray.empty)).cells.size:=(Array.getElem?_eq_some_iff.1 hv).1
      simp [Value.cells] at this;omega
     subst hj
     have hv':Value.string (ss.getD i ByteArray.empty)=v:=by simpa [Value.cells] using hv
     rw [<- hv']
     have:=hcell i (by omega)
     simpa [Addr.add_lit] using this
theorem open_ops_arg {W:World} {base:Nat} {t e t0 t1 t2 t3 t4:TypeId} {f0 f1 f2 f3 f4:Field} {v:Value} {d:DataW H} {ps:List MemPlace} (ht:P.underlying t=some (.slice e)) (he:P.underlying e=some (.struct #[f0,f1,f2,f3,f4])) (hc:P.cellsOf e=5)
 (hf0:f0.type=t0/\f0.offset=0/\P.underlying t0=some (.int .u8)/\P.cellsOf t0=1) (hf1:f1.type=t1/\f1.offset=1/\P.underlying t1=some (.int .i64)/\P.cellsOf t1=1) (hf2:f2.type=t2/\f2.offset=2/\P.underlying t2=some (.int .i64)/\P.cellsOf t2=1)
 (hf3:f3.type=t3/\f3.offset=3/\P.underlying t3=some (.int .i64)/\P.cellsOf t3=1) (hf4:f4.type=t4/\f4.offset=4/\P.underlying t4=some .string/\P.cellsOf t4=1) (hval:Value.okWide P W .any base t v) (h:DataW.Trod enc P W 0 (fun _=>true) true t v d ps) :
 ∃ l:List (Nat × Int × Int × Int × List UInt8),(∀ s∈l,s.2.2.2.2.length<=maxLen)/\l.length<=maxLen/\R (cx .empty rho0 W 0) (.lit (l.map fun q=>.agg [.int .u8 q.1,.int .i64 q.2.1,.int .i64 q.2.2.1,.int .i64 q.2.2.2.1,.str q.2.2.2.2])) v:=by
 obtain ⟨a0,len,cap,rfl⟩:=okWide_slice ht hval;obtain ⟨fuel,hf⟩:=h
 rcases open_slice ht hf with ⟨hcs,hx⟩|⟨a,len',cap',m,n,D,Pl,hcs,_,hl,hm,hmm,hx,hall⟩
 ·refine ⟨[],by simp,by simp,?_⟩
  have:(Value.slice a0 len cap)=.slice none 0 0:=by simpa [Value.cells] using hcs
  rw [this];exact .lit0 _ _
 ·have hv:(Value.slice a0 len cap)=.slice (some a) len' cap':=by simpa [Value.cells] using hcs
  rw [hv];simp only [if_true] at hmm;subst hmm;rw [hc] at hall
  have each:∀ i,i<len'->∃ q:Nat × Int × Int × Int × List UInt8,q.2.2.2.2.length<=maxLen/\W.cell? (a.add (i*5))=some (.int .u8 q.1)/\W.cell? (a.add (i*5+1))=some (.int .i64 q.2.1)/\W.cell? (a.add (i*5+2))=some (.int .i64 q.2.2.1)/\W.cell? (a.add (i*5+3))=some (.int .i64 q.2.2.2.1)/\W.cell? (a.add (i*5+4))=some (.string ⟨q.2.2.2.2.toArray⟩):=by
   intro i hi
   obtain ⟨cs',h1,h2⟩:=hall i (by omega)
   obtain ⟨_,hlen,hcell⟩:=World.cells?_some h1;obtain ⟨xs,k,_,_,_,hxl,hfs⟩:=DataW.trod_struct he h2;have g0:=hfs 0 f0 rfl;have g1:=hfs 1 f1 rfl;have g2:=hfs 2 f2 rfl;have g3:=hfs 3 f3 rfl;have g4:=hfs 4 f4 rfl
   match cs',hlen,xs,hxl with
   | [c0,c1,c2,c3,c4],_,[y0,y1,y2,y3,y4],_ =>
    simp only [hf0.1,hf0.2.1,hf0.2.2.2,hf1.1,hf1.2.1,hf1.2.2.2,hf2.1,hf2.2.1,hf2.2.2.2,hf3.1,hf3.2.1,hf3.2.2.2,hf4.1,hf4.2.1,hf4.2.2.2,List.drop,List.take,List.getElem?_cons_zero,List.getElem?_cons_succ] at g0 g1 g2 g3 g4;obtain ⟨n0,e0,_,w0⟩:=DataW.trod_int hf0.2.2.1 g0;obtain ⟨n1,e1,_,_⟩:=DataW.trod_int hf1.2.2.1 g1;obtain ⟨n2,e2,_,_⟩:=DataW.trod_int hf2.2.2.1 g2;obtain ⟨n3,e3,_,_⟩:=DataW.trod_int hf3.2.2.1 g3;obtain ⟨s,e4,_,hs⟩:=DataW.trod_string hf4.2.2.1 g4;simp only [List.cons.injEq,and_true] at e0 e1 e2 e3 e4;subst e0;subst e1;subst e2;subst e3;subst e4
    have hn0:0<=n0:=by
     simp only [Lit.wf,Bool.and_eq_true,decide_eq_true_eq] at w0;exact w0.1
    refine ⟨(n0.toNat,n1,n2,n3,s.data.toList),by simp only [Array.length_toList];exact hs,?_,?_,?_,?_,?_⟩
    ·have:=hcell 0 (by omega)
     simp only [add_add,Nat.add_zero,List.getElem?_cons_zero] at this;rw [this];simp only [Int.toNat_of_nonneg hn0]
    ·have:=hcell 1 (by omega)
     simpa only [add_add,List.getElem?_cons_succ,List.getElem?_cons_zero] using this
    ·have:=hcell 2 (by omega)
     simpa only [add_add,List.getElem?_cons_succ,List.getElem?_cons_zero] using this
    ·have:=hcell 3 (by omega)
     simpa only [add_add,List.getElem?_cons_succ,List.getElem?_cons_zero] using this
    ·have:=hcell 4 (by omega)
     simp only [add_add,List.getElem?_cons_succ,List.getElem?_cons_zero] at this;rw [this,str_eq s]
  obtain ⟨q,hq⟩:=choose_lt each
  refine ⟨(List.range len').map q,?_,by simp;omega,?_⟩
  ·intro s hs
   obtain ⟨i,hi,rfl⟩:=List.mem_map.1 hs;exact (hq i (List.mem_range.1 hi)).1
  ·cases len' with
   | zero=>exact .lit0 _ _
   | succ len' =>
    obtain ⟨b,off,spot⟩:=a
    have hspot:spot=none:=by simpa [Addr.add] using World.cell?_spot (hq 0 (by omega)).2.1
    subst hspot
    refine Zg0 (w:=5) _ (fun i=>.agg #[.int .u8 (q i).1,.int .i64 (q i).2.1,.int .i64 (q i).2.2.1,.int .i64 (q i).2.2.2.1,.string ⟨(q i).2.2.2.2.toArray⟩]) (by simp) hl (fun i e he=>?_) (fun i hi=>⟨by simp [Value.cells],fun j v hv=>?_⟩)
    ·rw [jG,jG] at he
     by_cases hi:i<len'+1
     ·rw [List.getElem?_range hi] at he
      simp only [Option.map_some,oJ] at he;subst he;have hr:=RL.cons (C:=(cx .empty rho0 W 0).pure) (.int .u8 ((q i).1:Int)) (.cons (.int .i64 (q i).2.1) (.cons (.int .i64 (q i).2.2.1) (.cons (.int .i64 (q i).2.2.2.1) (.cons (.str (q i).2.2.2.2) (.nil _)))));exact .agg (xs:=[_,_,_,_,_]) hr.1 hr.2
     ·have:(List.range (len'+1))[i]?=none:=by simp;omega
      rw [this] at he;simp at he
    ·obtain ⟨_,k0,k1,k2,k3,k4⟩:=hq i hi
     have hj:j<5:=by
      have:=(Array.getElem?_eq_some_iff.1 hv).1
      simpa [Value.cells] using this
     simp only [Addr.add_lit] at k0 k1 k2 k3 k4
     match j,hj with
     | 0,_ =>
      have:v=.int .u8 (q i).1:=by simpa [Value.cells] using hv.symm
      subst this;simpa using k0
     | 1,_ =>
      have:v=.int .i64 (q i).2.1:=by simpa [Value.cells] using hv.symm
      subst this;simpa [Nat.add_assoc] using k1
     | 2,_ =>
      have:v=.int .i64 (q i).2.2.1:=by simpa [Value.cells] using hv.symm
      subst this;simpa [Nat.add_assoc] using k2
     | 3,_ =>
      have:v=.int .i64 (q i).2.2.2.1:=by simpa [Value.cells] using hv.symm
      subst this;simpa [Nat.add_assoc] using k3
     | 4,_ =>
      have:v=.string ⟨(q i).2.2.2.2.toArray⟩:=by simpa [Value.cells] using hv.symm
      subst this;simpa [Nat.add_assoc] using k4
end
end Go.QAbs
namespace Go.Proofs
open Go.Shelf
def Tryz.lays156_ren:Go.Shelf.Ren:=⟨fun|156=>21|165=>79|166=>80|169=>81|240=>147|241=>148|276=>209|277=>210|n=>n,fun|31=>22|9=>9|3=>3|4=>4|0=>0|20=>20|72=>134|76=>138|70=>131|37=>132|75=>137|127=>238|164=>296|5=>5|80=>140|n=>n,fun|n=>n⟩
theorem Tryz.lays156:Go.Proofs.Lays.n156 Tryz.prog Tryz.lays156_ren:={
 mixed:=by kernel_rfl
 f156:=Tryz.func21.trans (congrArg some (by kernel_rfl))
 f165:=Tryz.func79.trans (congrArg some (by kernel_rfl))
 f166:=Tryz.func80.trans (congrArg some (by kernel_rfl))
 f169:=Tryz.func81.trans (congrArg some (by kernel_rfl))
 f240:=Tryz.func147.trans (congrArg some (by kernel_rfl))
 f241:=Tryz.func148.trans (congrArg some (by kernel_rfl))
 f276:=Tryz.func209.trans (congrArg some (by kernel_rfl))
 f277:=Tryz.func210.trans (congrArg some (by kernel_rfl))
 t0:=Tryz.underlying0
 a0:=Tryz.isAgg0
 z0:=Tryz.sizeOf0
 v0:=Tryz.zeroValue0
 t3:=Tryz.underlying3
 a3:=Tryz.isAgg3
 z3:=Tryz.sizeOf3
 v3:=Tryz.zeroValue3
 t4:=Tryz.underlying4
 a4:=Tryz.isAgg4
 z4:=Tryz.sizeOf4
 v4:=Tryz.zeroValue4
 t9:=Tryz.underlying9
 a9:=Tryz.isAgg9
 z9:=Tryz.sizeOf9
 v9:=Tryz.zeroValue9
 t20:=Tryz.underlying20
 a20:=Tryz.isAgg20
 z20:=Tryz.sizeOf20
 v20:=Tryz.zeroValue20
 t31:=Tryz.underlying22
 a31:=Tryz.isAgg22
 z31:=Tryz.sizeOf22
 v31:=Tryz.zeroValue22
 t37:=Tryz.underlying132
 a37:=Tryz.isAgg132
 z37:=Tryz.sizeOf132
 v37:=Tryz.zeroValue132
 t70:=Tryz.underlying131
 a70:=Tryz.isAgg131
 z70:=Tryz.sizeOf131
 v70:=Tryz.zeroValue131
 t72:=Tryz.underlying134
 a72:=Tryz.isAgg134
 z72:=Tryz.sizeOf134
 v72:=Tryz.zeroValue134
 t75:=Tryz.underlying137
 a75:=Tryz.isAgg137
 z75:=Tryz.sizeOf137
 v75:=Tryz.zeroValue137
 t76:=Tryz.underlying138
 a76:=Tryz.isAgg138
 z76:=Tryz.sizeOf138
 v76:=Tryz.zeroValue138
 t127:=Tryz.underlying238
 a127:=Tryz.isAgg238
 z127:=Tryz.sizeOf238
 v127:=Tryz.zeroValue238
 t164:=Tryz.underlying296
 a164:=Tryz.isAgg296
 z164:=Tryz.sizeOf296
 v164:=Tryz.zeroValue296 }
theorem Tryz.Builder_Extra_156:Builder.Extra Tryz.prog Tryz.lays156_ren:={
 sizeBuilder:=by kernel_rfl
 liesBuilder:=by kernel_rfl
 t5:=Tryz.underlying5
 a5:=Tryz.isAgg5
 z5:=Tryz.sizeOf5
 v5:=Tryz.zeroValue5
 infoByte:=by kernel_rfl
 cellsByte:=by kernel_rfl
 sizeByte:=by kernel_rfl
 neB5:=by decide }
open Go.RowKit in
theorem Tryz.strings_Join_none (a:Option Addr) (c:Nat) (sep:ByteArray) (w:World) :
 Calls Tryz.prog 21 #[.slice a 0 c,.string sep] w fun e w'=>e=.returned (.string ⟨#[]⟩)/\w'=w:=Any.strings_Join_none Tryz.lays156 Tryz.Builder_Extra_156 a c sep w
open Go.RowKit in
theorem Tryz.strings_Join (bk o c:Nat) (xs:List ByteArray) (sep:ByteArray) (w:World) (hcells:∀ (j:Nat) x,xs[j]?=some x->w.cell? ⟨bk,o+j,none⟩=some (.string x)) (hbk:bk<w.heap.size) (hN:xs.length<=140737488355328) (hcap:xs.length<=c) (hlen:(Lib.join (xs.map (·.data.toList)) sep.data.toList).length<=140737488355328) :
 Calls Tryz.prog 21 #[.slice (some ⟨bk,o,none⟩) xs.length c,.string sep] w fun e w'=>e=.returned (.string ⟨(Lib.join (xs.map (·.data.toList)) sep.data.toList).toArray⟩)/\Below w.heap.size w w':=Any.strings_Join Tryz.lays156 Tryz.Builder_Extra_156 bk o c xs sep w hcells hbk hN hcap hlen
end Go.Proofs
namespace Go.Q15
open Go Go.QAbs
set_option maxRecDepth 100000
open Go.Shelf in
def Zkn:Ren:=⟨fun|41=>179|n=>n,fun|22=>185|23=>191|n=>n,fun n=>n⟩
theorem Zko:Go.Proofs.SlLaysE0.n41 Proofs.Tryz.prog Zkn:={
 mixed:=by kernel_rfl
 f41 := ⟨"slices.Clone[[]quarto/api.Kid,quarto/api.Kid]", by decide, Proofs.Tryz.func179.trans (congrArg some (by kernel_rfl))⟩
 t4:=Proofs.Tryz.underlying4
 a4:=Proofs.Tryz.isAgg4
 z4:=Proofs.Tryz.sizeOf4
 v4:=Proofs.Tryz.zeroValue4
 t22:=Proofs.Tryz.underlying185
 a22:=Proofs.Tryz.isAgg185
 z22:=Proofs.Tryz.sizeOf185
 v22:=Proofs.Tryz.zeroValue185 }
theorem Zkp:∃ i z,Proofs.Tryz.prog.info? 191=some i/\i.zero=some z/\i.size=4/\i.bytes=32/\z.cells.size=4:=⟨_,_,rfl,rfl,rfl,rfl,rfl⟩
theorem Zf3:ZJu Proofs.Tryz.prog Z3 (.base (ZIO 4)):=by
 obtain ⟨i,z,h1,h2,h3,h4,h5⟩:=Zkp
 refine ZjQ (T:=191) (fun n c W=>Go.Proofs.AnyE.slices_Clone_nil Zko n c W) fun ad n c news W hl hn hc ho=>?_
 exact ZhT Zko i z 4 32 h1 h2 h3 h4 h5 (by decide) Proofs.Tryz.sizeOf191 ad n c news W hl (by unfold maxLen;omega) (by omega) hc ho
theorem Zcd:Proofs.Tryz.prog.follows .mixedOrders=true:=by kernel_rfl
theorem Zkq:ZJv Proofs.Tryz.prog tl:=⟨⟨Proofs.Tryz.call179,Zf3⟩,⟨Proofs.Tryz.call21,Zlw Proofs.Tryz.strings_Join_none Proofs.Tryz.strings_Join⟩,Zl9⟩
theorem ZnG:TabOk Proofs.Tryz.prog Tb:=ZS6 Zkq
def mkEd (q:Nat × Int × Int × Int × List UInt8):Ed:=⟨q.1,q.2.1,q.2.2.1,q.2.2.2.1,q.2.2.2.2⟩
end Go.Q15
namespace Go.Proofs
open Go.Shelf
def Tryz.lays213_ren:Go.Shelf.Ren:=⟨fun|213=>83|265=>150|n=>n,fun|9=>9|3=>3|n=>n,fun|n=>n⟩
theorem Tryz.lays213:Go.Proofs.Lays.n213 Tryz.prog Tryz.lays213_ren:={
 mixed:=by kernel_rfl
 f213:=Tryz.func83.trans (congrArg some (by kernel_rfl))
 f265:=Tryz.func150.trans (congrArg some (by kernel_rfl))
 t3:=Tryz.underlying3
 a3:=Tryz.isAgg3
 z3:=Tryz.sizeOf3
 v3:=Tryz.zeroValue3
 t9:=Tryz.underlying9
 a9:=Tryz.isAgg9
 z9:=Tryz.sizeOf9
 v9:=Tryz.zeroValue9 }
open Go.RowKit in
theorem Tryz.bytealg_CompareString (a b:ByteArray) (w:World) :
 Calls Tryz.prog 83 #[.string a,.string b] w fun e w'=>e=.returned (.int .i64 (Lib.compareBytes a.data.toList b.data.toList))/\w'=w:=Any.bytealg_CompareString Tryz.lays213 a b w
def Tryz.lays219_ren:Go.Shelf.Ren:=⟨fun|219=>84|217=>151|225=>152|224=>153|267=>154|266=>211|314=>212|n=>n,fun|9=>9|3=>3|4=>4|5=>5|46=>234|146=>300|51=>299|n=>n,fun|1=>0|n=>n⟩
theorem Tryz.lays219:Go.Proofs.Lays.n219 Tryz.prog Tryz.lays219_ren:={
 mixed:=by kernel_rfl
 f217:=Tryz.func151.trans (congrArg some (by kernel_rfl))
 f219:=Tryz.func84.trans (congrArg some (by kernel_rfl))
 f224:=Tryz.func153.trans (congrArg some (by kernel_rfl))
 f225:=Tryz.func152.trans (congrArg some (by kernel_rfl))
 f266:=Tryz.func211.trans (congrArg some (by kernel_rfl))
 f267:=Tryz.func154.trans (congrArg some (by kernel_rfl))
 f314:=Tryz.func212.trans (congrArg some (by kernel_rfl))
 t3:=Tryz.underlying3
 a3:=Tryz.isAgg3
 z3:=Tryz.sizeOf3
 v3:=Tryz.zeroValue3
 t4:=Tryz.underlying4
 a4:=Tryz.isAgg4
 z4:=Tryz.sizeOf4
 v4:=Tryz.zeroValue4
 t5:=Tryz.underlying5
 a5:=Tryz.isAgg5
 z5:=Tryz.sizeOf5
 v5:=Tryz.zeroValue5
 t9:=Tryz.underlying9
 a9:=Tryz.isAgg9
 z9:=Tryz.sizeOf9
 v9:=Tryz.zeroValue9
 t46:=Tryz.underlying234
 a46:=Tryz.isAgg234
 z46:=Tryz.sizeOf234
 v46:=Tryz.zeroValue234
 t51:=Tryz.underlying299
 a51:=Tryz.isAgg299
 z51:=Tryz.sizeOf299
 v51:=Tryz.zeroValue299
 t146:=Tryz.underlying300
 a146:=Tryz.isAgg300
 z146:=Tryz.sizeOf300
 v146:=Tryz.zeroValue300
 g1:=by kernel_rfl }
open Go.RowKit Go.Lib in
open Go.RowKit Go.Lib in
theorem Tryz.stringslite_Index (s sub:ByteArray) (m:Int) (w:World) (hs:s.size<4294967281) (hm:w.cell? ⟨0,0,none⟩=some (.int .i64 m)) :
 Calls Tryz.prog 84 #[.string s,.string sub] w fun e w'=>e=.returned (.int .i64 (Lib.index s.data.toList sub.data.toList))/\w'=w:=Any.stringslite_Index Tryz.lays219 s sub m w hs hm
end Go.Proofs
namespace Go.Q15
open Go Go.QAbs
set_option maxRecDepth 100000
theorem Zkr:ZJv Proofs.Tryz.prog t1:=⟨⟨Proofs.Tryz.call85,ZgR Zcd ZnG Proofs.Tryz.func85 Za9⟩,Zkq⟩
theorem ZnH:TabOk Proofs.Tryz.prog T1:=ZS6 Zkr
theorem Zn4:ZJv Proofs.Tryz.prog t3:=⟨⟨Proofs.Tryz.call89,ZgR Zcd ZnH Proofs.Tryz.func89 ZXj⟩,⟨Proofs.Tryz.call27,ZgR Zcd ZnH Proofs.Tryz.func27 Zax⟩,Zkr⟩
theorem max0 : Proofs.Tryz.prog.globalNamed "internal/bytealg.MaxLen" = some 0 := by kernel_rfl
theorem Zn5:ZJv Proofs.Tryz.prog tS:=⟨⟨Proofs.Tryz.call19,ZgR Zcd ZnG Proofs.Tryz.func19 ZTL⟩,⟨Proofs.Tryz.call84,Zka max0 Proofs.Tryz.stringslite_Index⟩,Zn4⟩
theorem Zn6:ZJv Proofs.Tryz.prog tO:=⟨⟨Proofs.Tryz.call83,Znw Proofs.Tryz.bytealg_CompareString⟩,Zn5⟩
theorem TO_ok:TabOk Proofs.Tryz.prog TO:=ZS6 Zn6
end Go.Q15
namespace Go.QAbs
open Go.ChangeShapes Go.WideShapes Go.RowKit Go.Deep
variable {P:Program}
end Go.QAbs
namespace Go.Q15
open Go Go.QAbs
set_option maxRecDepth 100000
theorem sliceOrder_run (ss:List (List UInt8)) (l:List (Nat × Int × Int × Int × List UInt8)) (x y:Int) (sub:List UInt8) (fr:Int) (h1:∀ s∈ss,s.length<=maxLen) (h2:ss.length<=maxLen) (h3:∀ s∈l,s.2.2.2.2.length<=maxLen) (h4:l.length<=maxLen) (_h5:(Lit.int .i64 x).wf=true) (_h6:(Lit.int .i64 y).wf=true) (h7:sub.length<=maxLen) (_h8:(Lit.int .i64 fr).wf=true) :
 ∃ st',S TO Jt [.lit (ss.map .str),.lit (l.map fun q=>.agg [.int .u8 q.1,.int .i64 q.2.1,.int .i64 q.2.2.1,.int .i64 q.2.2.2.1,.str q.2.2.2.2]),.int .i64 x,.int .i64 y,.str sub,.int .i64 fr] .empty=some (.bool true,st'):=by
 have hm:maxLen<9223372036854775808:=by decide +kernel
 have:=Zcc ss (l.map mkEd) x y sub fr (by omega) (fun s hs=>by have:=h1 s hs;omega) (by rw [List.length_map];omega) (fun s hs=>by obtain ⟨q,hq,rfl⟩:=List.mem_map.1 hs;have:=h3 q hq;simp only [mkEd];omega) (by omega) .empty
 rw [List.map_map] at this;exact ⟨_,this⟩
end Go.Q15
