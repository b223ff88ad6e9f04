/- A part of the proof: M1b, RB, W6, M42, M17, RC, RD, RE, RF, RG, RH, RI, RJ, RK, M52, RL, S4, S5, S6, YX, W7, RN, RO, W8, RP, SA, RS, RQ, RT, RU, RV, M18, PO, RW, M40, RX, W9, SB, SC, RY, RZ, SD, SE, SF, SG, SI, SJ, SK, SL, SN, SO, SPa, SSa, SSb, SSc, PDa. No condition. -/
import Derived.Test.YtbmllhocajbcfaaGreatPdT7
set_option linter.unusedVariables false
set_option linter.unusedSimpArgs false
namespace Go.Q15
open Go Go.QAbs
set_option maxRecDepth 100000
theorem ZlF (h:Nat) (hh:Jt h) (st:St):S Tb ZAz [.int .u64 h] st=some (.tup [.int .i64 ((h % 65536:Nat):Int),.int .i64 0],st):=by
 refine Z5 rfl (fun A hA=>?_)
 repeat' (first|refine ZE ?_|refine ZD ?_|refine ZF rfl ?_|refine Z0 rfl rfl ?_|refine ZB rfl ?_|refine ZA ?_|(refine Zp rfl rfl (fun _=>?_) (fun _=>?_)<;>try (exfalso;omega))|refine ZG rfl ?_|refine ZC rfl rfl rfl (ZLP h hh _) ?_|refine ZC rfl rfl rfl (ZVf h (by omega) _) ?_|refine ZH ?_|refine ZP ?_|refine ZO ?_)
 all_goals refine Ze hA (by simp) rfl rfl rfl rfl ?_
 all_goals rfl
theorem ZlG (h:Nat) (h64:h<18446744073709551616) (hh:¬ Jt h) (st:St):S Tb ZAz [.int .u64 h] st=some (.tup [.int .i64 0,.int .i64 2],st):=by
 refine Z5 rfl (fun A hA=>?_)
 repeat' (first|refine ZE ?_|refine ZD ?_|refine ZF rfl ?_|refine ZB rfl ?_|refine ZA ?_|(refine Zp rfl rfl (fun _=>?_) (fun _=>?_)<;>try (exfalso;omega))|refine ZU rfl ?_|refine ZC rfl rfl rfl (Zi9 h h64 hh _) ?_|refine ZP ?_|refine ZO ?_|refine ZY ?_)
 all_goals refine Ze hA (by simp) rfl rfl rfl rfl ?_
 all_goals rfl
theorem ZnB (h:Nat) (hh:Jt h) (st:St):S Tb ZFd [.int .u64 h] st=some (.tup [.int .u64 ((h / 65536:Nat):Int),.int .i64 0],st):=by
 refine Z5 rfl (fun A hA=>?_)
 repeat' (first|refine ZE ?_|refine ZD ?_|refine ZF rfl ?_|refine Z0 rfl rfl ?_|refine ZB rfl ?_|refine ZA ?_|(refine Zp rfl rfl (fun _=>?_) (fun _=>?_)<;>try (exfalso;omega))|refine ZG rfl ?_|refine ZC rfl rfl rfl (ZLP h hh _) ?_|refine ZC rfl rfl rfl (ZVf h (by omega) _) ?_|refine ZH ?_|refine ZP ?_|refine ZO ?_)
 all_goals refine Ze hA (by simp) rfl rfl rfl rfl ?_
 all_goals rfl
set_option maxHeartbeats 8000000
structure HasR (st:St) (lv b:Nat) (r:AR):Prop where
 h0:st.get lv b=some r.b0
 h1:st.get lv (b+1)=some r.b1
 h2:st.get lv (b+2)=some r.b2
 h3:st.get lv (b+3)=some (r.b3 lv b)
 h4:st.get lv (b+4)=some r.b4
 h5:st.get lv (b+5)=some (r.b5 lv b)
theorem Has.r {st:St} {lv b:Nat} {r:AR} (h:Has st lv b r):HasR st lv b r:=⟨h.h0,h.h1,h.h2,h.h3,h.h4,h.h5⟩
theorem HasR.push {st:St} {lv b:Nat} {r:AR} {A:List (Bool × List Blk)} {ro:Bool} {L:List Blk} (hA:A=st.A++[(st.ro,st.L)]) (h:HasR st lv b r):HasR ⟨A,ro,L⟩ lv b r :=
 ⟨ZV hA h.h0,ZV hA h.h1,ZV hA h.h2,ZV hA h.h3,ZV hA h.h4,ZV hA h.h5⟩
theorem HasR.rd {st:St} {lv b:Nat} {r:AR} (h:HasR st lv b r):Rd st lv (b+5) r.nodes:=⟨_,_,_,_,_,_,h.h5,h.h4⟩
end Go.Q15
namespace Go.QAbs
section
variable {O:Orc} {k:List Fr} {Q:YY} {e:Env} {A:List (Bool × List Blk)} {L:List Blk} {keep:List Nat} {is:List PI} {d:Nat} {st:St}
theorem ZY1 {w:Nat} (h:Is O is keep k Q ((d,.ptr A.length (L.length+1) 0 0 0)::e) ⟨A,false,L++[Blk.arr w 0 [],Blk.arr 1 0 [.ref A.length L.length 0 0 0]]⟩):Is O (⟨some d,none,false,.boxnil w⟩::is) keep k Q e ⟨A,false,L⟩ :=
 ZLO (by rw [List.append_assoc];exact ZLE _) h
end
end Go.QAbs
namespace Go.Q15
open Go Go.QAbs
set_option maxRecDepth 100000
set_option maxHeartbeats 8000000
namespace Tr
mutual
def cnt:Tr->Nat
 | .mk o _ _ _ k=>(if o=0 then 1 else 0)+cntO k
def cntO:Option (List Tr)->Nat
 | none=>0
 | some l=>cntL l
def cntL:List Tr->Nat
 | []=>0
 | t::l=>t.cnt+cntL l
end
theorem cntL_append:∀ a b,cntL (a++b)=cntL a+cntL b
 | [],b=>by simp [cntL]
 | t::a,b=>by rw [List.cons_append,cntL,cntL,cntL_append a b];omega
theorem cntO_getD (k:Option (List Tr)):cntO k=cntL (k.getD []):=by cases k<;>rfl
end Tr
theorem ZcF {t:Tr} {c:Int} (hk:t.ks=[]) (hK:∀ st,S Tb QY [t.av] st=some (.int .i64 c,st)) (st:St):S Tb ZCD [t.av] st=some (.int .i64 (if c=3\/c=4 then 1 else 0),st):=by
 obtain ⟨o,h,m,s,k⟩:=t
 obtain ⟨ka,hka,hka2⟩:∃ ka,Tr.avO k=ka/\(ka=.nils\/ka=.lit []):=by
  cases k with
  | none=>exact ⟨_,rfl,.inl rfl⟩
  | some l=>have:l=[]:=hk;subst this;exact ⟨_,rfl,.inr rfl⟩
 simp only [Tr.av,hka] at *
 refine Z5 rfl (fun A hA=>?_)
 rcases hka2 with rfl|rfl
 all_goals repeat' (first|refine ZE ?_|refine ZD ?_|refine ZF rfl ?_|refine ZJ rfl rfl ?_|refine ZS rfl rfl rfl rfl ?_|refine Z4 rfl ?_|refine JH rfl rfl ?_|refine Zk rfl rfl rfl rfl ?_|refine ZB rfl ?_|refine ZA ?_|refine J2 rfl rfl ?_|refine JC rfl ?_|(refine Zd rfl rfl (fun _=>?_) (fun _=>?_)<;>try (exfalso;omega))|(refine Zq rfl rfl (fun _=>?_) (fun _=>?_)<;>try (exfalso;omega))|refine ZU rfl ?_|refine ZG rfl ?_|refine Zh rfl rfl rfl ?_|refine ZC rfl rfl rfl (hK _) ?_|refine Qe ?_|refine ZH ?_|refine ZP ?_|refine Zn ?_|refine ZI ?_|refine ZO ?_|refine Za ?_|refine ZX rfl ?_)
 all_goals refine Ze hA (by simp) rfl rfl rfl rfl ?_
 all_goals simp [*]
theorem ZnC {l:List Tr} {t:Tr} (h:t∈l):t.cnt<=Tr.cntL l:=by
 induction l with
 | nil=>simp at h
 | cons u l ih =>
  rw [Tr.cntL]
  rcases List.mem_cons.1 h with rfl|h
  ·omega
  ·have:=ih h;omega
theorem ZQV (l:List Tr) (i:Nat):Tr.cntL (l.take i)<=Tr.cntL l:=by
 have h:Tr.cntL l=Tr.cntL (l.take i)+Tr.cntL (l.drop i):=by rw [<- Tr.cntL_append,List.take_append_drop]
 omega
theorem Zot {N:ZQ} {t:Tr} (hv:Val N t):t.cnt<4294967296->∀ st,S Tb ZCD [t.av] st=some (.int .i64 t.cnt,st):=by
 induction hv with
 | @kept o h m k x h0 hx hok hh hm hk =>
  intro hc st
  have:=ZcF (t:=.mk o h m [] k) hk (fun st=>ZLQ (.mk o h m [] k) ⟨h0,rfl,hk⟩ st) st
  rw [this]
  have e:(Tr.mk o h m [] k).cnt=0:=by rw [Tr.cnt,Tr.cntO_getD,hk,if_neg h0];rfl
  rw [e];rfl
 | @leaf s k h1 h2 hk =>
  intro hc st
  have:=ZcF (t:=.mk 0 0 .zero s k) hk (fun st=>ZLR (.mk 0 0 .zero s k) ⟨rfl,rfl,rfl,h1,h2,hk⟩ st) st
  rw [this]
  have e:(Tr.mk 0 0 .zero s k).cnt=1:=by rw [Tr.cnt,Tr.cntO_getD,hk,if_pos rfl];rfl
  rw [e];rfl
 | @inner h l hh h2 h4 hl hb hv ih =>
  intro hc st
  have hK:=fun st=>ZHA (.mk 0 (h+1) .zero [] (some l)) ⟨rfl,rfl,rfl,Nat.succ_le_succ (Nat.zero_le _),hh,h2,h4⟩ st
  have e:(Tr.mk 0 (h+1) .zero [] (some l)).cnt=1+Tr.cntL l:=by rw [Tr.cnt,if_pos rfl];rfl
  rw [e] at hc ⊢;simp only [Tr.av,Tr.avO,Tr.avL_map,Mea.zero] at hK ⊢
  refine Z5 rfl (fun A hA=>?_)
  repeat' (first|refine ZE ?_|refine ZD ?_|refine ZF rfl ?_|refine ZJ rfl rfl ?_|refine ZS rfl rfl rfl rfl ?_|refine Z4 rfl ?_|refine Zk rfl rfl rfl rfl ?_|refine ZB rfl ?_|refine ZA ?_|refine QH rfl ?_|(refine Zq rfl rfl (fun _=>?_) (fun _=>?_)<;>try (exfalso;omega))|refine ZU rfl ?_|refine Zh rfl rfl rfl ?_|refine ZC rfl rfl rfl (hK _) ?_|refine ZI ?_)
  all_goals try contradiction
  refine Zr (α:=Nat × List Blk) (fun p=>[(3,.int .i64 ((1+Tr.cntL (l.take p.1):Nat):Int)),(16,.lit (l.map Tr.av)),(17,.int .i64 l.length),(18,.int .i64 p.1)])
   (fun p=>⟨A,false,.arr 7 0 [.agg [.int .u64 (0:Nat),.int .i64 ((h+1:Nat):Int),.int .i64 0,.int .i64 0,.int .i64 0,.str [],.lit (l.map Tr.av)]]::p.2⟩) (fun p=>p.1<=l.length) (fun p=>l.length-p.1) (0,[]) ?_ rfl (by simp) ?_
  ·simp [Tr.cntL]
  rintro ⟨i,G⟩ hi
  simp only at hi ⊢
  have h6:=ZQV l i;have h7:=ZQV l (i+1)
  repeat' (first|refine ZE ?_|refine ZD ?_|refine ZF rfl ?_|refine ZB rfl ?_|refine ZA ?_|(refine Zd rfl rfl (fun _=>?_) (fun _=>?_)<;>try (exfalso;omega))|refine ZU rfl ?_|refine ZG rfl ?_|refine Zy rfl rfl rfl ?_|refine Qc rfl rfl (by omega) Zv (fun _ _=>?_)|refine QD rfl (Zl _) ?_|refine Qf rfl rfl (Zl _) ?_|refine J7 rfl rfl rfl (QC _ _ _) (QT _ _) rfl ?_|refine ZH ?_|refine ZP ?_|refine Zn ?_|refine ZI ?_|refine ZO ?_|refine Za ?_|refine ZX rfl ?_|refine Zf ?_)
  ·rename_i t ht
   have ht2:l[i]?=some t:=ht;have hm:=jM ht2
   have h5:=ih t hm (by have:=ZnC hm;omega)
   rw [Zm ht2,Tr.cntL_append,Tr.cntL,Tr.cntL] at h7
   repeat' (first|refine ZD ?_|refine ZF rfl ?_|refine ZB rfl ?_|refine ZA ?_|refine Zb rfl rfl (by omega) ?_|refine ZC rfl rfl (by first|rfl|(simp only [List.nil_append,List.append_nil,List.cons_append,Zg,ZW,ZZ];first|done|rfl)) (h5 _) ?_|refine Zt ?_|refine Zw ?_)
   refine ⟨(i+1,G++[.arr 7 0 [t.av]]),⟨?_,rfl⟩,by simp only;omega,by simp only;omega⟩
   simp only [Zm ht2,Tr.cntL_append,Tr.cntL]
   rw [show ((1+Tr.cntL (l.take i):Nat):Int)+(t.cnt:Int)=((1+(Tr.cntL (l.take i)+(t.cnt+0)):Nat):Int) by omega]
   rfl
  ·have hi':i=l.length:=by omega
   subst hi';rw [List.take_length]
   refine Ze hA (by simp) rfl rfl rfl rfl ?_
   rfl
theorem ZjS:GoodN []:=fun o x h=>by simp [lk] at h
def exS:List UInt8:=[97,98,99,100,101,102,103,104,105,106,107,108,109,110,111,112,113]
theorem ZlH:ZAX exS=.mk 0 1 .zero [] (some [Qu [97,98,99,100,101,102,103,104,105],Qu [106,107,108,109,110,111,112,113]]):=by
 rfl
theorem ZcG (st:St):S Tb YC [] st=some (.bool true,st):=by
 have hB:=fun st=>ZeH ZjS exS (by decide) st
 rw [ZlH] at hB
 have hv:Val [] (.mk 0 1 .zero [] (some [Qu [97,98,99,100,101,102,103,104,105],Qu [106,107,108,109,110,111,112,113]])):=by
  refine .inner (by decide) (by decide) (by decide) ?_ ?_ ?_
  all_goals intro t ht
  all_goals simp only [List.mem_cons,List.not_mem_nil,or_false] at ht
  all_goals rcases ht with rfl|rfl
  ·rfl
  ·rfl
  ·intro _;rw [XF];decide
  ·intro _;rw [XF];decide
  ·exact ZFA ⟨by decide,by decide⟩
  ·exact ZFA ⟨by decide,by decide⟩
 have hC:=fun st=>Zot hv (by decide) st
 rw [show (Tr.mk 0 1 .zero [] (some [Qu [97,98,99,100,101,102,103,104,105],Qu [106,107,108,109,110,111,112,113]])).cnt=3 from rfl] at hC
 simp only [Tr.av,Tr.avO,Tr.avL,Qu,Mea.zero,exS] at hB hC
 refine Z5 rfl (fun A hA=>?_)
 repeat' (first|refine ZE ?_|refine ZD ?_|refine ZF rfl ?_|refine ZJ rfl rfl ?_|refine ZS rfl rfl rfl rfl ?_|refine Z4 rfl ?_|refine Zk rfl rfl rfl rfl ?_|refine Z0 rfl rfl ?_|refine ZB rfl ?_|refine ZA ?_|refine J2 rfl rfl ?_|refine QD rfl rfl ?_|refine Zcs rfl rfl (by first|omega|decide|(simp only [List.length_cons,List.length_nil];omega)) rfl rfl ?_|(refine Zq rfl rfl (fun _=>?_) (fun _=>?_)<;>try (exfalso;omega))|(refine Yu rfl rfl (fun _=>?_) (fun _=>?_)<;>try contradiction)|refine Zh rfl rfl rfl ?_|refine Zu rfl rfl rfl rfl rfl rfl ?_|refine ZC rfl rfl rfl (hB _) ?_|refine ZC rfl rfl rfl (hC _) ?_|refine ZP ?_|refine ZO ?_)
 refine Ze hA (by simp) rfl rfl rfl rfl ?_
 rfl
end Go.Q15
namespace Go.Q15
open Go Go.QAbs
set_option maxRecDepth 100000
set_option maxHeartbeats 8000000
theorem ZY2 (s:List UInt8):QAbs.allBytes (QS s)=some s:=by
 induction s with
 | nil=>rfl
 | cons x s ih =>
  show ((QAbs.byteOf (AV.int .u8 x.toNat)).bind fun b=>(QAbs.allBytes (QS s)).map (b::·))=_
  rw [ih]
  simp [QAbs.byteOf]
theorem ZY3 {b lv i1 i2 i3:Nat} {f:FuncId} (st:St) (h:lv<b):Zi QU b st (.func (.func f) [] [.ptr lv i1 0 0 0,.ptr lv i2 0 0 0,.ptr lv i3 0 0 0])=some (.func (.func f) [] [.ptr lv i1 0 0 0,.ptr lv i2 0 0 0,.ptr lv i3 0 0 0],st):=by
 simp only [Zi,QU,ZiZ,if_true,mapSt,Option.bind_some,if_pos h,XW]
theorem Zhd {A:List (Bool × List Blk)} {b0 b1 b2 b3 b4:Blk} {v:Nat} {t:List UInt8}:Qx ⟨A,false,[b0,b1,b2,b3,b4]⟩ A.length 3 2 v t=⟨A,false,[b0,b1,.arr 1 v (QS t),.arr 1 0 [.ref A.length 2 v 0 t.length],b4]⟩:=by
 simp [Qx,St.upd]
theorem ZoK {N:ZQ} (hN:GoodN N) {st:St} {lv ix:Nat} (hr:Rd st lv ix N) {t:Tr} (ht:VE N t) (hb:t.bytes<=65536):S Tb ZI8 [.ptr lv ix 0 0 0,t.av] st=some (.tup [.str (t.txt N),.int .i64 0],st):=by
 refine Z5 rfl (fun A hA=>?_)
 have hlv:lv<A.length:=by
  obtain ⟨a0,a1,im,a3,a4,a5,h1,h2⟩:=hr
  have:=St.get_le h1
  rw [hA];simp;omega
 have hrp:=fun L=>hr.push hA (ro:=false) (L:=L)
 have hC:=fun L=>ZFB (hrp L) ht hb
 rcases ht with he|hv
 ·rw [he.txt]
  have hK:=fun st=>ZG9 t he st
  repeat' (first|refine ZE ?_|refine ZD ?_|refine ZF rfl ?_|refine ZS rfl rfl rfl rfl ?_|refine ZB rfl ?_|refine ZA ?_|(refine Zq rfl rfl (fun _=>?_) (fun _=>?_)<;>try (exfalso;omega))|(refine Zp rfl rfl (fun _=>?_) (fun _=>?_)<;>try (exfalso;omega))|refine ZU rfl ?_|refine ZG rfl ?_|refine ZI6 rfl rfl ?_|refine Zh rfl rfl rfl ?_|refine ZLO rfl ?_|refine Qf rfl rfl (Zl _) ?_|refine ZS rfl rfl rfl (Zl _) ?_|refine Zy rfl (Zv _) (QB _) ?_|refine ZC rfl rfl (by first|rfl|(simp only [List.nil_append,List.append_nil,List.cons_append,Zg,ZW,ZZ];first|done|rfl)) (hC _) ?_|refine ZC rfl rfl (by first|rfl|(simp only [List.nil_append,List.append_nil,List.cons_append,Zg,ZW,ZZ];first|done|rfl)) (hK _) ?_|refine Zu rfl rfl rfl (ZY3 _ (Nat.lt_succ_self _)) rfl rfl ?_|refine ZH ?_|refine ZP ?_|refine ZO ?_|refine ZY ?_)
  all_goals try (exfalso;omega)
  all_goals refine Ze hA (by simp) rfl rfl rfl rfl ?_
  all_goals rfl
 ·obtain ⟨k,hk1,hK⟩:=hv.kindNe
  repeat' (first|refine ZE ?_|refine ZD ?_|refine ZF rfl ?_|refine ZS rfl rfl rfl rfl ?_|refine ZB rfl ?_|refine ZA ?_|(refine Zq rfl rfl (fun _=>?_) (fun _=>?_)<;>try (exfalso;omega))|(refine Zp rfl rfl (fun _=>?_) (fun _=>?_)<;>try (exfalso;omega))|refine ZG rfl ?_|refine ZI6 rfl rfl ?_|refine Zh rfl rfl rfl ?_|refine ZLO rfl ?_|refine Qf rfl rfl (Zl _) ?_|refine ZS rfl rfl rfl (Zl _) ?_|refine Zy rfl (Zv _) (QB _) ?_|refine ZC rfl rfl (by first|rfl|(simp only [List.nil_append,List.append_nil,List.cons_append,Zg,ZW,ZZ];first|done|rfl)) (hC _) ?_|refine ZC rfl rfl (by first|rfl|(simp only [List.nil_append,List.append_nil,List.cons_append,Zg,ZW,ZZ];first|done|rfl)) (hK _) ?_|refine Zu rfl rfl rfl (ZY3 _ (Nat.lt_succ_self _)) rfl rfl ?_|refine ZH ?_)
  all_goals try (exfalso;omega)
  have hwa:∀ L,L=[.arr 1 0 [.ptr lv ix 0 0 0],.arr 7 0 [t.av],.arr 1 0 [],.arr 1 0 [.ref A.length 2 0 0 0],.arr 1 0 [.func (.func Yj) [] [.ptr A.length 0 0 0 0,.ptr A.length 3 0 0 0,.ptr A.length 4 0 0 0]]] ->
   Sp Tb Yj [t.av,.ptr A.length 0 0 0 0,.ptr A.length 3 0 0 0,.ptr A.length 4 0 0 0] ⟨A,false,L⟩ fun v st'=>v=.int .i64 0/\∃ ver',st'=Qx ⟨A,false,L⟩ A.length 3 2 ver' ([]++t.txt N):=by
   rintro L rfl
   refine ZoH hN t.h t hv rfl hb (pl:=lv) (px:=ix) (ver:=0) ⟨hrp _,by omega,by rw [St.get_cur];rfl,by rw [St.get_cur];rfl,⟨by decide,by decide⟩,⟨by decide,by decide⟩⟩ ⟨by simp [St.wr],by rw [St.get_cur];rfl,by rw [St.get_cur];rfl,by decide⟩ (by simp;omega)
  refine ZVd rfl rfl (wk4 _ _ _ _ rfl rfl rfl) (hwa _ rfl) ?_
  rintro v st' ⟨rfl,v2,rfl⟩
  rw [List.nil_append,Zhd]
  repeat' (first|refine ZE ?_|refine ZD ?_|refine ZF rfl ?_|refine ZS rfl rfl rfl rfl ?_|refine ZB rfl ?_|refine ZA ?_|(refine Zp rfl rfl (fun _=>?_) (fun _=>?_)<;>try (exfalso;omega))|refine ZG rfl ?_|refine ZH ?_)
  refine ZoB rfl (v:=.str (t.txt N)) ?_ ?_
  ·have hl:=ZLA (t.txt N)
   show (ZEM v2 0 (t.txt N).length (St.get _ A.length 2)).bind _=_
   rw [St.get_cur]
   show (ZEM v2 0 (t.txt N).length (some (Blk.arr 1 v2 (QS (t.txt N))))).bind _=_
   simp only [ZEM,true_and,hl,Nat.zero_add,Nat.le_refl,if_true,List.drop_zero,Option.bind_some]
   rw [List.take_of_length_le (by omega),ZY2];rfl
  repeat' (first|refine ZF rfl ?_|refine ZB rfl ?_|refine ZA ?_|refine ZP ?_|refine ZO ?_)
  refine Ze hA (by simp) rfl rfl rfl rfl ?_
  rfl
theorem ZDK {L T:List Blk} {i:Nat} {b:Blk} (h:L[i]?=some b):(L++T)[i]?=some b:=by
 rw [jL (List.getElem?_eq_some_iff.1 h).1];exact h
namespace Tr
end Tr
end Go.Q15
namespace Go.Q15
open Go Go.QAbs
set_option maxRecDepth 100000
set_option maxHeartbeats 8000000
theorem AROk.hnd {r:AR} (h:AROk r) {o:Nat} {x:Nd} (hx:lk r.nodes o=some x):Jt o/\o≠0:=by
 obtain ⟨s,g,h1,h2,h3,h4⟩:=h.key o x hx;obtain ⟨g',g1,g2,g3⟩:=h.gen s h2;rw [h4] at g1;simp only [Option.some.injEq] at g1
 have:=h.n16
 have:=h.most
 unfold Jt;omega
namespace Tr
end Tr
end Go.Q15
namespace Go.Q15
open Go Go.QAbs
set_option maxRecDepth 100000
set_option maxHeartbeats 8000000
end Go.Q15
namespace Go.Q15
open Go Go.QAbs
set_option maxRecDepth 100000
set_option maxHeartbeats 8000000
theorem ZjW {b lv ix:Nat} (st:St) (h:lv<b):Zi QU b st (.map lv ix)=some (.map lv ix,st):=by
 simp only [Zi,QU,if_pos h]
def YU (l:List Nat):List (AV × AV):=l.map fun (h:Nat)=>(AV.int .u64 h,AV.bool true)
theorem Zf7 (o:Nat):∀ l:List Nat,ZA1 (.int .u64 o) (YU l)=some (if o∈l then some (.bool true) else none)
 | []=>rfl
 | p::l=>by
  rw [YU,jC,ZA1]
  show (Option.bind (if IntKind.u64=IntKind.u64 then some ((o:Int) == (p:Int)) else none) fun b=>if b=true then some (some (AV.bool true)) else ZA1 (.int .u64 o) (YU l))=_
  rw [if_pos rfl,Option.bind_some,Zf7 o l]
  by_cases q:o=p
  ·subst q;simp
  ·rw [if_neg (by simp;omega)]
   simp [q]
theorem ZeP (o:Nat):∀ l:List Nat,o∉l->ZIx (.int .u64 o) (.bool true) (YU l)=some (YU (l++[o]))
 | [],_=>rfl
 | p::l,h=>by
  simp only [List.mem_cons,not_or] at h;rw [YU,jC,ZIx]
  show (Option.bind (if IntKind.u64=IntKind.u64 then some ((o:Int) == (p:Int)) else none) fun b=>if b=true then some ((AV.int .u64 o,AV.bool true)::YU l) else (ZIx (.int .u64 o) (.bool true) (YU l)).map ((AV.int .u64 p,AV.bool true)::·))=_
  rw [if_pos rfl,Option.bind_some,if_neg (by simp;omega),ZeP o l h.2]
  rfl
theorem ZQY {st:St} {lv mx:Nat} {l:List Nat} (hg:st.get lv mx=some (.map (YU l))) (o:Nat):lookV st 0 (.bool false) false (.int .u64 o) (.map lv mx)=some (.bool (decide (o∈l))):=by
 simp only [lookV,Zed,hg,ZS2,Option.bind_some,Y0,if_true,Zf7]
 by_cases q:o∈l
 ·simp [q,ZbY]
 ·simp [q,ZbY]
def QI (h:Nat):AV:=.int .u64 h
theorem ZeQ (l:List Nat):JS 1 (l.map QI)=true:=by
 induction l with
 | nil=>rfl
 | cons b s ih=>rw [jC,JS,List.all_cons];exact Bool.and_eq_true_iff.2 ⟨rfl,ih⟩
theorem ZiP (b:Nat) (st:St) (l:List Nat):mapSt (Zi QU b) st (l.map QI)=some (l.map QI,st):=by
 induction l with
 | nil=>rfl
 | cons x s ih =>
  rw [jC,mapSt]
  show ((some (QI x,st)).bind fun r=>(mapSt (Zi QU b) r.2 (s.map QI)).bind (XW r.1))=_
  rw [Option.bind_some,ih];rfl
section
variable {O:Orc} {k:List Fr} {Q:YY} {e:Env} {A:List (Bool × List Blk)} {L:List Blk} {keep:List Nat} {is:List QAbs.PI} {d:Nat}
theorem ZnJ {st:St} {s x:Opd} {lv jx ver w bytes:Nat} {es ys:List AV} (hA:A=st.A++[(st.ro,st.L)]) (hwr:st.wr lv) (hg:st.get lv jx=some (.arr w ver es)) (hs:Zo e s=some (.ref lv jx ver 0 es.length)) (hx:Zo e x=some (.lit ys))
 (hw:JS w ys=true) (hsl:mapSt (Zi QU (lv+1)) ⟨A,false,L⟩ ys=some (ys,⟨A,false,L⟩)) (hl:es.length+ys.length<4294967296) (hb:bytes<=4096)
 (h:∀ A',A'=(st.upd lv jx (.arr w (ver+1) (es++ys))).A++[((st.upd lv jx (.arr w (ver+1) (es++ys))).ro,(st.upd lv jx (.arr w (ver+1) (es++ys))).L)]->Is O is keep k Q ((d,.ref lv jx (ver+1) 0 (es.length+ys.length))::e) ⟨A',false,L⟩) :
 Is O (⟨some d,none,false,.app w bytes s x⟩::is) keep k Q e ⟨A,false,L⟩:=by
 have hlv:=St.get_le hg;refine QA (v:=.ref lv jx (ver+1) 0 (es.length+ys.length)) (st':=St.upd ⟨A,false,L⟩ lv jx (.arr w (ver+1) (es++ys))) ?_ ?_
 ·have hg':=ZV hA (ro:=false) (L:=L) hg
  have hw':=XI hA hlv hwr (ro:=false) (L:=L)
  simp only [Zs,evalPO,ZL hs,ZL hx,elems,Option.bind_some,Q1,hw,if_true,hsl,ZZJ,hg',ZLe,true_and,if_pos (show 0+es.length<=es.length/\es.length+ys.length<4294967296/\bytes<=4096 by omega),List.drop_zero]
  rw [List.take_of_length_le (by omega),St.put_upd hw' hg']
  rfl
 ·rw [Jp hA hlv]
  exact h _ rfl
end
namespace Tr
mutual
def kwT:Tr->List Nat->List Nat
 | .mk o _ _ _ k,out=>kwO k (if o≠0/\o∉out then out++[o] else out)
def kwO:Option (List Tr)->List Nat->List Nat
 | none,out=>out
 | some l,out=>kwL l out
def kwL:List Tr->List Nat->List Nat
 | [],out=>out
 | t::l,out=>kwL l (kwT t out)
end
mutual
def siz:Tr->Nat
 | .mk _ _ _ _ k=>1+sizO k
def sizO:Option (List Tr)->Nat
 | none=>0
 | some l=>sizL l
def sizL:List Tr->Nat
 | []=>0
 | t::l=>siz t+sizL l
end
theorem kwL_append:∀ (a b:List Tr) (out:List Nat),kwL (a++b) out=kwL b (kwL a out)
 | [],b,out=>rfl
 | t::a,b,out=>by rw [List.cons_append,kwL,kwL,kwL_append a b]
theorem sizL_append:∀ a b,sizL (a++b)=sizL a+sizL b
 | [],b=>by simp [sizL]
 | t::a,b=>by rw [List.cons_append,sizL,sizL,sizL_append a b];omega
theorem kwO_getD (k:Option (List Tr)) (out:List Nat):kwO k out=kwL (k.getD []) out:=by cases k<;>rfl
theorem sizO_getD (k:Option (List Tr)):sizO k=sizL (k.getD []):=by cases k<;>rfl
theorem kwT_len (t:Tr):∀ out,(kwT t out).length<=out.length+t.siz:=by
 induction t using Tr.ind with
 | step o h m s k ih =>
  intro out;rw [kwT,siz,kwO_getD,sizO_getD]
  have key:∀ (l:List Tr),(∀ t∈l,∀ out,(kwT t out).length<=out.length+t.siz)->∀ out,(kwL l out).length<=out.length+sizL l:=by
   intro l
   induction l with
   | nil=>intro _ out;simp [kwL,sizL]
   | cons a l ih2 =>
    intro hl out;rw [kwL,sizL]
    have h1:=ih2 (fun t ht=>hl t (by simp [ht])) (kwT a out)
    have h2:=hl a (by simp) out
    omega
  have:=key (k.getD []) ih (if o≠0/\o∉out then out++[o] else out)
  split at this
  ·rename_i q;rw [if_pos q];rw [List.length_append,List.length_singleton] at this;omega
  ·rename_i q;rw [if_neg q];omega
theorem kwL_len:∀ (l:List Tr) (out:List Nat),(kwL l out).length<=out.length+sizL l
 | [],out=>by simp [kwL,sizL]
 | t::l,out=>by
  rw [kwL,sizL];have h1:=kwL_len l (kwT t out);have h2:=kwT_len t out;omega
end Tr
structure KS (st:St) (lv mb mx ob ox wb ver:Nat) (out:List Nat):Prop where
 wr:st.wr lv
 hm:st.get lv mb=some (.arr 1 0 [.map lv mx])
 hmx:st.get lv mx=some (.map (YU out))
 ho:st.get lv ob=some (.arr 1 0 [.ref lv ox ver 0 out.length])
 hox:st.get lv ox=some (.arr 1 ver (out.map QI))
 hw:st.get lv wb=some (.arr 1 0 [.func (.func Yi) [] [.ptr lv mb 0 0 0,.ptr lv ob 0 0 0,.ptr lv wb 0 0 0]])
 n1:mx≠ox
 n2:mx≠ob
 n3:ox≠ob
 n4:mb≠mx/\mb≠ox/\mb≠ob
 n5:wb≠mx/\wb≠ox/\wb≠ob
def JZ (st:St) (lv mx ob ox ver:Nat) (out:List Nat):St:=((st.upd lv mx (.map (YU out))).upd lv ox (.arr 1 ver (out.map QI))).upd lv ob (.arr 1 0 [.ref lv ox ver 0 out.length])
theorem KS.get {st:St} {lv mb mx ob ox wb ver:Nat} {out:List Nat} (h:KS st lv mb mx ob ox wb ver out) (v:Nat) (t:List Nat) (l' i':Nat) :
 (JZ st lv mx ob ox v t).get l' i'=if l'=lv/\i'=ob then some (.arr 1 0 [.ref lv ox v 0 t.length]) else if l'=lv/\i'=ox then some (.arr 1 v (t.map QI)) else if l'=lv/\i'=mx then some (.map (YU t)) else st.get l' i':=by
 have g1:∀ l' i',(st.upd lv mx (.map (YU t))).get l' i'=if l'=lv/\i'=mx then some (.map (YU t)) else st.get l' i':=fun l' i'=>St.get_upd h.hmx rfl
 have b1:(st.upd lv mx (.map (YU t))).get lv ox=some (.arr 1 ver (out.map QI)):=by rw [g1,if_neg (fun q=>h.n1 q.2.symm)];exact h.hox
 have g2:∀ l' i',((st.upd lv mx (.map (YU t))).upd lv ox (.arr 1 v (t.map QI))).get l' i'=if l'=lv/\i'=ox then some (.arr 1 v (t.map QI)) else (st.upd lv mx (.map (YU t))).get l' i':=fun l' i'=>St.get_upd b1 rfl
 have b2:((st.upd lv mx (.map (YU t))).upd lv ox (.arr 1 v (t.map QI))).get lv ob=some (.arr 1 0 [.ref lv ox ver 0 out.length]):=by rw [g2,if_neg (fun q=>h.n3 q.2.symm),g1,if_neg (fun q=>h.n2 q.2.symm)];exact h.ho
 rw [JZ,St.get_upd b2 rfl,g2,g1]
theorem KS.put {st:St} {lv mb mx ob ox wb ver:Nat} {out:List Nat} (h:KS st lv mb mx ob ox wb ver out) (v:Nat) (t:List Nat):KS (JZ st lv mx ob ox v t) lv mb mx ob ox wb v t:=by
 refine ⟨St.wr_upd (St.wr_upd (St.wr_upd h.wr h.wr) (St.wr_upd h.wr h.wr)) (St.wr_upd (St.wr_upd h.wr h.wr) (St.wr_upd h.wr h.wr)),?_,?_,?_,?_,?_,h.n1,h.n2,h.n3,h.n4,h.n5⟩
 ·rw [h.get,if_neg (fun q=>h.n4.2.2 q.2),if_neg (fun q=>h.n4.2.1 q.2),if_neg (fun q=>h.n4.1 q.2)];exact h.hm
 ·rw [h.get,if_neg (fun q=>h.n2 q.2),if_neg (fun q=>h.n1 q.2),if_pos ⟨rfl,rfl⟩]
 ·rw [h.get,if_pos ⟨rfl,rfl⟩]
 ·rw [h.get,if_neg (fun q=>h.n3 q.2),if_pos ⟨rfl,rfl⟩]
 ·rw [h.get,if_neg (fun q=>h.n5.2.2 q.2),if_neg (fun q=>h.n5.2.1 q.2),if_neg (fun q=>h.n5.1 q.2)];exact h.hw
theorem KS.same {st:St} {lv mb mx ob ox wb ver:Nat} {out:List Nat} (h:KS st lv mb mx ob ox wb ver out):JZ st lv mx ob ox ver out=st:=by
 rw [JZ,upd_same h.hmx,upd_same h.hox,upd_same h.ho]
theorem ZjX {st:St} {lv mx ob ox v1 v2:Nat} {s t:List Nat} (h1:mx≠ox) (h2:mx≠ob) (h3:ox≠ob):JZ (JZ st lv mx ob ox v1 s) lv mx ob ox v2 t=JZ st lv mx ob ox v2 t:=by
 unfold JZ;generalize Blk.map (YU s)=a1;generalize Blk.map (YU t)=a2;generalize Blk.arr 1 v1 (s.map QI)=b1;generalize Blk.arr 1 v2 (t.map QI)=b2;generalize Blk.arr 1 0 [AV.ref lv ox v1 0 s.length]=c1;generalize Blk.arr 1 0 [AV.ref lv ox v2 0 t.length]=c2
 rw [ZQR (st:=(st.upd lv mx a1).upd lv ox b1) (fun q=>h2 q.symm),ZQR (st:=st.upd lv mx a1) (fun q=>h1 q.symm),ZQQ,ZQR (st:=(st.upd lv mx a2).upd lv ox b1) (fun q=>h3 q.symm),ZQQ,ZQQ]
theorem Zhh {st:St} {A:List (Bool × List Blk)} {ro:Bool} {L:List Blk} (hA:A=st.A++[(st.ro,st.L)]) {lv mx ob ox ver:Nat} {t:List Nat} (hl:lv<=st.A.length) :
 JZ ⟨A,ro,L⟩ lv mx ob ox ver t=⟨(JZ st lv mx ob ox ver t).A++[((JZ st lv mx ob ox ver t).ro,(JZ st lv mx ob ox ver t).L)],ro,L⟩:=by
 unfold JZ;rw [Jp hA hl]
 have e2:=fun (b:Blk)=>Jp (st:=st.upd lv mx (.map (YU t))) (A:=(st.upd lv mx (.map (YU t))).A++[((st.upd lv mx (.map (YU t))).ro,(st.upd lv mx (.map (YU t))).L)]) (ro:=ro) (L:=L) (lv:=lv) (ix:=ox) (b:=b) rfl (by rw [St.upd_A];exact hl)
 rw [e2]
 exact Jp rfl (by rw [St.upd_A,St.upd_A];exact hl)
theorem KS.push {st:St} {A:List (Bool × List Blk)} {ro:Bool} {L:List Blk} (hA:A=st.A++[(st.ro,st.L)]) {lv mb mx ob ox wb ver:Nat} {out:List Nat} (h:KS st lv mb mx ob ox wb ver out):KS ⟨A,ro,L⟩ lv mb mx ob ox wb ver out :=
 ⟨XI hA (St.get_le h.hm) h.wr,ZV hA h.hm,ZV hA h.hmx,ZV hA h.ho,ZV hA h.hox,ZV hA h.hw,h.n1,h.n2,h.n3,h.n4,h.n5⟩
theorem ZnK (st:St) (lv mx ob ox ver:Nat) (out:List Nat):(JZ st lv mx ob ox ver out).A.length=st.A.length:=by
 unfold JZ;rw [St.upd_A,St.upd_A,St.upd_A]
theorem ZnL (t:Tr):t.Pos->∀ {st:St} {lv mb mx ob ox wb ver:Nat} {out:List Nat},KS st lv mb mx ob ox wb ver out->out.length+t.siz<4294967296 ->
 Sp Tb Yi [t.av,.ptr lv mb 0 0 0,.ptr lv ob 0 0 0,.ptr lv wb 0 0 0] st fun v st'=>v=.tup []/\∃ ver',st'=JZ st lv mx ob ox ver' (t.kwT out):=by
 induction t using Tr.ind with
 | step o h m s k ih =>
  intro hp st lv mb mx ob ox wb ver out hs hl
  cases hp with
  | mk h0 h4 hk2 =>
  have e1:(Tr.mk o h m s k).kwT out=Tr.kwL (k.getD []) (if o≠0/\o∉out then out++[o] else out):=by rw [Tr.kwT,Tr.kwO_getD]
  have e2:(Tr.mk o h m s k).siz=1+Tr.sizL (k.getD []):=by rw [Tr.siz,Tr.sizO_getD]
  rw [e1];rw [e2] at hl;refine ZiD rfl ?_;obtain ⟨A,hA⟩:∃ A,A=st.A++[(st.ro,st.L)]:=⟨_,rfl⟩;rw [<- hA];have hlv:=St.get_le hs.hm
  have hav:(Tr.mk o h m s k).av=.agg [.int .u64 o,.int .i64 h,.int .i64 m.b,.int .i64 m.r,.int .i64 m.l,.str s,slV Tr.av k]:=by rw [Tr.av,Tr.avO_sl]
  -- the loop over the children
  have key:∀ (ver1:Nat) (out1:List Nat) (A1:List (Bool × List Blk)),A1=(JZ st lv mx ob ox ver1 out1).A++[((JZ st lv mx ob ox ver1 out1).ro,(JZ st lv mx ob ox ver1 out1).L)]->out1.length<=out.length+1->∀ e:Env,e=[(3,.ptr lv wb 0 0 0),(4,.ptr A.length 0 0 0 0)]\/e=[(1,.ptr lv mb 0 0 0),(2,.ptr lv ob 0 0 0),(3,.ptr lv wb 0 0 0),(4,.ptr A.length 0 0 0 0),(16,.bool false)] ->
   Ru (S Tb) (.seq ZHQ (.block 0 (.loop ZBJ))) [] (fun x e st''=>∃ v st',Jv false ([]:List RV) (x,e,st'')=some (v,st')/\v=.tup []/\∃ ver',st'=JZ st lv mx ob ox ver' (Tr.kwL (k.getD []) out1)) e ⟨A1,false,[.arr 7 0 [(Tr.mk o h m s k).av]]⟩:=by
   intro ver1 out1 A1 hA1 hl1 e he
   have hAl:A.length=A1.length:=by rw [hA,hA1];simp [ZnK]
   rw [hAl] at he;rw [hav]
   cases k with
   | none =>
    simp only [slV]
    rcases he with rfl|rfl
    all_goals repeat' (first|refine ZE ?_|refine ZD ?_|refine ZF rfl ?_|refine ZJ rfl rfl ?_|refine ZS rfl rfl rfl rfl ?_|refine ZB rfl ?_|refine ZA ?_|refine JC rfl ?_|(refine Zd rfl rfl (fun _=>?_) (fun _=>?_)<;>try (exfalso;omega))|refine ZG rfl ?_|refine Qe ?_|refine Zn ?_|refine ZI ?_|refine ZO ?_|refine Za ?_|refine ZX rfl ?_)
    all_goals try (exfalso;omega)
    all_goals exact ⟨_,_,Ze hA1 (.inl rfl) rfl rfl rfl rfl rfl,rfl,ver1,rfl⟩
   | some l =>
    simp only [Option.getD] at h4 hk2 ih hl ⊢;simp only [slV]
    have hloop:Ru (S Tb) (.loop ZBJ) [.blk 0] (fun x e st''=>∃ v st',Jv false ([]:List RV) (x,e,st'')=some (v,st')/\v=.tup []/\∃ ver',st'=JZ st lv mx ob ox ver' (Tr.kwL l out1)) [(3,.ptr lv wb 0 0 0),(26,.lit (l.map Tr.av)),(27,.int .i64 l.length),(28,.int .i64 0)] ⟨A1,false,[.arr 7 0 [.agg [.int .u64 o,.int .i64 h,.int .i64 m.b,.int .i64 m.r,.int .i64 m.l,.str s,.lit (l.map Tr.av)]]]⟩:=by
     refine Zr (α:=Nat × List Blk × Nat) (fun p=>[(3,.ptr lv wb 0 0 0),(26,.lit (l.map Tr.av)),(27,.int .i64 l.length),(28,.int .i64 p.1)])
      (fun p=>⟨(JZ st lv mx ob ox p.2.2 (Tr.kwL (l.take p.1) out1)).A++[((JZ st lv mx ob ox p.2.2 (Tr.kwL (l.take p.1) out1)).ro,(JZ st lv mx ob ox p.2.2 (Tr.kwL (l.take p.1) out1)).L)],false,.arr 7 0 [.agg [.int .u64 o,.int .i64 h,.int .i64 m.b,.int .i64 m.r,.int .i64 m.l,.str s,.lit (l.map Tr.av)]]::p.2.1⟩)
      (fun p=>p.1<=l.length) (fun p=>l.length-p.1) (0,[],ver1) rfl ?_ (by simp) ?_
     ·simp only [List.take_zero,Tr.kwL,<- hA1]
     rintro ⟨i,G,ver2⟩ hi
     simp only at hi ⊢
     have hk3:=hs.put ver2 (Tr.kwL (l.take i) out1)
     have hpp:∀ v3 t3,JZ (JZ st lv mx ob ox ver2 (Tr.kwL (l.take i) out1)) lv mx ob ox v3 t3=JZ st lv mx ob ox v3 t3:=fun v3 t3=>ZjX hs.n1 hs.n2 hs.n3
     generalize hs1:JZ st lv mx ob ox ver2 (Tr.kwL (l.take i) out1)=st1 at *
     obtain ⟨A2,hA2⟩:∃ A2,A2=st1.A++[(st1.ro,st1.L)]:=⟨_,rfl⟩;rw [<- hA2]
     have hgw:=fun L=>ZV hA2 (ro:=false) (L:=L) hk3.hw
     repeat' (first|refine ZE ?_|refine ZD ?_|refine ZB rfl ?_|refine ZA ?_|(refine Zd rfl rfl (fun _=>?_) (fun _=>?_)<;>try (exfalso;omega))|refine ZU rfl ?_|refine ZG rfl ?_|refine Zy rfl rfl rfl ?_|refine Qc rfl rfl (by omega) Zv (fun _ _=>?_)|refine QD rfl (Zl _) ?_|refine J7 rfl rfl rfl (QC _ _ _) (QT _ _) rfl ?_|refine ZH ?_|refine Zn ?_|refine ZI ?_|refine ZO ?_|refine Za ?_|refine ZX rfl ?_|refine Zf ?_)
     ·rename_i u hu
      have hu2:l[i]?=some u:=hu;have hum:=jM hu2;have hle:lv<=st1.A.length:=St.get_le hk3.hm
      have hsum:Tr.sizL l=Tr.sizL (l.take i)+(u.siz+Tr.sizL (l.drop (i+1))):=by
       conv=>lhs;rw [<- List.take_append_drop (i+1) l,Zm hu2,Tr.sizL_append,Tr.sizL_append]
       simp [Tr.sizL];omega
      have hlen:=Tr.kwL_len (l.take i) out1
      have ihu:=fun L=>ih u hum (hk2 u hum) (hk3.push hA2 (ro:=false) (L:=L)) (by omega)
      have hkw:Tr.kwL (l.take (i+1)) out1=u.kwT (Tr.kwL (l.take i) out1):=by
       rw [Zm hu2,Tr.kwL_append];rfl
      refine Z8 rfl (hgw _) rfl rfl ?_
      repeat' (refine Qf rfl rfl (Zl _) ?_)
      refine ZVd rfl rfl (wk4 _ _ _ _ rfl rfl rfl) (ihu _) ?_
      rintro v st' ⟨rfl,v3,rfl⟩
      rw [Zhh hA2 hle,hpp,<- hkw]
      repeat' (first|refine ZD ?_|refine ZF rfl ?_|refine ZB rfl ?_|refine ZA ?_|refine Zb rfl rfl (by omega) ?_|refine Zt ?_|refine Zw ?_)
      exact ⟨(i+1,_,v3),⟨rfl,rfl⟩,by simp only;omega,by simp only;omega⟩
     ·have hi':i=l.length:=by omega
      subst hi'
      rw [List.take_length] at *
      exact ⟨_,_,Ze hA2 (.inl rfl) rfl rfl rfl rfl rfl,rfl,ver2,hs1.symm⟩
    rcases he with rfl|rfl
    all_goals repeat' (first|exact hloop|refine ZE ?_|refine ZD ?_|refine ZF rfl ?_|refine ZJ rfl rfl ?_|refine ZS rfl rfl rfl rfl ?_|refine ZB rfl ?_|refine ZA ?_|refine QH rfl ?_|refine ZI ?_)
  have hg1:=fun L=>ZV hA (ro:=false) (L:=L) hs.hm
  have hg2:=fun L=>ZV hA (ro:=false) (L:=L) hs.hmx
  have hlk:=fun L=>ZQY (hg2 L) o
  have hkey0:=key ver out A (by rw [hs.same];exact hA) (by omega) _ (.inr rfl)
  have hwide:=Zv (Tr.mk o h m s k);have hforce:=QB (Tr.mk o h m s k);rw [hav] at hwide hforce
  by_cases ho:o=0
  ·subst ho
   rw [if_neg (by simp)]
   rw [hav] at hkey0 ⊢
   repeat' (first|refine Zy rfl hwide hforce ?_|exact hkey0|refine ZE ?_|refine ZD ?_|refine ZF rfl ?_|refine ZJ rfl rfl ?_|refine ZS rfl rfl rfl rfl ?_|refine JH rfl rfl ?_|refine Zk rfl rfl rfl rfl ?_|refine ZB rfl ?_|refine ZA ?_|(refine Zp rfl rfl (fun _=>?_) (fun _=>?_)<;>try (exfalso;omega))|refine ZG rfl ?_|refine ZH ?_)
   all_goals contradiction
  ·by_cases hm:o∈out
   ·rw [if_neg (by simp [hm])]
    rw [hav] at hkey0 ⊢;rw [decide_eq_true hm] at hlk
    repeat' (first|refine Zy rfl hwide hforce ?_|exact hkey0|refine ZE ?_|refine ZD ?_|refine ZF rfl ?_|refine ZJ rfl rfl ?_|refine ZS rfl rfl rfl rfl ?_|refine Z4 rfl ?_|refine Zk rfl rfl rfl rfl ?_|refine ZB rfl ?_|refine ZA ?_|(refine Zp rfl rfl (fun _=>?_) (fun _=>?_)<;>try (exfalso;omega))|refine ZG rfl ?_|refine Qs rfl rfl ?_|refine Z8 rfl (hg1 _) rfl rfl ?_|refine ZBd rfl rfl (hlk _) ?_|refine ZH ?_)
    all_goals contradiction
   ·rw [if_pos ⟨ho,hm⟩]
    have hkey:=key (ver+1) (out++[o]);rw [hav] at hkey ⊢;rw [decide_eq_false hm] at hlk
    repeat' (first|refine Zy rfl hwide hforce ?_|refine ZE ?_|refine ZD ?_|refine ZF rfl ?_|refine ZJ rfl rfl ?_|refine ZS rfl rfl rfl rfl ?_|refine Z4 rfl ?_|refine Zk rfl rfl rfl rfl ?_|refine ZB rfl ?_|refine ZA ?_|(refine Zp rfl rfl (fun _=>?_) (fun _=>?_)<;>try (exfalso;omega))|refine ZU rfl ?_|refine Qs rfl rfl ?_|refine Z8 rfl (hg1 _) rfl rfl ?_|refine ZBd rfl rfl (hlk _) ?_)
    all_goals try contradiction
    refine Zfy hA rfl rfl rfl hs.wr hs.hmx rfl (ZeP o out hm) (fun A' hA'=>?_)
    have q1:∀ l' i',(st.upd lv mx (.map (YU (out++[o])))).get l' i'=if l'=lv/\i'=mx then some (.map (YU (out++[o]))) else st.get l' i':=fun l' i'=>St.get_upd hs.hmx rfl
    have ka:(st.upd lv mx (.map (YU (out++[o])))).get lv ob=some (.arr 1 0 [.ref lv ox ver 0 out.length]):=by rw [q1,if_neg (fun q=>hs.n2 q.2.symm)];exact hs.ho
    have kb:(st.upd lv mx (.map (YU (out++[o])))).get lv ox=some (.arr 1 ver (out.map QI)):=by rw [q1,if_neg (fun q=>hs.n1 q.2.symm)];exact hs.hox
    have hw1:=St.wr_upd (b:=.map (YU (out++[o]))) (ix:=mx) hs.wr hs.wr
    have hAl:A.length=A'.length:=by rw [hA,hA'];simp [St.upd_A]
    rw [hAl] at hkey ⊢
    have hput:JZ st lv mx ob ox (ver+1) (out++[o])=((st.upd lv mx (.map (YU (out++[o])))).upd lv ox (.arr 1 (ver+1) (out.map QI++[.int .u64 o]))).upd lv ob (.arr 1 0 [.ref lv ox (ver+1) 0 (out.length+1)]):=by
     unfold JZ;rw [List.map_append,List.length_append];rfl
    rw [hput] at hkey;clear hput q1
    generalize st.upd lv mx (.map (YU (out++[o])))=st1 at *
    have hg3:=fun L=>ZV hA' (ro:=false) (L:=L) ka
    repeat' (first|refine ZD ?_|refine ZJ rfl rfl ?_|refine ZS rfl rfl rfl rfl ?_|refine ZB rfl ?_|refine ZA ?_|refine QR rfl rfl rfl rfl ?_|refine Z8 rfl (hg3 _) rfl rfl ?_)
    refine ZnJ hA' hw1 kb (by rw [List.length_map];rfl) rfl rfl rfl (by simp;omega) (by decide) (fun A2 hA2=>?_)
    have q2:∀ l' i',(st1.upd lv ox (.arr 1 (ver+1) (out.map QI++[.int .u64 o]))).get l' i'=if l'=lv/\i'=ox then some (.arr 1 (ver+1) (out.map QI++[.int .u64 o])) else st1.get l' i':=fun l' i'=>St.get_upd kb rfl
    have kc:(st1.upd lv ox (.arr 1 (ver+1) (out.map QI++[.int .u64 o]))).get lv ob=some (.arr 1 0 [.ref lv ox ver 0 out.length]):=by rw [q2,if_neg (fun q=>hs.n3 q.2.symm)];exact ka
    have hw2:=St.wr_upd (b:=.arr 1 (ver+1) (out.map QI++[.int .u64 o])) (ix:=ox) hw1 hw1
    have hAl2:A'.length=A2.length:=by rw [hA',hA2];simp [St.upd_A]
    rw [hAl2] at hkey ⊢
    generalize st1.upd lv ox (.arr 1 (ver+1) (out.map QI++[.int .u64 o]))=st2 at *
    refine ZD7 hA2 rfl rfl hw2 kc rfl (QX _ (Nat.lt_succ_self _)) rfl (fun A3 hA3=>?_)
    have hAl3:A2.length=A3.length:=by rw [hA2,hA3];simp [St.upd_A]
    rw [hAl3] at hkey ⊢
    have hk:=hkey A3 (by rw [hA3];simp) (by simp) _ (.inl rfl)
    repeat' (first|exact hk|refine ZB rfl ?_|refine ZA ?_)
theorem ZlK {t:Tr} (hp:t.Pos) (hsz:t.siz<4294967296) (st:St):S Tb ZDl [t.av] st=some (.lit ((t.kwT []).map QI),st):=by
 refine Z5 rfl (fun A hA=>?_)
 have hW:∀ L,L=[.arr 7 0 [t.av],.arr 1 0 [],.arr 1 0 [.ref A.length 1 0 0 0],.map [],.arr 1 0 [.map A.length 3],.arr 1 0 [.func (.func Yi) [] [.ptr A.length 4 0 0 0,.ptr A.length 2 0 0 0,.ptr A.length 5 0 0 0]]] ->
  Sp Tb Yi [t.av,.ptr A.length 4 0 0 0,.ptr A.length 2 0 0 0,.ptr A.length 5 0 0 0] ⟨A,false,L⟩ fun v st'=>v=.tup []/\∃ ver',st'=JZ ⟨A,false,L⟩ A.length 3 2 1 ver' (t.kwT []):=by
  rintro L rfl
  refine ZnL t hp (ver:=0) (mb:=4) (mx:=3) (ob:=2) (ox:=1) (wb:=5) ⟨by simp [St.wr],by rw [St.get_cur];rfl,by rw [St.get_cur];rfl,by rw [St.get_cur];rfl,by rw [St.get_cur];rfl,by rw [St.get_cur];rfl,by decide,by decide,by decide,by decide,by decide⟩ (by simp;omega)
 repeat' (first|refine ZE ?_|refine ZD ?_|refine ZF rfl ?_|refine ZS rfl rfl rfl rfl ?_|refine ZB rfl ?_|refine ZA ?_|refine ZI6 rfl rfl ?_|refine Zh rfl rfl rfl ?_|refine ZLO rfl ?_|refine ZOp rfl ?_|refine ZS rfl rfl rfl (Zl _) ?_|refine Zy rfl (Zv _) (QB _) ?_|refine Zu rfl rfl rfl (ZjW _ (Nat.lt_succ_self _)) rfl rfl ?_|refine Zu rfl rfl rfl (ZY3 _ (Nat.lt_succ_self _)) rfl rfl ?_)
 refine ZVd rfl rfl (wk4 _ _ _ _ rfl rfl rfl) (hW _ rfl) ?_
 rintro v st' ⟨rfl,v2,rfl⟩
 have hpc:∀ b0 b1 b2 b3 b4 b5 w,JZ ⟨A,false,[b0,b1,b2,b3,b4,b5]⟩ A.length 3 2 1 v2 w=⟨A,false,[b0,.arr 1 v2 (w.map QI),.arr 1 0 [.ref A.length 1 v2 0 w.length],.map (YU w),b4,b5]⟩:=by
  intro b0 b1 b2 b3 b4 b5 w
  simp [JZ,St.upd]
 rw [hpc]
 generalize t.kwT []=w at *
 repeat' (first|refine ZE ?_|refine ZD ?_|refine ZF rfl ?_|refine ZS rfl rfl rfl rfl ?_|refine ZB rfl ?_|refine ZA ?_|refine ZP ?_|refine ZO ?_)
 refine YB (es:=w.map QI) hA (by simp) rfl rfl (by simp) (by intro v hv;obtain ⟨x,_,rfl⟩:=List.mem_map.1 hv;rfl) ?_
 rfl
end Go.Q15
namespace Go.Q15
open Go Go.QAbs
set_option maxRecDepth 100000
set_option maxHeartbeats 8000000
end Go.Q15
namespace Go.QAbs
end Go.QAbs
namespace Go.Q15
open Go Go.QAbs
set_option maxRecDepth 100000
set_option maxHeartbeats 8000000
def ZFD (N:ZQ) (o:Nat):Nd:=(lk N o).getD ⟨0,[],none⟩
theorem JD {N:ZQ} {o:Nat} {x:Nd} (h:lk N o=some x):ZFD N o=x:=by unfold ZFD;rw [h];rfl
def JB (N:ZQ):Nat->Nat->List Nat
 | 0,o=>[o]
 | n+1,o=>o::(ZFD N o).ks.flatMap fun k=>JB N n k.at_
theorem Zf8 {s:St} {l i:Nat} {b:Blk} (h:s.get l i=some b) (more:List (Bool × List Blk)) (ro:Bool) (L:List Blk):St.get ⟨s.ps++more,ro,L⟩ l i=some b:=by
 have hl:=St.get_le h;have h1:=ZV (A:=s.ps) rfl (ro:=ro) (L:=L) h;unfold St.get at h1 ⊢
 have e1:l≠s.ps.length:=by simp;omega
 have e2:l≠(s.ps++more).length:=by simp;omega
 simp only [if_neg e1,if_neg e2] at h1 ⊢
 rw [jL (by simp;omega)]
 exact h1
theorem Rd.more {s:St} {lv ix:Nat} {N:ZQ} (h:Rd s lv ix N) (more:List (Bool × List Blk)) (ro:Bool) (L:List Blk):Rd ⟨s.ps++more,ro,L⟩ lv ix N:=by
 obtain ⟨a0,a1,im,a3,a4,a5,h1,h2⟩:=h;exact ⟨a0,a1,im,a3,a4,a5,Zf8 h1 _ _ _,Zf8 h2 _ _ _⟩
theorem ZnM {N:ZQ} {h:Nat} {x:Nd} (hx:lk N h=some x) (hok:NdOk x) {n:Nat} (hh:x.h=n):JB N n h=h::x.ks.flatMap fun k=>JB N (n-1) k.at_:=by
 cases n with
 | zero =>
  have:x.ks=[]:=by
   rcases hok with q|⟨m,ks,q⟩
   ·exact q.ks
   ·have:=congrArg Nd.h q.eq;simp only at this;omega
  rw [this];rfl
 | succ n=>rw [JB,JD hx];rfl
theorem ZlL {N:ZQ} (hN:GoodN N):∀ (n h:Nat) (x:Nd),lk N h=some x->x.h=n->3*(JB N n h).length+1<=4 ^ (n+1):=by
 intro n
 induction n with
 | zero=>intro h x hx hh;simp [JB]
 | succ n ih =>
  intro h x hx hh;obtain ⟨hok,hk⟩:=hN h x hx;rw [JB,JD hx,List.length_cons]
  have h6:4 ^ (n+1+1)=4*4 ^ (n+1):=by rw [Nat.pow_succ,Nat.mul_comm]
  rw [h6];clear h6
  have hP1:1<=4 ^ (n+1):=Nat.pow_pos (by decide)
  generalize 4 ^ (n+1)=P at *
  have key:∀ l:List Kid,(∀ k∈l,k∈x.ks)->3*(l.flatMap fun k=>JB N n k.at_).length+l.length<=l.length*P:=by
   intro l
   induction l with
   | nil=>intro _;simp
   | cons k l ih2 =>
    intro hm
    obtain ⟨_,y,y1,y2,_⟩:=hk k (hm k (by simp))
    have h1:=ih k.at_ y y1 (by omega)
    have h2:=ih2 fun q hq=>hm q (by simp [hq])
    rw [List.flatMap_cons,List.length_append,List.length_cons,Nat.add_mul,Nat.one_mul];omega
  have h1:=key x.ks fun _ h=>h
  have h4:=hok.len;have h5:x.ks.length*P<=4*P:=Nat.mul_le_mul_right _ h4
  rcases hok with q|⟨m,ks,q⟩
  ·have:=q.h;omega
  ·have e:=q.eq
   have h7:=q.lo;subst e;simp only [Nd.ks,Option.getD_some] at h1 h4 h5 ⊢;have h8:(4-ks.length)*1<=(4-ks.length)*P:=Nat.mul_le_mul_left _ hP1
   have h9:ks.length*P+(4-ks.length)*P=4*P:=by rw [<- Nat.add_mul];congr 1;omega
   omega
def RtOk (N:ZQ) (r:Ro):Prop:=r=.zero\/(r.at_≠0/\∃ x,lk N r.at_=some x/\NdOk x/\x.h=r.h/\x.mea=r.m)
def XV (N:ZQ) (r:Ro):List Nat:=if r.at_=0 then [] else JB N r.h r.at_
theorem RtOk.h13 {N:ZQ} (hN:GoodN N) {r:Ro} (hr:RtOk N r):r.h<=13:=by
 rcases hr with rfl|⟨h0,x,h1,h2,h3,h4⟩
 ·decide
 ·have hv:Val N (.keep r):=.kept h0 h1 h2 h3 h4 rfl
  have hb:(Tr.keep r).bytes=r.m.b:=by simp [Tr.keep,Tr.bytes,Tr.bytesO]
  have:=h2.mea_pos
  exact hv.height hN (by rw [hb,<- h4];omega)
theorem Zhi {N:ZQ} (hN:GoodN N) {r:Ro} (hr:RtOk N r):(XV N r).length<100000000:=by
 have h13:=hr.h13 hN;unfold XV
 split
 ·simp
 ·rename_i q
  rcases hr with rfl|⟨h0,x,h1,h2,h3,h4⟩
  ·exact absurd rfl q
  ·have:=ZlL hN r.h r.at_ x h1 h3
   have h5:4 ^ (r.h+1)<=4 ^ 14:=Nat.pow_le_pow_right (by decide) (by omega)
   have h6:(4:Nat) ^ 14=268435456:=by decide
   omega
def ZBC (r:Ro):Tr:=if r.at_=0 then .zero else .keep r
theorem ZnN {st:St} {lv ix:Nat} {N:ZQ} (hr:Rd st lv ix N) {r:Ro} (h:RtOk N r):S Tb Y6 [.ptr lv ix 0 0 0,r.av] st=some (.tup [(ZBC r).av,.int .i64 0],st):=by
 unfold ZBC
 rcases h with rfl|⟨h0,x,h1,h2,h3,h4⟩
 ·rw [if_pos (by rfl)];exact Zb8
 ·rw [if_neg h0];exact Zk0 hr h1 h2 h0 h3 h4
end Go.Q15
namespace Go.QAbs
theorem ZB0 {s:St} {l i:Nat} {b:Blk} (h:s.get l i=some b) (more:List (Bool × List Blk)) (ro:Bool) (L:List Blk):St.get ⟨s.ps++more,ro,L⟩ l i=some b:=by
 have hl:=St.get_le h;have h1:=ZV (A:=s.ps) rfl (ro:=ro) (L:=L) h;unfold St.get at h1 ⊢
 have e1:l≠s.ps.length:=by simp;omega
 have e2:l≠(s.ps++more).length:=by simp;omega
 simp only [if_neg e1,if_neg e2] at h1 ⊢
 rw [jL (by simp;omega)]
 exact h1
theorem ZiR {s:St} {lv:Nat} (hl:lv<=s.A.length) (h:s.wr lv) (more:List (Bool × List Blk)) (ro:Bool) (L:List Blk):St.wr ⟨s.ps++more,ro,L⟩ lv:=by
 have h1:=XI (A:=s.ps) rfl hl h (ro:=ro) (L:=L);unfold St.wr at h1 ⊢
 have e1:lv≠s.ps.length:=by simp;omega
 have e2:lv≠(s.ps++more).length:=by simp;omega
 simp only [if_neg e1,if_neg e2] at h1 ⊢
 rw [jL (by simp;omega)]
 exact h1
theorem Zf9 {s:St} {lv ix:Nat} {b:Blk} (hl:lv<=s.A.length) (more:List (Bool × List Blk)) (ro:Bool) (L:List Blk):St.upd ⟨s.ps++more,ro,L⟩ lv ix b=⟨(s.upd lv ix b).ps++more,ro,L⟩:=by
 have h1:=Jp (A:=s.ps) (ro:=ro) (L:=L) rfl hl (ix:=ix) (b:=b);unfold St.upd at h1 ⊢
 have e1:lv≠s.ps.length:=by simp;omega
 have e2:lv≠(s.ps++more).length:=by simp;omega
 simp only [if_neg e1,if_neg e2] at h1 ⊢;simp only [St.mk.injEq,and_true] at h1 ⊢
 rw [jL (by simp;omega),List.set_append_left _ _ (by simp;omega),h1]
theorem ZcI:∀ {ks:List (Nat × Nat)} {s:St} {bs:List Blk} {more:List (Bool × List Blk)} {ro:Bool} {L:List Blk},(∀ k∈ks,k.1<=s.A.length)->Yq ⟨s.ps++more,ro,L⟩ ks bs=⟨(Yq s ks bs).ps++more,ro,L⟩
 | [],_,bs,_,_,_,_=>by cases bs<;>rfl
 | _::_,_,[],_,_,_,_=>rfl
 | k::ks,s,b::bs,more,ro,L,hk=>by
  rw [Yq,Zf9 (hk k (by simp)),ZcI (s:=s.upd k.1 k.2 b) (fun q hq=>by rw [St.upd_A];exact hk q (by simp [hq]))]
  rfl
theorem Cl.more {s:St} {ks:List (Nat × Nat)} {bs:List Blk} (h:Cl s ks bs) (more:List (Bool × List Blk)) (ro:Bool) (L:List Blk):Cl ⟨s.ps++more,ro,L⟩ ks bs :=
 ⟨h.nd,h.len,fun k hk=>ZiR (h.le k hk) (h.wr k hk) _ _ _,fun j lv ix b h1 h2=>ZB0 (h.get j lv ix b h1 h2) _ _ _⟩
end Go.QAbs
namespace Go.Q15
open Go Go.QAbs
set_option maxRecDepth 100000
set_option maxHeartbeats 8000000
def Ja (w:List Nat) (h:Nat):List Nat:=if h∈w then w else w++[h]
def Yg (v:List Nat):List Nat:=v.foldl Ja []
theorem Zhj (v:List Nat) (h:Nat):Yg (v++[h])=Ja (Yg v) h:=by unfold Yg;rw [List.foldl_append];rfl
theorem ZcJ {w:List Nat} {h x:Nat}:x∈Ja w h↔x∈w\/x=h:=by
 unfold Ja
 split
 ·rename_i q;exact ⟨.inl,fun p=>p.elim id fun e=>e▸q⟩
 ·simp
theorem ZY7:∀ v:List Nat,(Yg v).Nodup/\(∀ x,x∈Yg v↔x∈v)/\(Yg v).length<=v.length:=by
 intro v
 have key:∀ (v w:List Nat),w.Nodup->(v.foldl Ja w).Nodup/\(∀ x,x∈v.foldl Ja w↔x∈w\/x∈v)/\(v.foldl Ja w).length<=w.length+v.length:=by
  intro v
  induction v with
  | nil=>intro w h;exact ⟨h,by simp,by simp⟩
  | cons a v ih =>
   intro w h
   have h1:(Ja w a).Nodup:=by
    unfold Ja;split
    ·exact h
    ·rename_i q
     rw [List.nodup_append]
     refine ⟨h,by simp,fun x hx y hy=>?_⟩
     rw [List.mem_singleton] at hy;intro e;rw [e,hy] at hx;exact q hx
   obtain ⟨i1,i2,i3⟩:=ih (Ja w a) h1
   refine ⟨i1,fun x=>?_,?_⟩
   ·rw [List.foldl_cons,i2,ZcJ,List.mem_cons,or_assoc]
   ·have:(Ja w a).length<=w.length+1:=by unfold Ja;split<;>simp
    rw [List.foldl_cons,List.length_cons];omega
 have:=key v [] List.nodup_nil
 exact ⟨this.1,fun x=>by have h:=this.2.1 x;simpa [Yg] using h,by have h:=this.2.2;simpa [Yg] using h⟩
def ZBD (x n:Int):Int:=(x % 18446744073709551616) % (n+1)
theorem XM {x n:Int} (h:0<=n):0<=ZBD x n/\ZBD x n<=n:=by
 unfold ZBD
 have:=Int.emod_nonneg (x % 18446744073709551616) (show n+1≠0 by omega)
 have:=Int.emod_lt_of_pos (x % 18446744073709551616) (show 0<n+1 by omega)
 omega
theorem Znu (x:Int):IntKind.u64.wrap x=x % 18446744073709551616:=by
 have e1:IntKind.u64.signed=false:=rfl;have e2:IntKind.u64.bits=64:=rfl;simp only [IntKind.wrap,e1,e2,Bool.false_and,if_false,jB];rfl
theorem ZLF (x n:Int) (h0:0<=n) (h1:n<4611686018427387904) (st:St):S Tb JL [.int .i64 x,.int .i64 n] st=some (.int .i64 (ZBD x n),st):=by
 have hp:=XM (x:=x) h0
 have hw:IntKind.u64.wrap (n+1)=n+1:=by rw [Znu];omega
 have hx:=Int.emod_nonneg x (show (18446744073709551616:Int)≠0 by decide)
 have hrem:ZFL .rem (.int .u64 (IntKind.u64.wrap x)) (.int .u64 (n+1))=some (.int .u64 (ZBD x n)):=by
  rw [Znu]
  show (if n+1=0 then none else some (AV.int .u64 ((x % 18446744073709551616).tmod (n+1))))=_
  rw [if_neg (by omega),Int.tmod_eq_emod_of_nonneg hx];rfl
 refine Z5 rfl (fun A hA=>?_)
 repeat' (first|refine ZE ?_|refine ZD ?_|refine ZF rfl ?_|refine ZB rfl ?_|refine ZA ?_)
 refine Zmb rfl ?_
 repeat' (first|refine ZF rfl ?_|refine Zb rfl rfl (by omega) ?_)
 refine ZI5 rfl hw ?_;refine ZD6 rfl rfl hrem ?_
 refine ZI5 rfl (ZQr (by omega) (by omega)) ?_
 repeat' (first|refine ZF rfl ?_|refine ZB rfl ?_|refine ZA ?_|refine ZP ?_|refine ZO ?_)
 refine Ze hA (by simp) rfl rfl rfl rfl ?_
 rfl
theorem Yh {N:ZQ} (hN:GoodN N) {st:St} {lv ix:Nat} (hr:Rd st lv ix N) {t:Tr} (ht:VE N t) (hb:t.bytes<=65536):S Tb Qt [.ptr lv ix 0 0 0,t.av] st=some (.int .i64 t.bytes,st):=by
 have hl:=ht.len hN
 refine Z5 rfl (fun A hA=>?_)
 have hT:=fun L=>ZoK hN (hr.push hA (ro:=false) (L:=L)) ht hb
 generalize t.txt N=s at *
 repeat' (first|refine ZE ?_|refine ZD ?_|refine ZF rfl ?_|refine Z0 rfl rfl ?_|refine ZB rfl ?_|refine ZA ?_|refine Qp rfl ?_|refine Qf rfl rfl (Zl _) ?_|refine Zy rfl (Zv _) (QB _) ?_|refine ZC rfl rfl (by first|rfl|(simp only [List.nil_append,List.append_nil,List.cons_append,Zg,ZW,ZZ];first|done|rfl)) (hT _) ?_|refine ZP ?_|refine ZO ?_)
 refine Ze hA (by simp) rfl rfl rfl rfl ?_
 rw [hl]
theorem ZoN (t:Tr):t.Pos->∀ st,S Tb YQ [t.av] st=some (t.own.av,st):=by
 induction t using Tr.ind with
 | step o h m s k ih =>
  intro hp st
  cases hp with
  | mk h0 h4 hk =>
  refine Z5 rfl (fun A hA=>?_)
  rw [Tr.av,Tr.avO_sl]
  cases k with
  | none =>
   simp only [slV,Option.getD] at *
   repeat' (first|refine ZE ?_|refine ZD ?_|refine ZF rfl ?_|refine ZJ rfl rfl ?_|refine ZS rfl rfl rfl rfl ?_|refine ZB rfl ?_|refine ZA ?_|refine JC rfl ?_|(refine Zd rfl rfl (fun _=>?_) (fun _=>?_)<;>try (exfalso;omega))|refine ZG rfl ?_|refine Zh rfl rfl rfl ?_|refine JP rfl ?_|refine Zu rfl rfl rfl (QX _ (Nat.lt_succ_self _)) rfl rfl ?_|refine Zu rfl rfl rfl (ZDF _ (Nat.lt_succ_self _)) rfl rfl ?_|refine Qe ?_|refine ZP ?_|refine Zn ?_|refine ZI ?_|refine ZO ?_|refine Za ?_|refine ZX rfl ?_)
   refine Jc hA (.inr rfl) rfl rfl rfl (ZYi (l:=[]) rfl rfl) rfl ?_;rfl
  | some l =>
   have he:Tr.own (.mk o h m s (some l))=.mk o h m s (some (l.map Tr.own)):=by
    rw [Tr.own,Tr.ownO,Tr.ownL_map]
   rw [he]
   simp only [slV,Option.getD] at *
   repeat' (first|refine ZE ?_|refine ZD ?_|refine ZF rfl ?_|refine ZB rfl ?_|refine ZA ?_|refine Zh rfl rfl rfl ?_|refine JP rfl ?_|refine ZI ?_)
   refine Zr (α:=Nat) (fun i=>[(1,.ptr A.length 0 0 0 0),(2,.ptr A.length 1 0 0 0),(3,.ref A.length 2 i 0 i),(4,.int .i64 i)])
    (fun i=>⟨A,false,[.arr 7 0 [.agg [.int .u64 o,.int .i64 h,.int .i64 m.b,.int .i64 m.r,.int .i64 m.l,.str s,.lit (l.map Tr.av)]],.arr 7 0 [trZ],.arr 7 i (((l.take i).map Tr.own).map Tr.av)]⟩) (fun i=>i<=l.length) (fun i=>l.length-i) 0 rfl rfl (by simp) ?_
   intro i hi
   repeat' (first|refine ZE ?_|refine ZD ?_|refine ZF rfl ?_|refine ZJ rfl rfl ?_|refine ZS rfl rfl rfl rfl ?_|refine ZB rfl ?_|refine ZA ?_|refine QH rfl ?_|(refine Zd rfl rfl (fun _=>?_) (fun _=>?_)<;>try (exfalso;omega))|refine ZU rfl ?_|refine ZG rfl ?_|refine Zu rfl rfl rfl (QX _ (Nat.lt_succ_self _)) rfl rfl ?_|refine Zu rfl rfl rfl (ZDF _ (Nat.lt_succ_self _)) rfl rfl ?_|refine Qc rfl rfl (by omega) Zv (fun _ _=>?_)|refine QD rfl (Zl _) ?_|refine ZH ?_|refine ZP ?_|refine Zn ?_|refine ZI ?_|refine ZO ?_|refine Za ?_|refine ZX rfl ?_|refine Zf ?_)
   ·rename_i t ht
    have ht2:l[i]?=some t:=ht;have h5:=ih t (jM ht2) (hk t (jM ht2))
    have hlen:((l.take i).map Tr.own).length=i:=by rw [List.length_map,List.length_take];omega
    repeat' (first|refine ZD ?_|refine ZF rfl ?_|refine ZB rfl ?_|refine ZA ?_|refine Zb rfl rfl (by omega) ?_|refine ZC rfl rfl (by first|rfl|(simp only [List.nil_append,List.append_nil,List.cons_append,Zg,ZW,ZZ];first|done|rfl)) (h5 _) ?_|refine Yk rfl ?_|refine ZYt rfl rfl rfl hlen.symm (by omega) ?_|refine Zt ?_|refine Zw ?_)
    refine ⟨i+1,⟨rfl,?_⟩,by omega,by omega⟩
    rw [Zm ht2,List.map_append (f:=Tr.own)];rfl
   ·have hi':i=l.length:=by omega
    subst hi';rw [List.take_length]
    skip
    refine Jc hA (.inr rfl) rfl rfl rfl (ZYi (l:=l.map Tr.own) rfl (by simp)) rfl ?_
    rw [Tr.av,Tr.avO,Tr.avL_map]
theorem ZFE (k:Option (List Tr)):(Tr.ownO k).getD []=(k.getD []).map Tr.own:=by
 cases k with
 | none=>rfl
 | some l=>simp [Tr.ownO,Tr.ownL_map]
theorem Zov (t:Tr):t.own.h=t.h:=by cases t;rfl
theorem ZAC (t:Tr):t.own.bytes=t.bytes:=by
 induction t using Tr.ind with
 | step o h m s k ih =>
  rw [Tr.own,Tr.bytes,Tr.bytes,Tr.bytesO_getD,Tr.bytesO_getD,ZFE];generalize k.getD []=l at ih
  congr 1
  induction l with
  | nil=>rfl
  | cons a l ih2=>rw [jC,Tr.bytesL,Tr.bytesL,ih a (by simp),ih2 (fun t ht=>ih t (by simp [ht]))]
theorem ZnP {N:ZQ} {t:Tr} (hv:Val N t):Val N t.own:=by
 induction hv with
 | kept h0 hx hok hh hm hk =>
  rw [Tr.own]
  exact .kept h0 hx hok hh hm (by rw [ZFE,hk];rfl)
 | leaf h1 h2 hk =>
  rw [Tr.own]
  exact .leaf h1 h2 (by rw [ZFE,hk];rfl)
 | inner hh h2 h4 hl hb hv ih =>
  rename_i h l
  rw [Tr.own,Tr.ownO,Tr.ownL_map]
  refine .inner hh (by rw [List.length_map];exact h2) (by rw [List.length_map];exact h4) ?_ ?_ ?_
  ·intro t ht
   obtain ⟨u,hu,rfl⟩:=List.mem_map.1 ht;rw [Zov];exact hl u hu
  ·intro t ht q
   obtain ⟨u,hu,rfl⟩:=List.mem_map.1 ht;rw [ZAC];exact hb u hu q
  ·intro t ht
   obtain ⟨u,hu,rfl⟩:=List.mem_map.1 ht;exact ih u hu
theorem ZOU {N:ZQ} {t:Tr} (h:VE N t):VE N t.own:=by
 rcases h with h|h
 ·obtain ⟨o,h',m,s,k⟩:=t
  obtain ⟨h1,h2,h3,h4,h5⟩:=h
  exact .inl ⟨h1,h2,h3,h4,by show (Tr.ownO k).getD []=[];rw [ZFE];simp only [Tr.ks] at h5;rw [h5];rfl⟩
 ·exact .inr (ZnP h)
structure Ed where
 what:Nat
 n:Int
 at_:Int
 len:Int
 text:List UInt8
theorem ZVj (r:Ro):JJ r.av true 0 5=some r.av:=by cases r;rfl
theorem ZBX {O:Orc} {k:List Fr} {Q:YY} {e:Env} {st:St} {keep:List Nat} {is:List QAbs.PI} {d:Nat} {α:Type} {f:α->AV} {x:Opd} {l:List α} (hx:Zo e x=some (.lit (l.map f))) (h:Is O is keep k Q ((d,.int .i64 l.length)::e) st):Is O (⟨some d,none,false,.len 1 x⟩::is) keep k Q e st:=by
 refine ZVc hx ?_;rw [List.length_map];exact h
def ZFF:Nat->List (List UInt8)->Nat
 | n,[]=>n
 | n,t::ts=>if n<=900 then ZFF (n+min t.length 1000) ts else n
def ZcL (l:List (List UInt8)):Prop:=4<l.length\/900<ZFF 0 l
instance (l:List (List UInt8)):Decidable (ZcL l):=by unfold ZcL;infer_instance
theorem ZQZ:∀ (l:List (List UInt8)) (n:Nat),n<=ZFF n l
 | [],n=>by simp [ZFF]
 | t::ts,n=>by
  rw [ZFF]
  by_cases h:n<=900
  ·rw [if_pos h];have:=ZQZ ts (n+min t.length 1000);omega
  ·rw [if_neg h];exact Nat.le_refl _
theorem ZcM:∀ (l:List (List UInt8)) (n:Nat),ZFF n l<=900->n+(l.map List.length).sum<=900
 | [],n,h=>by simpa [ZFF] using h
 | t::ts,n,h=>by
  rw [ZFF] at h
  by_cases hn:n<=900
  ·rw [if_pos hn] at h
   have h1:=ZQZ ts (n+min t.length 1000);have h2:=ZcM ts _ h;rw [jC,List.sum_cons];omega
  ·rw [if_neg hn] at h;omega
theorem ZLa {α:Type} {l:List α} {i:Nat} {a:α} (h:l[i]?=some a):l.drop i=a::l.drop (i+1):=by
 obtain ⟨h1,h2⟩:=List.getElem?_eq_some_iff.1 h;subst h2;exact List.drop_eq_getElem_cons h1
theorem ZLG {O:Orc} {k:List Fr} {Q:YY} {e:Env} {st:St} {keep:List Nat} {is:List PI} {d:Nat} {α:Type} {f:α->AV} {x:Opd} {l:List α} (hx:Zo e x=some (.lit (l.map f))) (h:Is O is keep k Q ((d,.int .i64 l.length)::e) st):Is O (⟨some d,none,false,.len 1 x⟩::is) keep k Q e st:=by
 refine ZVc hx ?_;rw [List.length_map];exact h
theorem ZoO (l:List (List UInt8)) (hb:l.length<9223372036854775808) (hs:∀ s∈l,s.length<9223372036854775808) (st:St):S Tb Xt [.lit (l.map .str)] st=some (.bool (decide (ZcL l)),st):=by
 refine Z5 rfl (fun A hA=>?_)
 repeat' (first|refine ZE ?_|refine ZD ?_|refine ZF rfl ?_|refine ZB rfl ?_|refine ZA ?_|refine ZI ?_)
 refine Zr (α:=Nat × Nat) (fun p=>[(0,.lit (l.map .str)),(3,.int .i64 p.2),(4,.int .i64 p.1)]) (fun p=>⟨A,false,[]⟩) (fun p=>p.1<=l.length/\p.2<=1900/\ZFF p.2 (l.drop p.1)=ZFF 0 l) (fun p=>l.length-p.1) (0,0) rfl rfl ⟨Nat.zero_le _,Nat.zero_le _,rfl⟩ ?_
 rintro ⟨i,n⟩ ⟨h1,h2,h3⟩
 simp only at h1 h2 h3 ⊢
 repeat' (first|refine ZE ?_|refine ZD ?_|refine ZF rfl ?_|refine Z4 rfl ?_|refine JH rfl rfl ?_|refine Zk rfl rfl rfl rfl ?_|refine ZB rfl ?_|refine ZA ?_|refine Qp rfl ?_|refine QH rfl ?_|refine QD rfl rfl ?_|refine Qc rfl rfl (by omega) (fun _=>rfl) (fun _ _=>?_)|(refine Zd rfl rfl (fun _=>?_) (fun _=>?_)<;>try (exfalso;omega))|(refine XQ rfl rfl (fun _=>?_) (fun _=>?_)<;>try (exfalso;omega))|(refine QQ rfl rfl (fun _=>?_) (fun _=>?_)<;>try (exfalso;omega))|refine ZU rfl ?_|refine ZG rfl ?_|refine ZWR rfl rfl ?_|refine ZH ?_|refine ZP ?_|refine Zn ?_|refine ZI ?_|refine ZO ?_|refine Za ?_|refine ZX rfl ?_|refine Zf ?_)
 ·rename_i hlt hn x hx
  have hx':l[i]?=some x:=by rw [show i=((i:Nat):Int).toNat by omega];exact hx
  have hxl:=hs x (jM hx')
  have e1:(if false=true then max (x.length:Int) 1000 else min (x.length:Int) 1000)=((min x.length 1000:Nat):Int):=by
   simp only [jB,if_false];omega
  rw [e1]
  refine Zb rfl rfl (by omega) ?_
  rw [show (n:Int)+((min x.length 1000:Nat):Int)=((n+min x.length 1000:Nat):Int) by omega]
  repeat' (first|refine ZD ?_|refine ZF rfl ?_|refine ZB rfl ?_|refine ZA ?_|refine Zb rfl rfl (by omega) ?_|refine Zt ?_|refine Zw ?_)
  refine ⟨(i+1,n+min x.length 1000),⟨rfl,rfl⟩,⟨by simp only;omega,by simp only;omega,?_⟩,by simp only;omega⟩
  rw [<- h3,ZLa hx',ZFF,if_pos (by omega)]
 ·refine ZAx hA (by simp) rfl rfl ?_
  exact (decide_eq_true (.inl (by omega))).symm
 ·refine ZAx hA (by simp) rfl rfl ?_
  refine (decide_eq_true (.inr ?_)).symm
  have:=ZQZ (l.drop i) n
  omega
 ·refine ZAx hA (by simp) rfl rfl ?_
  exact (decide_eq_true (.inl (by omega))).symm
 ·refine ZAx hA (by simp) rfl rfl ?_
  refine (decide_eq_true (.inr ?_)).symm
  have:=ZQZ (l.drop i) n
  omega
 ·refine ZAx hA (by simp) rfl rfl ?_
  refine (decide_eq_false ?_).symm
  have:l.drop i=[]:=List.drop_eq_nil_of_le (by omega)
  rw [this,ZFF] at h3
  rintro (h|h)<;>omega
structure Stp where
 what:Nat
 at_:Int
 n:Int
 text:List UInt8
def Stp.av (y:Stp):AV:=.agg [.int .u8 y.what,.int .i64 y.at_,.int .i64 y.n,.str y.text]
def ZiS (l:List Stp):Prop:=(∃ s∈l.take 100,200<s.text.length)\/30<l.length
open Classical in
noncomputable instance (l:List Stp):Decidable (ZiS l):=Classical.propDecidable _
theorem ZoP (l:List Stp) (hb:l.length<9223372036854775808) (hs:∀ s∈l,s.text.length<9223372036854775808) (st:St):S Tb Xu [.lit (l.map Stp.av)] st=some (.bool (decide (ZiS l)),st):=by
 refine Z5 rfl (fun A hA=>?_)
 repeat' (first|refine ZE ?_|refine ZD ?_|refine ZF rfl ?_|refine ZB rfl ?_|refine ZA ?_|refine ZI ?_)
 refine Zr (α:=Nat) (fun i=>[(0,.lit (l.map Stp.av)),(3,.int .i64 i)]) (fun p=>⟨A,false,[]⟩) (fun i=>i<=l.length/\i<=100/\∀ j s,j<i->l[j]?=some s->s.text.length<=200) (fun i=>l.length-i) 0 rfl rfl ⟨Nat.zero_le _,Nat.zero_le _,fun j s h=>by omega⟩ ?_
 rintro i ⟨h1,h2,h3⟩
 have key:∀ {j:Nat} {s:Stp},(l.length:Int)<=i\/100<=(i:Int)->s∈l.take 100->s.text.length<=200:=by
  intro j s hi hm;obtain ⟨j,hj⟩:=List.mem_iff_getElem?.1 hm;have hj1:=(List.getElem?_eq_some_iff.1 hj).1;rw [List.length_take] at hj1
  rw [List.getElem?_take,if_pos (by omega)] at hj
  exact h3 j s (by omega) hj
 repeat' (first|refine ZE ?_|refine ZD ?_|refine ZF rfl ?_|refine ZJ rfl rfl ?_|refine Z4 rfl ?_|refine JH rfl rfl ?_|refine Zk rfl rfl rfl rfl ?_|refine ZB rfl ?_|refine ZA ?_|refine Qp rfl ?_|refine QH rfl ?_|refine QD rfl rfl ?_|refine Qc rfl rfl (by omega) (fun _=>rfl) (fun _ _=>?_)|(refine Zd rfl rfl (fun _=>?_) (fun _=>?_)<;>try (exfalso;omega))|(refine QQ rfl rfl (fun _=>?_) (fun _=>?_)<;>try (exfalso;omega))|refine ZU rfl ?_|refine ZG rfl ?_|refine Zb rfl rfl (by omega) ?_|refine ZH ?_|refine ZP ?_|refine Zn ?_|refine ZI ?_|refine ZO ?_|refine ZY ?_|refine Za ?_|refine Zt ?_|refine QP ?_|refine ZX rfl ?_|refine Zw ?_|refine Y4 ?_|refine Zf ?_)
 ·rename_i hlt hn s hs' hbig
  have hs1:l[i]?=some s:=by rw [show i=((i:Nat):Int).toNat by omega];exact hs'
  refine ZAx hA (by simp) rfl rfl ?_
  refine (decide_eq_true (.inl ⟨s,?_,by omega⟩)).symm
  refine List.mem_iff_getElem?.2 ⟨i,?_⟩
  rw [List.getElem?_take,if_pos (by omega)];exact hs1
 ·rename_i hlt hn s hs' hbig
  have hs1:l[i]?=some s:=by rw [show i=((i:Nat):Int).toNat by omega];exact hs'
  refine ⟨i+1,⟨rfl,rfl⟩,⟨by omega,by omega,fun j s2 hj h=>?_⟩,by omega⟩
  rcases Nat.lt_or_ge j i with q|q
  ·exact h3 j s2 q h
  ·obtain rfl:j=i:=by omega
   rw [hs1] at h
   have:=Option.some.inj h
   subst this;omega
 ·refine ZAx hA (by simp) rfl rfl ?_
  exact (decide_eq_true (.inr (by omega))).symm
 ·refine ZAx hA (by simp) rfl rfl ?_
  exact (decide_eq_true (.inr (by omega))).symm
 ·refine ZAx hA (by simp) rfl rfl ?_
  refine (decide_eq_false ?_).symm
  rintro (⟨s,h,hh⟩|h)
  ·have:=key (j:=0) (s:=s) (.inl (by omega)) h
   omega
  ·omega
theorem ZlM {l:List Stp} (h:¬ ZiS l):l.length<=30/\∀ s∈l,s.text.length<=200:=by
 have h1:l.length<=30:=by
  rcases Nat.lt_or_ge 30 l.length with q|q
  ·exact absurd (.inr q) h
  ·exact q
 refine ⟨h1,fun s hs=>?_⟩
 rcases Nat.lt_or_ge 200 s.text.length with q|q
 ·refine absurd (.inl ⟨s,?_,q⟩) h
  rw [List.take_of_length_le (by omega)];exact hs
 ·exact q
theorem ZgB {l:List (List UInt8)} (h:¬ ZcL l):l.length<=4/\(l.map List.length).sum<=900:=by
 have h1:¬ 4<l.length:=fun q=>h (.inl q)
 have h2:¬ 900<ZFF 0 l:=fun q=>h (.inr q)
 have:=ZcM l 0 (by omega)
 exact ⟨by omega,by omega⟩
def ZlN (l:List Ed):Prop:=(∃ s∈l.take 100,200<s.text.length)\/60<l.length
open Classical in
noncomputable instance (l:List Ed):Decidable (ZlN l):=Classical.propDecidable _
end Go.Q15
namespace Go.QAbs
end Go.QAbs
namespace Go.Q15
open Go Go.QAbs
set_option maxRecDepth 100000
set_option maxHeartbeats 8000000
def ZFG (r:AR) (o:Nat):Prop:=Jt o/\r.states[o % 65536]?=some 1/\r.gens[o % 65536]?=some ((o / 65536:Nat):Int)
instance (r:AR) (o:Nat):Decidable (ZFG r o):=by unfold ZFG;exact inferInstance
def ZQa (r:AR) (o:Nat):Int:=if Jt o/\r.states[o % 65536]?=some 1 then ((o % 65536:Nat):Int) else 0
theorem ZoQ {st:St} {lv b:Nat} {r:AR} (h:HasR st lv b r) (hl:r.gens.length=r.states.length) (o:Nat) (ho:o<18446744073709551616) :
 S Tb XB [.ptr lv (b+3) 0 0 0,.int .u64 o] st=some (.tup [.int .i64 (ZQa r o),.bool (decide (ZFG r o))],st):=by
 refine Z5 rfl (fun A hA=>?_)
 have g3:=fun L=>ZV hA (ro:=false) (L:=L) h.h3
 have g0:=fun L=>ZV hA (ro:=false) (L:=L) h.h0
 have g2:=fun L=>ZV hA (ro:=false) (L:=L) h.h2
 unfold AR.b3 at g3;unfold AR.b0 at g0;unfold AR.b2 at g2
 have hw0:∀ L,wIs 1 0 (St.get ⟨A,false,L⟩ lv b)=true:=fun L=>by rw [g0];rfl
 have hw2:∀ L,wIs 1 0 (St.get ⟨A,false,L⟩ lv (b+2))=true:=fun L=>by rw [g2];rfl
 by_cases hh:Jt o
 ·have hS:=fun st=>ZlF o hh st
  have hG:=fun st=>ZnB o hh st
  rcases Nat.lt_or_ge (o % 65536) r.states.length with hlt|hge
  ·obtain ⟨x,hx⟩:∃ x,r.states[o % 65536]?=some x:=⟨_,jE hlt⟩
   obtain ⟨y,hy⟩:∃ x,r.gens[o % 65536]?=some x:=⟨_,jE (by omega)⟩
   have q0:(r.states.map (.int .u8))[0+((o % 65536:Nat):Int).toNat]?=some (AV.int .u8 x):=by
    rw [show 0+((o % 65536:Nat):Int).toNat=o % 65536 by omega,jG,hx];rfl
   have q2:(r.gens.map (.int .u64))[0+((o % 65536:Nat):Int).toNat]?=some (AV.int .u64 y):=by
    rw [show 0+((o % 65536:Nat):Int).toNat=o % 65536 by omega,jG,hy];rfl
   by_cases h1:x=1
   ·subst h1
    have e1:ZQa r o=((o % 65536:Nat):Int):=by unfold ZQa;rw [if_pos ⟨hh,hx⟩]
    by_cases h2:((o / 65536:Nat):Int)=y
    ·subst h2
     rw [e1,decide_eq_true (show ZFG r o from ⟨hh,hx,hy⟩)]
     repeat' (first|refine ZE ?_|refine ZD ?_|refine ZF rfl ?_|refine ZJ rfl rfl ?_|refine Z4 rfl ?_|refine Zk rfl rfl rfl rfl ?_|refine Z0 rfl rfl ?_|refine ZB rfl ?_|refine ZA ?_|refine Z2 rfl rfl ?_|refine QJ rfl ?_|(refine Jg rfl rfl (fun _=>?_) (fun _=>?_)<;>try (exfalso;omega))|(refine Zq rfl rfl (fun _=>?_) (fun _=>?_)<;>try (exfalso;omega))|(refine Zp rfl rfl (fun _=>?_) (fun _=>?_)<;>try (exfalso;omega))|refine ZG rfl ?_|refine ZC rfl rfl rfl (hS _) ?_|refine ZC rfl rfl rfl (hG _) ?_|refine Z8 rfl (g3 _) rfl rfl ?_|refine Qg rfl rfl (by omega) (hw0 _) ?_|refine Qg rfl rfl (by omega) (hw2 _) ?_|refine Z8 rfl (g0 _) q0 rfl ?_|refine Z8 rfl (g2 _) q2 rfl ?_|refine ZH ?_|refine ZP ?_|refine ZO ?_)
     all_goals try (exfalso;omega)
     all_goals try contradiction
     all_goals refine Ze hA (by simp) rfl rfl rfl rfl ?_
     all_goals rfl
    ·rw [e1,decide_eq_false (show ¬ ZFG r o from fun q=>h2 (by have:=q.2.2;rw [hy] at this;exact (Option.some.inj this).symm))]
     repeat' (first|refine ZE ?_|refine ZD ?_|refine ZF rfl ?_|refine ZJ rfl rfl ?_|refine Z4 rfl ?_|refine Zk rfl rfl rfl rfl ?_|refine Z0 rfl rfl ?_|refine ZB rfl ?_|refine ZA ?_|refine Z2 rfl rfl ?_|refine QJ rfl ?_|(refine Jg rfl rfl (fun _=>?_) (fun _=>?_)<;>try (exfalso;omega))|(refine Zq rfl rfl (fun _=>?_) (fun _=>?_)<;>try (exfalso;omega))|(refine Zp rfl rfl (fun _=>?_) (fun _=>?_)<;>try (exfalso;omega))|refine ZG rfl ?_|refine ZC rfl rfl rfl (hS _) ?_|refine ZC rfl rfl rfl (hG _) ?_|refine Z8 rfl (g3 _) rfl rfl ?_|refine Qg rfl rfl (by omega) (hw0 _) ?_|refine Qg rfl rfl (by omega) (hw2 _) ?_|refine Z8 rfl (g0 _) q0 rfl ?_|refine Z8 rfl (g2 _) q2 rfl ?_|refine ZH ?_|refine ZP ?_|refine ZO ?_)
     all_goals try (exfalso;omega)
     all_goals try contradiction
     all_goals refine Ze hA (by simp) rfl rfl rfl rfl ?_
     all_goals rfl
   ·have e1:ZQa r o=0:=by unfold ZQa;rw [if_neg (fun q=>h1 (by have:=q.2;rw [hx] at this;exact Option.some.inj this))]
    rw [e1,decide_eq_false (show ¬ ZFG r o from fun q=>h1 (by have:=q.2.1;rw [hx] at this;exact Option.some.inj this))]
    repeat' (first|refine ZE ?_|refine ZD ?_|refine ZF rfl ?_|refine ZJ rfl rfl ?_|refine Z4 rfl ?_|refine Zk rfl rfl rfl rfl ?_|refine Z0 rfl rfl ?_|refine ZB rfl ?_|refine ZA ?_|refine Z2 rfl rfl ?_|refine QJ rfl ?_|(refine Jg rfl rfl (fun _=>?_) (fun _=>?_)<;>try (exfalso;omega))|(refine Zp rfl rfl (fun _=>?_) (fun _=>?_)<;>try (exfalso;omega))|refine ZU rfl ?_|refine ZC rfl rfl rfl (hS _) ?_|refine Z8 rfl (g3 _) rfl rfl ?_|refine Qg rfl rfl (by omega) (hw0 _) ?_|refine Z8 rfl (g0 _) q0 rfl ?_|refine ZP ?_|refine ZO ?_|refine ZY ?_)
    all_goals try (exfalso;omega)
    all_goals try contradiction
    all_goals refine Ze hA (by simp) rfl rfl rfl rfl ?_
    all_goals rfl
  ·have hn:r.states[o % 65536]?=none:=List.getElem?_eq_none hge
   have e1:ZQa r o=0:=by unfold ZQa;rw [if_neg (fun q=>by rw [hn] at q;simp at q)]
   rw [e1,decide_eq_false (show ¬ ZFG r o from fun q=>by have:=q.2.1;rw [hn] at this;simp at this)]
   repeat' (first|refine ZE ?_|refine ZD ?_|refine ZF rfl ?_|refine ZJ rfl rfl ?_|refine Z4 rfl ?_|refine JH rfl rfl ?_|refine Zk rfl rfl rfl rfl ?_|refine Z0 rfl rfl ?_|refine ZB rfl ?_|refine ZA ?_|refine Z2 rfl rfl ?_|refine QJ rfl ?_|(refine Jg rfl rfl (fun _=>?_) (fun _=>?_)<;>try (exfalso;omega))|(refine Zp rfl rfl (fun _=>?_) (fun _=>?_)<;>try (exfalso;omega))|refine ZU rfl ?_|refine ZC rfl rfl rfl (hS _) ?_|refine Z8 rfl (g3 _) rfl rfl ?_|refine ZP ?_|refine ZO ?_|refine ZY ?_)
   all_goals try (exfalso;omega)
   all_goals refine Ze hA (by simp) rfl rfl rfl rfl ?_
   all_goals rfl
 ·have hS:=fun st=>ZlG o ho hh st
  have e1:ZQa r o=0:=by unfold ZQa;rw [if_neg (fun q=>hh q.1)]
  rw [e1,decide_eq_false (show ¬ ZFG r o from fun q=>hh q.1)]
  repeat' (first|refine ZE ?_|refine ZD ?_|refine ZF rfl ?_|refine JH rfl rfl ?_|refine Zk rfl rfl rfl rfl ?_|refine Z0 rfl rfl ?_|refine ZB rfl ?_|refine ZA ?_|(refine Zp rfl rfl (fun _=>?_) (fun _=>?_)<;>try (exfalso;omega))|refine ZU rfl ?_|refine ZC rfl rfl rfl (hS _) ?_|refine ZP ?_|refine ZO ?_|refine ZY ?_)
  all_goals try (exfalso;omega)
  all_goals try contradiction
  all_goals refine Ze hA (by simp) rfl rfl rfl rfl ?_
  all_goals rfl
theorem ZnQ {st:St} {lv b:Nat} {r:AR} (h:HasR st lv b r) (hl:r.gens.length=r.states.length) (o:Nat) (ho:o<18446744073709551616) :
 S Tb Y7 [.ptr lv (b+3) 0 0 0,.int .u64 o] st=some (.bool (decide (ZFG r o)),st):=by
 refine Z5 rfl (fun A hA=>?_)
 have hs:=fun L=>ZoQ (h.push hA (ro:=false) (L:=L)) hl o ho
 repeat' (first|refine ZE ?_|refine ZD ?_|refine ZF rfl ?_|refine Z0 rfl rfl ?_|refine ZB rfl ?_|refine ZA ?_|refine ZG rfl ?_|refine Q4 rfl rfl rfl rfl ?_|refine ZC rfl rfl rfl (hs _) ?_|refine ZH ?_|refine ZP ?_|refine ZO ?_)
 refine Ze hA (by simp) rfl rfl rfl rfl ?_
 rfl
theorem ZoR {st:St} {lv b:Nat} {r:AR} (h:HasR st lv b r) (hl:r.gens.length=r.states.length) (o:Nat) (ho:o<18446744073709551616) :
 S Tb Xv [.ptr lv (b+5) 0 0 0,.int .u64 o] st=some (.bool (decide (ZFG r o)),st):=by
 refine Z5 rfl (fun A hA=>?_)
 have hs:=fun L=>ZnQ (h.push hA (ro:=false) (L:=L)) hl o ho
 have g5:=fun L=>ZV hA (ro:=false) (L:=L) h.h5
 unfold AR.b5 at g5
 repeat' (first|refine ZE ?_|refine ZD ?_|refine ZF rfl ?_|refine ZJ rfl rfl ?_|refine ZB rfl ?_|refine ZA ?_|refine Z2 rfl rfl ?_|refine ZG rfl ?_|refine Q4 rfl rfl rfl rfl ?_|refine ZC rfl rfl rfl (hs _) ?_|refine Z8 rfl (g5 _) rfl rfl ?_|refine ZH ?_|refine ZP ?_|refine ZO ?_)
 refine Ze hA (by simp) rfl rfl rfl rfl ?_
 rfl
theorem AROk.live {r:AR} (h:AROk r) {o:Nat} {x:Nd} (hx:lk r.nodes o=some x):ZFG r o/\o<18446744073709551616:=by
 obtain ⟨s,g,k1,k2,k3,k4⟩:=h.key o x hx;obtain ⟨h1,h2⟩:=h.hnd hx
 have:=h.n16
 have hm:o % 65536=s:=by omega
 have hd:o / 65536=g:=by omega
 unfold ZFG;rw [hm,hd];refine ⟨⟨h1,k3,k4⟩,?_⟩;unfold Jt at h1;omega
theorem ZoS {l:List Nat} {i:Nat} {x:Nat} (h:l[i]?=some x):(l.map QI)[0+((i:Nat):Int).toNat]?=some (.int .u64 x):=by
 rw [show 0+((i:Nat):Int).toNat=i by omega,jG,h];rfl
theorem ZgC {l:List Nat} {i x h:Nat} (hx:l[i]?=some x) (hn:h∉l.take i) (e:x≠h):h∉l.take (i+1):=by
 rw [Zm hx,List.mem_append,List.mem_singleton]
 exact fun q=>q.elim hn fun q=>e q.symm
theorem ZnR {st:St} {lv ix ver:Nat} {l:List Nat} {n:Nat} (hn:n=l.length) (hg:st.get lv ix=some (.arr 1 ver (l.map QI))) (hb:l.length<4294967296) (h:Nat) :
 S Tb Q6 [.ref lv ix ver 0 n,.int .u64 h] st=some (.bool (decide (h∈l)),st):=by
 refine Z5 rfl (fun A hA=>?_)
 subst hn
 have g:=fun L=>ZV hA (ro:=false) (L:=L) hg
 have hw:∀ L,wIs 1 ver (St.get ⟨A,false,L⟩ lv ix)=true:=fun L=>by rw [g];simp [wIs]
 repeat' (first|refine ZE ?_|refine ZD ?_|refine ZF rfl ?_|refine ZB rfl ?_|refine ZA ?_|refine ZI ?_)
 refine Zr (α:=Nat) (fun i=>[(0,.ref lv ix ver 0 l.length),(1,.int .u64 h),(5,.int .i64 i)]) (fun i=>⟨A,false,[]⟩) (fun i=>i<=l.length/\h∉l.take i) (fun i=>l.length-i) 0 rfl rfl ⟨by omega,by simp⟩ ?_
 rintro i ⟨hi,hni⟩
 rcases Nat.lt_or_ge i l.length with hlt|hge
 ·obtain ⟨x,hx⟩:∃ x,l[i]?=some x:=⟨l[i]'hlt,jE _⟩
  have q:=ZoS hx
  repeat' (first|refine ZE ?_|refine ZD ?_|refine ZF rfl ?_|refine ZB rfl ?_|refine ZA ?_|refine QJ rfl ?_|(refine Zd rfl rfl (fun _=>?_) (fun _=>?_)<;>try (exfalso;omega))|(refine Zq rfl rfl (fun _=>?_) (fun _=>?_)<;>try (exfalso;omega))|refine ZU rfl ?_|refine ZG rfl ?_|refine Zb rfl rfl (by omega) ?_|refine Qg rfl rfl (by omega) (hw _) ?_|refine Z8 rfl (g _) q rfl ?_|refine ZH ?_|refine ZP ?_|refine ZI ?_|refine ZO ?_|refine ZY ?_|refine Zt ?_|refine QP ?_|refine Zw ?_|refine Y4 ?_)
  all_goals try (exfalso;omega)
  ·rename_i e
   obtain rfl:x=h:=by omega
   rw [decide_eq_true (jM hx)]
   refine Ze hA (by simp) rfl rfl rfl rfl ?_
   rfl
  ·rename_i e
   exact ⟨i+1,⟨rfl,rfl⟩,⟨by omega,ZgC hx hni (by omega)⟩,by omega⟩
 ·obtain rfl:i=l.length:=by omega
  rw [List.take_length] at hni;rw [decide_eq_false hni]
  repeat' (first|refine ZE ?_|refine ZD ?_|refine ZF rfl ?_|refine ZB rfl ?_|refine ZA ?_|refine QJ rfl ?_|(refine Zd rfl rfl (fun _=>?_) (fun _=>?_)<;>try (exfalso;omega))|refine ZG rfl ?_|refine ZP ?_|refine Zn ?_|refine ZO ?_|refine Za ?_|refine ZX rfl ?_|refine Zf ?_)
  all_goals try (exfalso;omega)
  refine Ze hA (by simp) rfl rfl rfl rfl ?_
  rfl
theorem ZeR (l:List Nat) (hb:l.length<4294967296) (h:Nat) (st:St) :
 S Tb Q6 [.lit (l.map QI),.int .u64 h] st=some (.bool (decide (h∈l)),st):=by
 refine Z5 rfl (fun A hA=>?_)
 repeat' (first|refine ZE ?_|refine ZD ?_|refine ZF rfl ?_|refine ZB rfl ?_|refine ZA ?_|refine ZI ?_)
 refine Zr (α:=Nat) (fun i=>[(0,.lit (l.map QI)),(1,.int .u64 h),(5,.int .i64 i)]) (fun i=>⟨A,false,[]⟩) (fun i=>i<=l.length/\h∉l.take i) (fun i=>l.length-i) 0 rfl rfl ⟨by omega,by simp⟩ ?_
 rintro i ⟨hi,hni⟩
 rcases Nat.lt_or_ge i l.length with hlt|hge
 ·obtain ⟨x,hx⟩:∃ x,l[i]?=some x:=⟨l[i]'hlt,jE _⟩
  have q:0<=((i:Nat):Int)/\l[((i:Nat):Int).toNat]?=some x:=⟨by omega,by rw [show ((i:Nat):Int).toNat=i by omega];exact hx⟩
  repeat' (first|refine XL rfl rfl q (fun _=>rfl) ?_|refine ZE ?_|refine ZD ?_|refine ZF rfl ?_|refine ZB rfl ?_|refine ZA ?_|refine QH rfl ?_|refine QD rfl rfl ?_|(refine Zd rfl rfl (fun _=>?_) (fun _=>?_)<;>try (exfalso;omega))|(refine Zq rfl rfl (fun _=>?_) (fun _=>?_)<;>try (exfalso;omega))|refine ZU rfl ?_|refine ZG rfl ?_|refine Zb rfl rfl (by omega) ?_|refine ZH ?_|refine ZP ?_|refine ZI ?_|refine ZO ?_|refine ZY ?_|refine Zt ?_|refine QP ?_|refine Zw ?_|refine Y4 ?_)
  all_goals try (exfalso;omega)
  ·rename_i e
   obtain rfl:x=h:=by omega
   rw [decide_eq_true (jM hx)]
   refine Ze hA (by simp) rfl rfl rfl rfl ?_
   rfl
  ·rename_i e
   exact ⟨i+1,⟨rfl,rfl⟩,⟨by omega,ZgC hx hni (by omega)⟩,by omega⟩
 ·obtain rfl:i=l.length:=by omega
  rw [List.take_length] at hni;rw [decide_eq_false hni]
  repeat' (first|refine ZE ?_|refine ZD ?_|refine ZF rfl ?_|refine ZB rfl ?_|refine ZA ?_|refine QH rfl ?_|(refine Zd rfl rfl (fun _=>?_) (fun _=>?_)<;>try (exfalso;omega))|refine ZG rfl ?_|refine ZP ?_|refine Zn ?_|refine ZO ?_|refine Za ?_|refine ZX rfl ?_|refine Zf ?_)
  all_goals try (exfalso;omega)
  refine Ze hA (by simp) rfl rfl rfl rfl ?_
  rfl
set_option maxHeartbeats 16000000
theorem ZgD:∀ (n:Nat) (l:List Nat),l.Nodup->(∀ x∈l,x<n)->l.length<=n:=by
 intro n
 induction n with
 | zero=>intro l _ h;cases l with
  | nil=>exact Nat.le_refl _
  | cons a l=>have:=h a (by simp);omega
 | succ n ih =>
  intro l hd h
  by_cases hm:n∈l
  ·have := ih (l.erase n) (hd.erase n) (fun x hx => by
    have h1:=h x (List.mem_of_mem_erase hx)
    have h2:x≠n:=fun e=>by subst e;exact hd.not_mem_erase hx
    omega)
   rw [List.length_erase_of_mem hm] at this;omega
  ·have := ih l hd (fun x hx => by
    have h1:=h x hx
    have h2:x≠n:=fun e=>hm (e▸hx)
    omega)
   omega
theorem AROk.few {r:AR} (h:AROk r) {l:List Nat} (hd:l.Nodup) (hl:∀ o∈l,∃ x,lk r.nodes o=some x):l.length<=16384:=by
 have h16:=h.n16
 have key:∀ o∈l,ZFG r o:=fun o ho=>by obtain ⟨x,hx⟩:=hl o ho;exact (h.live hx).1
 have h1:(l.map (· % 65536)).Nodup:=by
  unfold List.Nodup at hd ⊢;rw [List.pairwise_map]
  refine hd.imp_of_mem (fun {p o} hp ho hne e=>hne ?_)
  have a:=(key p hp).2.2;have c:=(key o ho).2.2;rw [e,c] at a
  have:=Option.some.inj a
  omega
 have:=ZgD r.states.length _ h1 (fun x hx=>by
  obtain ⟨o,ho,rfl⟩:=List.mem_map.1 hx
  exact (List.getElem?_eq_some_iff.1 (key o ho).2.1).1)
 rw [List.length_map] at this;omega
def bel (N:ZQ):Nat->Nat->List Nat->List Nat
 | 0,h,s=>if h∈s then s else s++[h]
 | n+1,h,s=>if h∈s then s else (ZFD N h).ks.foldl (fun s k=>bel N n k.at_ s) (s++[h])
structure Visit (τ:List Nat->List Nat->St) (lm mx:Nat) (g:FuncId) (caps:List AV):Prop where
 len:∀ u w u' w',(τ u w).ps.length=(τ u' w').ps.length
 wr:∀ u w,(τ u w).wr lm
 get:∀ u w,(τ u w).get lm mx=some (.map (YU u))
 upd:∀ u w v,(τ u w).upd lm mx (.map (YU v))=τ v w
 call:∀ u w h more L,w.length<1000000000->∃ v,S Tb g ([.int .u64 (h:Nat)]++caps) ⟨(τ u w).ps++more,false,L⟩=some (v,⟨(τ u (w++[h])).ps++more,false,L⟩)
 wk:∀ h:Nat,ZZ (Zg ([]++[.int .u64 (h:Nat)]++caps))=some ([.int .u64 (h:Nat)]++caps)
 wk2:∀ la b h:Nat,ZZ (Zg ([]++[.ptr la b 0 0 0,.int .u64 (h:Nat),.map lm mx,.func (.func g) [] caps]++[]))=some [.ptr la b 0 0 0,.int .u64 (h:Nat),.map lm mx,.func (.func g) [] caps]
theorem ZlP {O:Orc} {k:List Fr} {Q:YY} {e:Env} {L:List Blk} {keep:List Nat} {is:List QAbs.PI} {s0:St} {more:List (Bool × List Blk)} {x i v:Opd} {lv ix h:Nat} {w:AV} {es es':List (AV × AV)} (hx:Zo e x=some (.map lv ix)) (hi:Zo e i=some (.int .u64 h)) (hv:Zo e v=some w) (hw:s0.wr lv) (hg:s0.get lv ix=some (.map es))
 (hs:Zi QU (lv+1) ⟨s0.ps++more,false,L⟩ w=some (w,⟨s0.ps++more,false,L⟩)) (hp:ZIx (.int .u64 h) w es=some es')
 (hh:Is O is keep k Q e ⟨(s0.upd lv ix (.map es')).ps++more,false,L⟩):Is O (⟨none,none,false,.mupd 0 x i v⟩::is) keep k Q e ⟨s0.ps++more,false,L⟩:=by
 have hl:=St.get_le hg;have g':=ZB0 hg more false L;have w':=ZiR hl hw more false L;refine QA (od:=none) (v:=.undef) (st':=St.upd ⟨s0.ps++more,false,L⟩ lv ix (.map es')) ?_ ?_
 ·simp only [Zs,evalPO,ZL hx,ZL hi,ZL hv,ZSY,Y0,if_true,hs,Option.bind_some,ZVl,g',ZS2,hp,St.put_upd w' g',ZBY]
 ·rw [Zf9 hl];exact hh
theorem ZgE {N:ZQ} {n P:Nat} (ih:∀ (h:Nat) (s:List Nat) (x:Nd),lk N h=some x->x.h=n->3*(bel N n h s).length+1<=3*s.length+P):∀ (ks:List Kid) (s:List Nat),(∀ k∈ks,∃ y,lk N k.at_=some y/\y.h=n)->3*(ks.foldl (fun s k=>bel N n k.at_ s) s).length+ks.length<=3*s.length+ks.length*P:=by
 intro ks
 induction ks with
 | nil=>intro s _;simp
 | cons k l ihl =>
  intro s hk;rw [List.foldl_cons]
  obtain ⟨y,y1,y2⟩:=hk k (by simp)
  have a1:=ih k.at_ s y y1 y2
  have a2:=ihl (bel N n k.at_ s) (fun z hz=>hk z (List.mem_cons_of_mem _ hz))
  rw [List.length_cons,Nat.add_mul];omega
theorem ZnS {N:ZQ} (hN:GoodN N):∀ (n h:Nat) (s:List Nat) (x:Nd),lk N h=some x->x.h=n->3*(bel N n h s).length+1<=3*s.length+4 ^ (n+1):=by
 intro n
 induction n with
 | zero =>
  intro h s x hx hh;rw [bel]
  split
  ·omega
  ·rw [List.length_append];simp;omega
 | succ n ih =>
  intro h s x hx hh;rw [bel,JD hx]
  have hp:4 ^ (n+1+1)=4*4 ^ (n+1):=by rw [Nat.pow_succ];omega
  have h1:0<4 ^ (n+1):=Nat.pow_pos (by decide)
  split
  ·omega
  ·have hk4:=(hN h x hx).1.len
   have hkids:=(hN h x hx).2
   have:=ZgE ih x.ks (s++[h]) (fun k hk=>by obtain ⟨_,y,y1,y2,_⟩:=hkids k hk;exact ⟨y,y1,by omega⟩)
   rw [List.length_append,List.length_singleton] at this
   have h3:(4-x.ks.length)*4 ^ (n+1)+x.ks.length*4 ^ (n+1)=4*4 ^ (n+1):=by rw [<- Nat.add_mul];congr 1;omega
   have h4:(4-x.ks.length)*1<=(4-x.ks.length)*4 ^ (n+1):=Nat.mul_le_mul_left _ h1
   generalize 4 ^ (n+1)=P at *
   generalize (4-x.ks.length)*P=P1 at *
   generalize x.ks.length*P=P2 at *
   omega
theorem ZY8 {τ:List Nat->List Nat->St} {lm mx:Nat} {g:FuncId} {caps:List AV} (hV:Visit τ lm mx g caps) {N:ZQ} {la b:Nat} (hR:∀ u w,Rd (τ u w) la (b+5) N) {h:Nat} {x:Nd} (hx:lk N h=some x) (hk4:x.ks.length<=4) (s:List Nat) (hs:h∉s) (f:Kid->List Nat->List Nat) {B:Nat} (hB:B<=900000000)
 (hlen:∀ i,((x.ks.take i).foldl (fun s k=>f k s) (s++[h])).length<=B)
 (hf:∀ k∈x.ks,∀ (s:List Nat) (more:List (Bool × List Blk)) (L:List Blk),s.length<=B->S Tb JQ [.ptr la (b+5) 0 0 0,.int .u64 k.at_,.map lm mx,.func (.func g) [] caps] ⟨(τ s s).ps++more,false,L⟩=some (.int .i64 0,⟨(τ (f k s) (f k s)).ps++more,false,L⟩))
 {more:List (Bool × List Blk)} {st st':St} (hst:st.ps=(τ s s).ps++more) (hst':st'.ps=(τ (x.ks.foldl (fun s k=>f k s) (s++[h])) (x.ks.foldl (fun s k=>f k s) (s++[h]))).ps++more) :
 S Tb JQ [.ptr la (b+5) 0 0 0,.int .u64 h,.map lm mx,.func (.func g) [] caps] st=some (.int .i64 0,st'):=by
 refine ZNQ rfl (fun A hA=>?_)
 have hA2:A=(τ s s).ps++more:=hA.trans hst;clear hA;subst hA2
 have hlk:=fun L=>ZQY (ZB0 (hV.get s s) more false L) h
 simp only [decide_eq_false hs] at hlk;have hl0:=hlen 0;simp only [List.take_zero,List.foldl_nil,List.length_append,List.length_singleton] at hl0
 repeat' (first|refine ZE ?_|refine ZD ?_|refine ZF rfl ?_|refine ZB rfl ?_|refine ZA ?_|refine ZG rfl ?_|refine ZBd rfl rfl (hlk _) ?_|refine ZH ?_)
 all_goals try contradiction
 refine ZlP rfl rfl rfl (hV.wr s s) (hV.get s s) rfl (ZeP h s hs) ?_;rw [hV.upd]
 have hG:=fun L=>Zb6 ((hR (s++[h]) s).more more false L) hx hk4
 have hcp:x.copy.av=.agg [.int .i64 x.h,.str x.text,.lit (x.ks.map Kid.av)]:=rfl;rw [hcp] at hG
 obtain ⟨v,hc⟩:=hV.call (s++[h]) s h more [.arr 3 0 [.agg [.int .i64 x.h,.str x.text,.lit (x.ks.map Kid.av)]]] (by omega)
 generalize hA1:(τ (s++[h]) s).ps++more=A1 at *
 repeat' (first|refine ZC rfl rfl (hV.wk h) hc ?_|refine ZE ?_|refine ZD ?_|refine ZF rfl ?_|refine ZJ rfl rfl ?_|refine Z0 rfl rfl ?_|refine ZB rfl ?_|refine ZA ?_|(refine Zp rfl rfl (fun _=>?_) (fun _=>?_)<;>try (exfalso;omega))|refine ZG rfl ?_|refine Zh rfl rfl rfl ?_|refine Zu rfl rfl rfl rfl rfl rfl ?_|refine ZC rfl rfl rfl (hG _) ?_|refine ZH ?_)
 all_goals try contradiction
 obtain ⟨A2,hA2⟩:∃ A2,A2=(τ (s++[h]) (s++[h])).ps++more:=⟨_,rfl⟩
 have e12:A1.length=A2.length:=by
  have:=hV.len (s++[h]) s (s++[h]) (s++[h])
  rw [<- hA1,hA2];simp only [List.length_append] at this ⊢;omega
 rw [<- hA2,e12]
 repeat' (first|refine ZBX rfl ?_|refine ZF rfl ?_|refine ZS rfl rfl rfl rfl ?_|refine ZB rfl ?_|refine ZA ?_|refine ZI ?_)
 refine Zr (α:=Nat × List Blk) (fun p=>[(0,.ptr la (b+5) 0 0 0),(2,.map lm mx),(3,.func (.func g) [] caps),(32,.lit (x.ks.map Kid.av)),(33,.int .i64 x.ks.length),(34,.int .i64 p.1)])
  (fun p=>⟨(τ ((x.ks.take p.1).foldl (fun s k=>f k s) (s++[h])) ((x.ks.take p.1).foldl (fun s k=>f k s) (s++[h]))).ps++more,false,.arr 3 0 [.agg [.int .i64 x.h,.str x.text,.lit (x.ks.map Kid.av)]]::p.2⟩) (fun p=>p.1<=x.ks.length) (fun p=>x.ks.length-p.1) (0,[]) rfl (by rw [hA2];rfl) (Nat.zero_le _) ?_
 rintro ⟨i,G⟩ hi
 simp only at hi ⊢
 rcases Nat.lt_or_ge i x.ks.length with hlt|hge
 ·obtain ⟨kd,hk⟩:∃ k,x.ks[i]?=some k:=⟨x.ks[i]'hlt,jE _⟩
  have qk:0<=((i:Nat):Int)/\x.ks[((i:Nat):Int).toNat]?=some kd:=⟨by omega,by rw [show ((i:Nat):Int).toNat=i by omega];exact hk⟩
  have hcl:=fun L=>hf kd (jM hk) _ more L (hlen i)
  have hnx:(x.ks.take (i+1)).foldl (fun s k=>f k s) (s++[h])=f kd ((x.ks.take i).foldl (fun s k=>f k s) (s++[h])):=by
   rw [Zm hk,List.foldl_append];rfl
  rw [<- hnx] at hcl
  generalize hP:(τ ((x.ks.take (i+1)).foldl (fun s k=>f k s) (s++[h])) ((x.ks.take (i+1)).foldl (fun s k=>f k s) (s++[h]))).ps++more=P at *
  generalize (τ ((x.ks.take i).foldl (fun s k=>f k s) (s++[h])) ((x.ks.take i).foldl (fun s k=>f k s) (s++[h]))).ps++more=A3 at *
  repeat' (first|refine XL (f:=Kid.av) rfl rfl qk (fun _=>rfl) ?_|refine ZC rfl rfl (hV.wk2 _ _ _) (hcl _) ?_|refine ZE ?_|refine ZD ?_|refine ZF rfl ?_|refine ZJ rfl rfl ?_|refine ZB rfl ?_|refine ZA ?_|refine Qf rfl rfl rfl ?_|refine QD rfl rfl ?_|(refine Zd rfl rfl (fun _=>?_) (fun _=>?_)<;>try (exfalso;omega))|(refine Zp rfl rfl (fun _=>?_) (fun _=>?_)<;>try (exfalso;omega))|refine ZU rfl ?_|refine ZG rfl ?_|refine Zb rfl rfl (by omega) ?_|refine Zy rfl rfl rfl ?_|refine J7 rfl rfl rfl rfl rfl rfl ?_|refine ZH ?_|refine ZI ?_|refine Zt ?_|refine Zw ?_)
  all_goals try contradiction
  all_goals try (exfalso;omega)
  refine ⟨(i+1,G++[.arr 4 0 [kd.av]]),⟨rfl,?_⟩,by simp only;omega,by simp only;omega⟩
  simp only
  rw [hP];rfl
 ·obtain rfl:i=x.ks.length:=by omega
  rw [List.take_length]
  repeat' (first|refine ZE ?_|refine ZD ?_|refine ZF rfl ?_|refine ZB rfl ?_|refine ZA ?_|(refine Zd rfl rfl (fun _=>?_) (fun _=>?_)<;>try (exfalso;omega))|refine ZG rfl ?_|refine ZP ?_|refine Zn ?_|refine ZO ?_|refine Za ?_|refine ZX rfl ?_|refine Zf ?_)
  all_goals try (exfalso;omega)
  refine Ze (st:=st') hst'.symm (.inr rfl) rfl rfl rfl rfl ?_;rfl
theorem ZY9 {τ:List Nat->List Nat->St} {lm mx:Nat} {g:FuncId} {caps:List AV} (hV:Visit τ lm mx g caps) {la b:Nat} {h:Nat} (s:List Nat) (hs:h∈s) {more:List (Bool × List Blk)} {st:St} (hst:st.ps=(τ s s).ps++more) :
 S Tb JQ [.ptr la (b+5) 0 0 0,.int .u64 h,.map lm mx,.func (.func g) [] caps] st=some (.int .i64 0,st):=by
 refine ZNQ rfl (fun A hA=>?_)
 have hA2:A=(τ s s).ps++more:=hA.trans hst;have hA0:=hA;clear hA;subst hA2
 have hlk:=fun L=>ZQY (ZB0 (hV.get s s) more false L) h
 simp only [decide_eq_true hs] at hlk
 repeat' (first|refine ZE ?_|refine ZD ?_|refine ZF rfl ?_|refine ZB rfl ?_|refine ZA ?_|refine ZU rfl ?_|refine ZBd rfl rfl (hlk _) ?_|refine ZP ?_|refine ZO ?_|refine ZY ?_)
 all_goals try contradiction
 refine Ze (st:=st) hA0 (.inr rfl) rfl rfl rfl rfl ?_;rfl
theorem ZlQ {s t:St} (h:s.ps=t.ps):s=t:=by
 obtain ⟨A,r,L⟩:=s;obtain ⟨A',r',L'⟩:=t
 have:=List.append_inj' h rfl
 obtain ⟨rfl,h2⟩:=this;simp only [List.cons.injEq,jP,and_true] at h2;obtain ⟨rfl,rfl⟩:=h2;rfl
theorem ZiT {τ:List Nat->List Nat->St} {lm mx:Nat} {g:FuncId} {caps:List AV} (hV:Visit τ lm mx g caps) {N:ZQ} (hN:GoodN N) {la b:Nat} (hR:∀ u w,Rd (τ u w) la (b+5) N):∀ (n h:Nat) (x:Nd) (s:List Nat),lk N h=some x->x.h=n->s.length+4 ^ (n+1)<=900000000->∀ {more:List (Bool × List Blk)} {st st':St},st.ps=(τ s s).ps++more->st'.ps=(τ (bel N n h s) (bel N n h s)).ps++more ->
 S Tb JQ [.ptr la (b+5) 0 0 0,.int .u64 h,.map lm mx,.func (.func g) [] caps] st=some (.int .i64 0,st'):=by
 intro n
 induction n with
 | zero =>
  intro h x s hx hh hb more st st' hst hst'
  by_cases hm:h∈s
  ·rw [bel,if_pos hm,<- hst] at hst'
   rw [ZlQ hst'];exact ZY9 hV s hm hst
  ·rw [bel,if_neg hm] at hst'
   have hks:x.ks=[]:=by
    rcases (hN h x hx).1 with q|⟨m,ks,q⟩
    ·exact q.ks
    ·have e:=q.eq;subst e;simp at hh
   refine ZY8 hV hR hx (by rw [hks];decide) s hm (fun _ s=>s) (Nat.le_refl _) (fun i=>?_) (fun k hk=>by rw [hks] at hk;simp at hk) hst (by rw [hks];exact hst')
   rw [hks,List.take_nil,List.foldl_nil,List.length_append,List.length_singleton]
   simp at hb;omega
 | succ n ih =>
  intro h x s hx hh hb more st st' hst hst'
  by_cases hm:h∈s
  ·rw [bel,if_pos hm,<- hst] at hst'
   rw [ZlQ hst'];exact ZY9 hV s hm hst
  ·rw [bel,if_neg hm,JD hx] at hst'
   have hk4:=(hN h x hx).1.len;have hkids:=(hN h x hx).2
   have hp:4 ^ (n+1+1)=4*4 ^ (n+1):=by rw [Nat.pow_succ];omega
   have h1:4<=4 ^ (n+1):=by rw [Nat.pow_succ];have:0<4 ^ n:=Nat.pow_pos (by decide);omega
   refine ZY8 hV hR hx hk4 s hm (fun k s=>bel N n k.at_ s) (B:=900000000-4 ^ (n+1)) (by omega) (fun i=>?_) (fun k hk s' more' L hl=>?_) hst hst'
   ·have:=ZgE (ZnS hN n) (x.ks.take i) (s++[h]) (fun k hk=>by obtain ⟨_,y,y1,y2,_⟩:=hkids k (List.mem_of_mem_take hk);exact ⟨y,y1,by omega⟩)
    rw [List.length_append,List.length_singleton] at this
    have hti:(x.ks.take i).length<=4:=by rw [List.length_take];omega
    have h4:(x.ks.take i).length*4 ^ (n+1)<=4*4 ^ (n+1):=Nat.mul_le_mul_right _ hti
    generalize (x.ks.take i).length*4 ^ (n+1)=P2 at *
    generalize 4 ^ (n+1)=P at *
    omega
   ·obtain ⟨_,y,y1,y2,_⟩:=hkids k hk
    exact ih k.at_ y s' y1 (by omega) (by omega) (more:=more'++[(false,L)]) (List.append_assoc ..) (List.append_assoc ..)
theorem ZgF:∀ l:List Tr,(∀ t∈l,4*(t.siz:Int)+4<=t.bytes)->4*(Tr.sizL l:Int)+4*l.length<=Tr.bytesL l
 | [],_=>by simp [Tr.sizL,Tr.bytesL]
 | t::l,h=>by
  have h1:=h t (by simp)
  have h2:=ZgF l fun u hu=>h u (by simp [hu])
  simp only [Tr.sizL,Tr.bytesL,List.length_cons];omega
theorem ZlR {N:ZQ} (hN:GoodN N) {t:Tr} (hv:Val N t):(t.siz:Int)<=t.bytes+1/\(Big t->4*(t.siz:Int)+4<=t.bytes):=by
 have hsz:=hv.size hN;have hps:=hv.pos.2
 induction hv with
 | @kept o h m k x h0 hx hok hh hm hk =>
  have ec:(Tr.mk o h m [] k).siz=1:=by rw [Tr.siz,Tr.sizO_getD,hk];rfl
  have hl:h<=16:=by
   rcases hok with q|⟨n,ks,q⟩
   ·rw [<- hh,q.h];omega
   ·have:=q.n15;have e:=q.eq;subst e;simp only at hh;omega
  rw [ec]
  refine ⟨by omega,fun q=>?_⟩
  have h1:=hsz q;have h2:=(ZE7 hl).1;simp only [Tr.h] at h1;omega
 | @leaf s k h1 h2 hk =>
  have ec:(Tr.mk 0 0 .zero s k).siz=1:=by rw [Tr.siz,Tr.sizO_getD,hk];rfl
  rw [ec]
  refine ⟨by omega,fun q=>?_⟩
  have:=q rfl
  omega
 | @inner h l hh h2 h4 hl hb hv ih =>
  have ec:(Tr.mk 0 (h+1) .zero [] (some l)).siz=Tr.sizL l+1:=by rw [Tr.siz,Tr.sizO];omega
  have eb:(Tr.mk 0 (h+1) .zero [] (some l)).bytes=Tr.bytesL l:=by rw [Tr.bytes,Tr.bytesO];simp [Mea.zero]
  have:=ZgF l fun u hu=>(ih u hu ((hv u hu).size hN) (hv u hu).pos.2).2 (fun q=>hb u hu (by rw [<- hl u hu];exact q))
  rw [ec,eb]
  exact ⟨by omega,fun _=>by omega⟩
theorem ZlS {N:ZQ} {t:Tr} (hv:Val N t):∀ out:List Nat,(∀ h∈out,∃ x,lk N h=some x)->∀ h∈t.kwT out,∃ x,lk N h=some x:=by
 induction hv with
 | @kept o h m k x h0 hx hok hh hm hk =>
  intro out ho a ha;rw [Tr.kwT,Tr.kwO_getD,hk,Tr.kwL] at ha
  split at ha
  ·rcases List.mem_append.1 ha with q|q
   ·exact ho a q
   ·rw [List.mem_singleton.1 q];exact ⟨x,hx⟩
  ·exact ho a ha
 | @leaf s k h1 h2 hk =>
  intro out ho a ha
  rw [Tr.kwT,Tr.kwO_getD,hk,Tr.kwL,if_neg (by simp)] at ha
  exact ho a ha
 | @inner h l hh h2 h4 hl hb hv ih =>
  intro out ho a ha
  rw [Tr.kwT,Tr.kwO,if_neg (by simp)] at ha
  have key:∀ (l:List Tr) (out:List Nat),(∀ t∈l,∀ out:List Nat,(∀ h∈out,∃ x,lk N h=some x)->∀ h∈t.kwT out,∃ x,lk N h=some x)->(∀ h∈out,∃ x,lk N h=some x)->∀ a∈Tr.kwL l out,∃ x,lk N a=some x:=by
   intro l
   induction l with
   | nil=>intro out _ ho a ha;exact ho a ha
   | cons t l ihl =>
    intro out hi ho a ha;rw [Tr.kwL] at ha
    exact ihl (t.kwT out) (fun u hu=>hi u (List.mem_cons_of_mem _ hu)) (hi t (by simp) out ho) a ha
  exact key l out ih ho a ha
theorem Zow (h:Nat) (st:St):S Tb YG [.int .u64 h] st=some (.tup [],st):=by
 refine Z5 rfl (fun A hA=>?_)
 repeat' (first|refine ZH ?_|refine ZO ?_)
 refine Ze hA (by simp) rfl rfl rfl rfl ?_
 rfl
def dr1 (A:List (Bool × List Blk)) (b4 b5 b8:Blk) (u:List Nat):St:=⟨A,false,[b4,b5,b8,.map (YU u),.arr 1 0 [.map A.length 3]]⟩
def dr2 (A:List (Bool × List Blk)) (b4 b5 b8:Blk) (has u o:List Nat):St:=⟨A,false,[b4,b5,b8,.map (YU has),.arr 1 0 [.map A.length 3],.arr 1 o.length (o.map QI),.arr 1 0 [.ref A.length 5 o.length 0 o.length],.map (YU u)]⟩
theorem ZoT (A:List (Bool × List Blk)) (b4 b5 b8:Blk):Visit (fun u _=>dr1 A b4 b5 b8 u) A.length 3 YG [] where
 len _ _ _ _:=by simp [dr1]
 wr _ _:=by simp [St.wr,dr1]
 get _ _:=St.get_cur ..
 upd _ _ _:=by simp [St.upd,dr1]
 call u w h more L _:=⟨_,Zow h _⟩
 wk _:=rfl
 wk2 _ _ _:=rfl
theorem ZoU (A:List (Bool × List Blk)) (b4 b5 b8:Blk) (has u o:List Nat):Cl (dr2 A b4 b5 b8 has u o) [(A.length,5),(A.length,6)] [.arr 1 o.length (o.map QI),.arr 1 0 [.ref A.length 5 o.length 0 o.length]]:=by
 refine ⟨by simp,rfl,fun k hk=>?_,fun j lv ix b h1 h2=>?_⟩
 ·simp only [List.mem_cons,List.not_mem_nil,or_false] at hk
  rcases hk with rfl|rfl<;>simp [St.wr,dr2]
 ·match j,h1,h2 with
  | 0,h1,h2=>obtain ⟨rfl,rfl⟩:=Prod.mk.inj (Option.some.inj h1);obtain rfl:=Option.some.inj h2;exact St.get_cur ..
  | 1,h1,h2=>obtain ⟨rfl,rfl⟩:=Prod.mk.inj (Option.some.inj h1);obtain rfl:=Option.some.inj h2;exact St.get_cur ..
  | n+2,h1,h2=>simp at h1
theorem ZnT (A:List (Bool × List Blk)) (b4 b5 b8:Blk) (has u o o':List Nat):Yq (dr2 A b4 b5 b8 has u o) [(A.length,5),(A.length,6)] [.arr 1 o'.length (o'.map QI),.arr 1 0 [.ref A.length 5 o'.length 0 o'.length]]=dr2 A b4 b5 b8 has u o':=by
 simp [Yq,St.upd,dr2]
theorem Zox (A:List (Bool × List Blk)) (b4 b5 b8:Blk) (has u o:List Nat) (h:Nat) (more:List (Bool × List Blk)) (L:List Blk) (hl:o.length<1000000000) :
 S Tb YH [.int .u64 h,.ptr A.length 4 0 0 0,.ptr A.length 6 0 0 0] ⟨(dr2 A b4 b5 b8 has u o).ps++more,false,L⟩=some (.tup [],⟨(dr2 A b4 b5 b8 has u (if h∈has then o else o++[h])).ps++more,false,L⟩):=by
 have H:=(ZoU A b4 b5 b8 has u o).more more false L;have hm4:St.get ⟨(dr2 A b4 b5 b8 has u o).ps++more,false,L⟩ A.length 4=some (.arr 1 0 [.map A.length 3]):=ZB0 (s:=dr2 A b4 b5 b8 has u o) (St.get_cur ..) more false L;have hm3:St.get ⟨(dr2 A b4 b5 b8 has u o).ps++more,false,L⟩ A.length 3=some (.map (YU has)):=ZB0 (s:=dr2 A b4 b5 b8 has u o) (St.get_cur ..) more false L
 by_cases hm:h∈has
 ·rw [if_pos hm]
  refine Z5 rfl (fun A1 hA=>?_)
  have g4:=fun L'=>ZV hA (ro:=false) (L:=L') hm4
  have hlk:=fun L'=>ZQY (ZV hA (ro:=false) (L:=L') hm3) h
  simp only [decide_eq_true hm] at hlk
  repeat' (first|refine ZE ?_|refine ZD ?_|refine ZF rfl ?_|refine ZB rfl ?_|refine ZA ?_|refine ZG rfl ?_|refine Qs rfl rfl ?_|refine Z8 rfl (g4 _) rfl rfl ?_|refine ZBd rfl rfl (hlk _) ?_|refine ZH ?_|refine ZO ?_)
  all_goals try contradiction
  refine Ze hA (by simp) rfl rfl rfl rfl ?_
  rfl
 ·rw [if_neg hm]
  have e:Yq ⟨(dr2 A b4 b5 b8 has u o).ps++more,false,L⟩ [(A.length,5),(A.length,6)] [.arr 1 (o++[h]).length ((o++[h]).map QI),.arr 1 0 [.ref A.length 5 (o++[h]).length 0 (o++[h]).length]]=⟨(dr2 A b4 b5 b8 has u (o++[h])).ps++more,false,L⟩:=by
   rw [ZcI (fun k hk=>by simp only [List.mem_cons,List.not_mem_nil,or_false] at hk;rcases hk with rfl|rfl<;>exact Nat.le_refl _),ZnT]
  rw [<- e]
  refine ZNQ rfl (fun A1 hA=>?_)
  have hA':A1=(Yq ⟨(dr2 A b4 b5 b8 has u o).ps++more,false,L⟩ [(A.length,5),(A.length,6)] [.arr 1 o.length (o.map QI),.arr 1 0 [.ref A.length 5 o.length 0 o.length]]).ps:=by rw [H.same];exact hA
  have g4:=fun L'=>ZV hA (ro:=false) (L:=L') hm4
  have hlk:=fun L'=>ZQY (ZV hA (ro:=false) (L:=L') hm3) h
  simp only [decide_eq_false hm] at hlk
  have g6:=fun L'=>H.old hA' rfl rfl (ro:=false) (L:=L') (j:=1) rfl rfl
  repeat' (first|refine ZE ?_|refine ZD ?_|refine ZF rfl ?_|refine ZB rfl ?_|refine ZA ?_|refine ZU rfl ?_|refine Qs rfl rfl ?_|refine QR rfl rfl rfl rfl ?_|refine Z8 rfl (g4 _) rfl rfl ?_|refine ZBd rfl rfl (hlk _) ?_|refine Z8 rfl (g6 _) rfl rfl ?_)
  all_goals try contradiction
  refine Zml (es:=o.map QI) (ys:=[.int .u64 h]) H hA' rfl rfl (j:=0) rfl rfl (by rw [List.length_map];rfl) rfl rfl rfl rfl (by rw [List.length_map,List.length_singleton];omega) (by decide) (fun A2 hA2 _=>?_)
  skip
  refine ZoE H hA2 rfl rfl (j:=1) rfl rfl rfl rfl rfl (QX _ (Nat.lt_succ_self _)) rfl (fun A3 hA3 _=>?_)
  repeat' (first|refine ZB rfl ?_|refine ZO ?_)
  have e3:((([Blk.arr 1 o.length (o.map QI),Blk.arr 1 0 [.ref A.length 5 o.length 0 o.length]].set 0 (.arr 1 (o.length+1) (o.map QI++[.int .u64 h]))).set 1 (.arr 1 0 ([AV.ref A.length 5 o.length 0 o.length].set 0 (.ref A.length 5 (o.length+1) 0 ((o.map QI).length+[AV.int .u64 (h:Int)].length))))))=[.arr 1 (o++[h]).length ((o++[h]).map QI),.arr 1 0 [.ref A.length 5 (o++[h]).length 0 (o++[h]).length]]:=by
   simp [QI]
  replace hA3:A3=(Yq ⟨(dr2 A b4 b5 b8 has u o).ps++more,false,L⟩ [(A.length,5),(A.length,6)] [.arr 1 (o++[h]).length ((o++[h]).map QI),.arr 1 0 [.ref A.length 5 (o++[h]).length 0 (o++[h]).length]]).ps:=by rw [<- e3];exact hA3
  refine Ze hA3 (.inl rfl) rfl rfl rfl rfl ?_;rfl
theorem ZoV (A:List (Bool × List Blk)) (b4 b5 b8:Blk) (has:List Nat):Visit (fun u w=>dr2 A b4 b5 b8 has u (w.filter fun h=>decide (h∉has))) A.length 7 YH [.ptr A.length 4 0 0 0,.ptr A.length 6 0 0 0] where
 len _ _ _ _:=by simp [dr2]
 wr _ _:=by simp [St.wr,dr2]
 get _ _:=St.get_cur ..
 upd _ _ _:=by simp [St.upd,dr2]
 call u w h more L hl:=by
  refine ⟨.tup [],(Zox A b4 b5 b8 has u (w.filter fun h=>decide (h∉has)) h more L (Nat.lt_of_le_of_lt (List.length_filter_le ..) hl)).trans ?_⟩
  rw [List.filter_append]
  by_cases hm:h∈has
  ·rw [if_pos hm,show ([h].filter fun h=>decide (h∉has))=[] by simp [hm],List.append_nil]
  ·rw [if_neg hm,show ([h].filter fun h=>decide (h∉has))=[h] by simp [hm]]
 wk _:=rfl
 wk2 _ _ _:=rfl
def ZNB (N:ZQ) (l:List Nat):List Nat:=l.foldl (fun s h=>bel N (ZFD N h).h h s) []
def ZiU (N:ZQ) (r:Ro) (t:Tr):List Nat:=if r.at_=0 then [] else (bel N r.h r.at_ []).filter fun h=>decide (h∉ZNB N (t.kwT []))
theorem ZoW {N:ZQ} (hN:GoodN N) {h:Nat} {x:Nd} (h0:h≠0) (hx:lk N h=some x):x.h<=13 :=
 RtOk.h13 hN (r:=⟨h,x.h,x.mea⟩) (.inr ⟨h0,x,hx,(hN h x hx).1,rfl,rfl⟩)
def Lv (N:ZQ) (l:List Nat):Prop:=l.Nodup/\∀ o∈l,∃ x,lk N o=some x
theorem Lv.snoc {N:ZQ} {l:List Nat} (h:Lv N l) {o:Nat} (ho:∃ x,lk N o=some x) (hn:o∉l):Lv N (l++[o]):=by
 refine ⟨?_,fun a ha=>?_⟩
 ·rw [List.nodup_append]
  refine ⟨h.1,by simp,fun x hx y hy=>?_⟩
  rw [List.mem_singleton] at hy;intro e;rw [e,hy] at hx;exact hn hx
 ·rcases List.mem_append.1 ha with q|q
  ·exact h.2 a q
  ·rw [List.mem_singleton.1 q];exact ho
theorem ZoX {N:ZQ} (hN:GoodN N):∀ (n h:Nat) (s:List Nat) (x:Nd),lk N h=some x->x.h=n->Lv N s->Lv N (bel N n h s):=by
 intro n
 induction n with
 | zero =>
  intro h s x hx hh hs;rw [bel]
  split
  ·exact hs
  ·rename_i q;exact hs.snoc ⟨x,hx⟩ q
 | succ n ih =>
  intro h s x hx hh hs;rw [bel,JD hx]
  split
  ·exact hs
  ·rename_i q
   have key:∀ (ks:List Kid) (s:List Nat),(∀ k∈ks,∃ y,lk N k.at_=some y/\y.h=n)->Lv N s->Lv N (ks.foldl (fun s k=>bel N n k.at_ s) s):=by
    intro ks
    induction ks with
    | nil=>intro s _ h;exact h
    | cons k l ihl =>
     intro s hk h
     obtain ⟨y,y1,y2⟩:=hk k (by simp)
     exact ihl _ (fun z hz=>hk z (List.mem_cons_of_mem _ hz)) (ih k.at_ s y y1 y2 h)
   exact key x.ks _ (fun k hk=>by obtain ⟨_,y,y1,y2,_⟩:=(hN h x hx).2 k hk;exact ⟨y,y1,by omega⟩) (hs.snoc ⟨x,hx⟩ q)
theorem ZnU {N:ZQ} (hN:GoodN N) {l:List Nat} (hl:∀ h∈l,∃ x,lk N h=some x):Lv N (ZNB N l):=by
 have key:∀ (l s:List Nat),(∀ h∈l,∃ x,lk N h=some x)->Lv N s->Lv N (l.foldl (fun s h=>bel N (ZFD N h).h h s) s):=by
  intro l
  induction l with
  | nil=>intro s _ h;exact h
  | cons a l ih =>
   intro s hl h
   obtain ⟨x,hx⟩:=hl a (by simp)
   refine ih _ (fun z hz=>hl z (List.mem_cons_of_mem _ hz)) ?_
   show Lv N (bel N (ZFD N a).h a s)
   rw [JD hx];exact ZoX hN _ a s x hx rfl h
 exact key l [] hl ⟨by simp,by simp⟩
theorem Zhk {N:ZQ} (hN:∀ o x,lk N o=some x->o≠0) {t:Tr} (hv:VE N t):∀ h∈t.kwT [],h≠0/\∃ x,lk N h=some x:=by
 intro h hh
 rcases hv with q|q
 ·obtain ⟨o,th,m,s,k⟩:=t
  have e1:=q.old;have e2:=q.ks;simp only [Tr.old,Tr.ks] at e1 e2;rw [Tr.kwT,Tr.kwO_getD,e2,Tr.kwL,e1] at hh
  simp at hh
 ·obtain ⟨x,hx⟩:=ZlS q [] (by simp) h hh
  exact ⟨hN h x hx,x,hx⟩
theorem ZeS {N:ZQ} (hN:GoodN N) {t:Tr} (hv:VE N t) (hb:t.bytes<=65536):t.siz<4294967296:=by
 rcases hv with q|q
 ·obtain ⟨o,th,m,s,k⟩:=t
  have e2:=q.ks;simp only [Tr.ks] at e2;rw [Tr.siz,Tr.sizO_getD,e2,Tr.sizL];omega
 ·have:=(ZlR hN q).1;omega
theorem ZjY {st:St} {la b:Nat} {N:ZQ} (hN:GoodN N) (hK:∀ l,Lv N l->l.length<=16384) (hz:∀ o x,lk N o=some x->o≠0) (hR:Rd st la (b+5) N) {r:Ro} (hr:RtOk N r) {t:Tr} (hv:VE N t) (hb:t.bytes<=65536) :
 S Tb ZCC [.ptr la (b+5) 0 0 0,r.av,t.av] st=some (.tup [.lit ((ZiU N r t).map QI),.int .i64 0],st):=by
 refine Z5 rfl (fun A hA=>?_)
 have hRA:=fun L=>hR.push hA (ro:=false) (L:=L)
 have hKp:=fun L=>ZnN (hRA L) hr
 have hCk:=fun L=>ZFB (hRA L) hv hb
 have hKt:=fun st=>ZlK hv.pos.1 (ZeS hN hv hb) st
 have hkw:=Zhk hz hv;have hkl:=Tr.kwT_len t [];have hsz:=ZeS hN hv hb;unfold ZiU
 generalize t.kwT []=kl at *
 simp only [List.length_nil] at hkl
 have hP13:∀ n,n<=13->4 ^ (n+1)<=268435456:=fun n hn=>by
  have:4 ^ (n+1)<=4 ^ 14:=Nat.pow_le_pow_right (by decide) (by omega)
  exact this
 have hB1:∀ (i h:Nat),kl[i]?=some h->S Tb JQ [.ptr la (b+5) 0 0 0,.int .u64 h,.map A.length 3,.func (.func YG) [] []] (dr1 A (.arr 5 0 [r.av]) (.arr 7 0 [t.av]) (.arr 7 0 [(ZBC r).av]) (ZNB N (kl.take i)))=some (.int .i64 0,dr1 A (.arr 5 0 [r.av]) (.arr 7 0 [t.av]) (.arr 7 0 [(ZBC r).av]) (ZNB N (kl.take (i+1)))):=by
  intro i h hi;obtain ⟨h0,x,hx⟩:=hkw h (jM hi)
  have hlv:=ZnU hN (l:=kl.take i) (fun z hz=>(hkw z (List.mem_of_mem_take hz)).2)
  have:=hK _ hlv
  have:=hP13 _ (ZoW hN h0 hx)
  have e:ZNB N (kl.take (i+1))=bel N x.h h (ZNB N (kl.take i)):=by
   rw [Zm hi];unfold ZNB;rw [List.foldl_append,List.foldl_cons,List.foldl_nil,JD hx]
  rw [e]
  exact ZiT (ZoT A _ _ _) hN (fun _ _=>hRA _) x.h h x _ hx rfl (by omega) (more:=[]) (List.append_nil _).symm (List.append_nil _).symm
 have hB2:r.at_≠0->S Tb JQ [.ptr la (b+5) 0 0 0,.int .u64 r.at_,.map A.length 7,.func (.func YH) [] [.ptr A.length 4 0 0 0,.ptr A.length 6 0 0 0]] (dr2 A (.arr 5 0 [r.av]) (.arr 7 0 [t.av]) (.arr 7 0 [(ZBC r).av]) (ZNB N kl) [] [])=some (.int .i64 0,dr2 A (.arr 5 0 [r.av]) (.arr 7 0 [t.av]) (.arr 7 0 [(ZBC r).av]) (ZNB N kl) (bel N r.h r.at_ []) ((bel N r.h r.at_ []).filter fun h=>decide (h∉ZNB N kl))):=by
  intro h0
  obtain ⟨x,x1,x2,x3,x4⟩:∃ x,lk N r.at_=some x/\NdOk x/\x.h=r.h/\x.mea=r.m:=by
   rcases hr with rfl|w
   ·exact absurd rfl h0
   ·exact w.2
  have:=hP13 _ (hr.h13 hN)
  exact ZiT (ZoV A (.arr 5 0 [r.av]) (.arr 7 0 [t.av]) (.arr 7 0 [(ZBC r).av]) (ZNB N kl)) hN (fun _ _=>hRA _) r.h r.at_ x [] x1 x3 (by simp only [List.length_nil];omega) (more:=[]) (List.append_nil _).symm (List.append_nil _).symm
 have hkll:kl.length<1000000000:=by
  have:kl.length<=t.siz:=by omega
  have h2:(t.siz:Int)<=65537:=by
   rcases hv with q|q
   ·obtain ⟨o,th,m,s,k⟩:=t
    have e2:=q.ks;simp only [Tr.ks] at e2;rw [Tr.siz,Tr.sizO_getD,e2,Tr.sizL];decide
   ·have:=(ZlR hN q).1;omega
  omega
 unfold dr1 at hB1;unfold dr2 at hB2;obtain ⟨ra,rh,rm⟩:=r
 unfold Ro.av at *
 generalize ZBC ⟨ra,rh,rm⟩=kt at *
 repeat' (first|refine ZE ?_|refine ZD ?_|refine ZF rfl ?_|refine ZS rfl rfl rfl rfl ?_|refine Z0 rfl rfl ?_|refine ZB rfl ?_|refine ZA ?_|(refine Zp rfl rfl (fun _=>?_) (fun _=>?_)<;>try (exfalso;omega))|refine ZG rfl ?_|refine Zh rfl rfl rfl ?_|refine ZOp rfl ?_|refine ZC rfl rfl (by first|rfl|(simp only [List.nil_append,List.append_nil,List.cons_append,Zg,ZW,ZZ];first|done|rfl)) (hKp _) ?_|refine ZC rfl rfl (by first|rfl|(simp only [List.nil_append,List.append_nil,List.cons_append,Zg,ZW,ZZ];first|done|rfl)) (hCk _) ?_|refine ZS rfl rfl rfl (Zl _) ?_|refine Zu rfl rfl rfl (QC _ _ _) (QT _ _) rfl ?_|refine Zy rfl (Zv _) (QB _) ?_|refine ZH ?_)
 all_goals try contradiction
 refine Zu rfl rfl rfl (by simp only [Zi,QU,if_pos (Nat.lt_succ_self _)]) rfl rfl ?_
 repeat' (first|refine ZS rfl rfl rfl (Zl _) ?_|refine ZBX rfl ?_|refine ZE ?_|refine ZD ?_|refine ZF rfl ?_|refine ZB rfl ?_|refine ZA ?_|refine ZC rfl rfl (by first|rfl|(simp only [List.nil_append,List.append_nil,List.cons_append,Zg,ZW,ZZ];first|done|rfl)) (hKt _) ?_|refine ZI ?_)
 refine Zr (α:=Nat) (fun i=>[(0,.ptr la (b+5) 0 0 0),(4,.ptr A.length 0 0 0 0),(11,.ptr A.length 4 0 0 0),(34,.lit (kl.map QI)),(35,.int .i64 kl.length),(36,.int .i64 i)])
  (fun i=>⟨A,false,[.arr 5 0 [Ro.av ⟨ra,rh,rm⟩],.arr 7 0 [t.av],.arr 7 0 [kt.av],.map (YU (ZNB N (kl.take i))),.arr 1 0 [.map A.length 3]]⟩) (fun i=>i<=kl.length) (fun i=>kl.length-i) 0 rfl rfl (Nat.zero_le _) ?_
 intro i hi;replace hi:i<=kl.length:=hi;unfold Ro.av
 rcases Nat.lt_or_ge i kl.length with hlt|hge
 ·obtain ⟨h,hh⟩:∃ x,kl[i]?=some x:=⟨kl[i]'hlt,jE _⟩
  have q:0<=((i:Nat):Int)/\kl[((i:Nat):Int).toNat]?=some h:=⟨by omega,by rw [show ((i:Nat):Int).toNat=i by omega];exact hh⟩
  have hB:=hB1 i h hh
  repeat' (first|refine XL (f:=QI) rfl rfl q (fun _=>rfl) ?_|refine ZC rfl rfl rfl hB ?_|refine ZE ?_|refine ZD ?_|refine ZF rfl ?_|refine ZS rfl rfl rfl rfl ?_|refine ZB rfl ?_|refine ZA ?_|refine QD rfl rfl ?_|(refine Zd rfl rfl (fun _=>?_) (fun _=>?_)<;>try (exfalso;omega))|(refine Zp rfl rfl (fun _=>?_) (fun _=>?_)<;>try (exfalso;omega))|refine ZU rfl ?_|refine ZG rfl ?_|refine Zb rfl rfl (by omega) ?_|refine ZH ?_|refine ZI ?_|refine Zt ?_|refine Zw ?_)
  all_goals try contradiction
  all_goals try (exfalso;omega)
  exact ⟨i+1,⟨rfl,rfl⟩,by omega,by omega⟩
 ·obtain rfl:i=kl.length:=by omega
  rw [List.take_length]
  by_cases h0:ra=0
  ·subst h0
   repeat' (first|refine ZY1 ?_|refine ZE ?_|refine ZD ?_|refine ZF rfl ?_|refine ZJ rfl rfl ?_|refine ZS rfl rfl rfl rfl ?_|refine ZB rfl ?_|refine ZA ?_|(refine Zd rfl rfl (fun _=>?_) (fun _=>?_)<;>try (exfalso;omega))|(refine Zq rfl rfl (fun _=>?_) (fun _=>?_)<;>try (exfalso;omega))|refine ZU rfl ?_|refine ZG rfl ?_|refine ZI6 rfl rfl ?_|refine ZOp rfl ?_|refine ZH ?_|refine ZP ?_|refine Zn ?_|refine ZO ?_|refine ZY ?_|refine Za ?_|refine ZX rfl ?_|refine Zf ?_)
   all_goals try contradiction
   all_goals try (exfalso;omega)
   refine Ze hA (by simp) rfl rfl rfl rfl ?_
   rfl
  ·have hB:=hB2 h0
   have h0i:((ra:Nat):Int)≠0:=by omega
   simp only [if_neg h0]
   generalize (bel N rh ra []).filter (fun h=>decide (h∉ZNB N kl))=out at *
   repeat' (first|refine ZY1 ?_|refine ZC rfl rfl rfl hB ?_|refine ZE ?_|refine ZD ?_|refine ZF rfl ?_|refine ZJ rfl rfl ?_|refine ZS rfl rfl rfl rfl ?_|refine ZB rfl ?_|refine ZA ?_|(refine Zd rfl rfl (fun _=>?_) (fun _=>?_)<;>try (exfalso;omega))|(refine Zq rfl rfl (fun _=>?_) (fun _=>?_)<;>try (exfalso;omega))|(refine Zp rfl rfl (fun _=>?_) (fun _=>?_)<;>try (exfalso;omega))|refine ZG rfl ?_|refine ZI6 rfl rfl ?_|refine ZOp rfl ?_|refine ZH ?_|refine ZP ?_|refine Zn ?_|refine ZO ?_|refine Za ?_|refine ZX rfl ?_|refine Zf ?_)
   all_goals try contradiction
   all_goals try (exfalso;omega)
   exact ZWV hA (.inr rfl) rfl rfl (by simp) (fun v hv=>by obtain ⟨x,_,rfl⟩:=List.mem_map.1 hv;rfl) rfl rfl
theorem Xi:∀ (v w:List Nat) (x:Nat),x∈v.foldl Ja w↔x∈w\/x∈v
 | [],w,x=>by simp
 | a::v,w,x=>by
  rw [List.foldl_cons,Xi v (Ja w a) x,ZcJ,List.mem_cons]
  constructor
  ·rintro ((h|h)|h)<;>simp [h]
  ·rintro (h|h|h)<;>simp [h]
theorem ZNT:∀ (v w:List Nat),(∀ x∈v,x∈w)->v.foldl Ja w=w
 | [],w,_=>rfl
 | a::v,w,h=>by
  rw [List.foldl_cons,show Ja w a=w by unfold Ja;rw [if_pos (h a (by simp))]]
  exact ZNT v w (fun x hx=>h x (by simp [hx]))
theorem ZS0 (p:Nat->Bool):∀ (v w:List Nat),(v.filter p).foldl Ja (w.filter p)=(v.foldl Ja w).filter p
 | [],w=>rfl
 | a::v,w=>by
  rw [List.foldl_cons,<- ZS0 p v (Ja w a)]
  have e:(Ja w a).filter p=if p a=true then Ja (w.filter p) a else w.filter p:=by
   unfold Ja
   by_cases q:a∈w
   ·rw [if_pos q]
    split
    ·rename_i hp;rw [if_pos (List.mem_filter.2 ⟨q,hp⟩)]
    ·rfl
   ·rw [if_neg q,List.filter_append]
    split
    ·rename_i hp
     rw [if_neg (fun h=>q (List.mem_filter.1 h).1)]
     simp [List.filter_cons,hp]
    ·rename_i hp
     simp [List.filter_cons,hp]
  rw [e,List.filter_cons]
  split
  ·rw [List.foldl_cons]
  ·rfl
theorem ZeT (p:Nat->Bool) (v:List Nat):Yg (v.filter p)=(Yg v).filter p:=ZS0 p v []
theorem ZeU {N:ZQ} (hN:GoodN N):∀ (n h:Nat) (x:Nd),lk N h=some x->x.h=n->∀ o∈JB N n h,∃ y,lk N o=some y/\y.h<=n/\∀ z∈JB N y.h o,z∈JB N n h:=by
 intro n
 induction n with
 | zero =>
  intro h x hx hh o ho;rw [JB,List.mem_singleton] at ho;subst ho
  exact ⟨x,hx,by omega,fun z hz=>by rw [hh] at hz;exact hz⟩
 | succ n ih =>
  intro h x hx hh o ho;have hg:=(hN h x hx).2;rw [JB,JD hx,List.mem_cons] at ho
  rcases ho with rfl|ho
  ·exact ⟨x,hx,by omega,fun z hz=>by rw [hh] at hz;exact hz⟩
  ·obtain ⟨k,hk,ho⟩:=List.mem_flatMap.1 ho
   obtain ⟨_,y,y1,y2,_⟩:=hg k hk
   obtain ⟨w,w1,w2,w3⟩:=ih k.at_ y y1 (by omega) o ho
   refine ⟨w,w1,by omega,fun z hz=>?_⟩
   rw [JB,JD hx,List.mem_cons];exact .inr (List.mem_flatMap.2 ⟨k,hk,w3 z hz⟩)
def ClN (N:ZQ) (n:Nat) (s:List Nat):Prop:=∀ o∈s,∀ y,lk N o=some y->y.h<=n->∀ z∈JB N y.h o,z∈s
theorem ZiV {N:ZQ} (hN:GoodN N):∀ (n h:Nat) (x:Nd) (s:List Nat),lk N h=some x->x.h=n->ClN N n s->bel N n h s=(JB N n h).foldl Ja s/\ClN N n (bel N n h s):=by
 intro n
 induction n with
 | zero =>
  intro h x s hx hh hs
  have e:bel N 0 h s=(JB N 0 h).foldl Ja s:=by rw [bel,JB];rfl
  refine ⟨e,?_⟩;rw [e];intro o ho y hy hy0 z hz;rw [Xi] at ho ⊢
  rcases ho with ho|ho
  ·exact .inl (hs o ho y hy hy0 z hz)
  ·obtain ⟨w,w1,w2,w3⟩:=ZeU hN 0 h x hx hh o ho
   rw [hy] at w1;obtain rfl:=Option.some.inj w1;exact .inr (w3 z hz)
 | succ n ih =>
  intro h x s hx hh hs;have hg:=(hN h x hx).2;rw [bel]
  by_cases hm:h∈s
  ·rw [if_pos hm]
   refine ⟨(ZNT _ _ (fun z hz=>hs h hm x hx (by omega) z (by rw [hh];exact hz))).symm,hs⟩
  ·rw [if_neg hm]
   have key:∀ (ks:List Kid) (s:List Nat),(∀ k∈ks,k∈x.ks)->ClN N n s->ks.foldl (fun s k=>bel N n k.at_ s) s=(ks.flatMap fun k=>JB N n k.at_).foldl Ja s/\ClN N n (ks.foldl (fun s k=>bel N n k.at_ s) s):=by
    intro ks
    induction ks with
    | nil=>intro s _ hc;exact ⟨rfl,hc⟩
    | cons k ks ihk =>
     intro s hk hc
     obtain ⟨_,y,y1,y2,_⟩:=hg k (hk k (by simp))
     obtain ⟨b1,b2⟩:=ih k.at_ y s y1 (by omega) hc
     rw [List.foldl_cons,List.flatMap_cons,List.foldl_append,<- b1]
     exact ihk _ (fun z hz=>hk z (by simp [hz])) b2
   have hc:ClN N n (s++[h]):=by
    intro o ho y hy hyn z hz
    rcases List.mem_append.1 ho with ho|ho
    ·exact List.mem_append.2 (.inl (hs o ho y hy (by omega) z hz))
    ·rw [List.mem_singleton] at ho
     subst ho;rw [hx] at hy;obtain rfl:=Option.some.inj hy;omega
   rw [JD hx]
   obtain ⟨k1,k2⟩:=key x.ks (s++[h]) (fun k hk=>hk) hc
   have e:x.ks.foldl (fun s k=>bel N n k.at_ s) (s++[h])=(JB N (n+1) h).foldl Ja s:=by
    rw [k1,JB,JD hx,List.foldl_cons,show Ja s h=s++[h] by unfold Ja;rw [if_neg hm]]
   refine ⟨e,?_⟩;rw [e];intro o ho y hy hyn z hz;rw [Xi] at ho ⊢
   rcases ho with ho|ho
   ·exact .inl (hs o ho y hy hyn z hz)
   ·obtain ⟨w,w1,w2,w3⟩:=ZeU hN (n+1) h x hx hh o ho
    rw [hy] at w1;obtain rfl:=Option.some.inj w1;exact .inr (w3 z hz)
theorem ZlT {N:ZQ} (hN:GoodN N) {h:Nat} {x:Nd} (hx:lk N h=some x):bel N x.h h []=Yg (JB N x.h h) :=
 (ZiV hN x.h h x [] hx rfl (fun o ho=>by simp at ho)).1
theorem ZgG {N:ZQ} (hN:GoodN N) (l:List Nat) (hl:∀ h∈l,∃ x,lk N h=some x) (o:Nat):o∈ZNB N l↔∃ k∈l,o∈JB N (ZFD N k).h k:=by
 have key:∀ (l:List Nat) (s:List Nat),(∀ h∈l,∃ x,lk N h=some x)->(∀ n,ClN N n s)->(∀ n,ClN N n (l.foldl (fun s h=>bel N (ZFD N h).h h s) s))/\∀ o,o∈l.foldl (fun s h=>bel N (ZFD N h).h h s) s↔o∈s\/∃ k∈l,o∈JB N (ZFD N k).h k:=by
  intro l
  induction l with
  | nil=>intro s _ hc;exact ⟨hc,fun o=>by simp⟩
  | cons a l ih =>
   intro s hl hc
   obtain ⟨x,hx⟩:=hl a (by simp)
   rw [List.foldl_cons,JD hx];obtain ⟨b1,b2⟩:=ZiV hN x.h a x s hx rfl (hc _)
   have hc2:∀ n,ClN N n (bel N x.h a s):=by
    intro n o ho y hy hyn z hz;rw [b1,Xi] at ho ⊢
    rcases ho with ho|ho
    ·exact .inl (hc n o ho y hy hyn z hz)
    ·obtain ⟨w,w1,w2,w3⟩:=ZeU hN x.h a x hx rfl o ho
     rw [hy] at w1;obtain rfl:=Option.some.inj w1;exact .inr (w3 z hz)
   obtain ⟨i1,i2⟩:=ih _ (fun h hh=>hl h (by simp [hh])) hc2
   refine ⟨i1,fun o=>?_⟩
   rw [i2,b1,Xi]
   constructor
   ·rintro ((h|h)|⟨k,hk,h⟩)
    ·exact .inl h
    ·exact .inr ⟨a,by simp,by rw [JD hx];exact h⟩
    ·exact .inr ⟨k,by simp [hk],h⟩
   ·rintro (h|⟨k,hk,h⟩)
    ·exact .inl (.inl h)
    ·rcases List.mem_cons.1 hk with rfl|hk
     ·rw [JD hx] at h;exact .inl (.inr h)
     ·exact .inr ⟨k,hk,h⟩
 have:=(key l [] hl (fun n o ho=>by simp at ho)).2 o
 unfold ZNB;rw [this];simp
namespace Tr
mutual
def und (N:ZQ):Tr->List Nat
 | .mk o _ _ _ k=>if o=0 then undO N k else JB N (ZFD N o).h o
def undO (N:ZQ):Option (List Tr)->List Nat
 | none=>[]
 | some l=>undL N l
def undL (N:ZQ):List Tr->List Nat
 | []=>[]
 | t::l=>t.und N++undL N l
end
theorem undO_getD (N:ZQ) (k:Option (List Tr)):undO N k=undL N (k.getD []):=by cases k<;>rfl
end Tr
theorem ZoY {N:ZQ} {t:Tr} (hv:Val N t):∀ (out:List Nat) (o:Nat),(∃ k∈t.kwT out,o∈JB N (ZFD N k).h k)↔(∃ k∈out,o∈JB N (ZFD N k).h k)\/o∈t.und N:=by
 induction hv with
 | @kept a h m k x h0 hx hok hh hm hk =>
  intro out o;rw [Tr.kwT,Tr.kwO_getD,hk,Tr.kwL,Tr.und,if_neg h0]
  by_cases q:a∈out
  ·rw [if_neg (fun w=>w.2 q)]
   constructor
   ·exact .inl
   ·rintro (h|h)
    ·exact h
    ·exact ⟨a,q,h⟩
  ·rw [if_pos ⟨h0,q⟩]
   constructor
   ·rintro ⟨k,hk,h⟩
    rcases List.mem_append.1 hk with hk|hk
    ·exact .inl ⟨k,hk,h⟩
    ·rw [List.mem_singleton] at hk;subst hk;exact .inr h
   ·rintro (⟨k,hk,h⟩|h)
    ·exact ⟨k,by simp [hk],h⟩
    ·exact ⟨a,by simp,h⟩
 | @leaf s k h1 h2 hk =>
  intro out o
  rw [Tr.kwT,Tr.kwO_getD,hk,Tr.kwL,Tr.und,if_pos rfl,Tr.undO_getD,hk,Tr.undL,if_neg (by simp)]
  simp
 | @inner h l hh h2 h4 hl hb hv ih =>
  intro out o
  rw [Tr.kwT,Tr.kwO,Tr.und,if_pos rfl,Tr.undO,if_neg (by simp)]
  have key:∀ (l:List Tr),(∀ t∈l,∀ (out:List Nat) (o:Nat),(∃ k∈t.kwT out,o∈JB N (ZFD N k).h k)↔(∃ k∈out,o∈JB N (ZFD N k).h k)\/o∈t.und N)->∀ (out:List Nat),(∃ k∈Tr.kwL l out,o∈JB N (ZFD N k).h k)↔(∃ k∈out,o∈JB N (ZFD N k).h k)\/o∈Tr.undL N l:=by
   intro l
   induction l with
   | nil=>intro _ out;rw [Tr.kwL,Tr.undL];simp
   | cons a l ihl =>
    intro hl out
    rw [Tr.kwL,Tr.undL,ihl (fun t ht=>hl t (by simp [ht])),hl a (by simp),List.mem_append,or_assoc]
  exact key l ih out
theorem ZiW {N:ZQ} (hN:GoodN N) (hz:∀ o x,lk N o=some x->o≠0) {t:Tr} (hv:VE N t) (o:Nat):o∈ZNB N (t.kwT [])↔o∈t.und N:=by
 rw [ZgG hN _ (fun h hh=>(Zhk hz hv h hh).2)]
 rcases hv with h|h
 ·obtain ⟨a,h',m,s,k⟩:=t
  obtain ⟨h1,h2,h3,h4,h5⟩:=h
  simp only [Tr.old,Tr.h,Tr.m,Tr.text,Tr.ks] at *
  subst h1
  rw [Tr.kwT,Tr.kwO_getD,h5,Tr.kwL,Tr.und,if_pos rfl,Tr.undO_getD,h5,Tr.undL,if_neg (by simp)]
  simp
 ·rw [ZoY h];simp
theorem ZlU {N:ZQ} (hN:GoodN N) (hz:∀ o x,lk N o=some x->o≠0) {r:Ro} (hr:RtOk N r) {t:Tr} (hv:VE N t):ZiU N r t=Yg ((XV N r).filter fun o=>decide (o∉t.und N)):=by
 unfold ZiU XV
 split
 ·rfl
 ·rename_i h0
  obtain ⟨x,x1,x2,x3,x4⟩:∃ x,lk N r.at_=some x/\NdOk x/\x.h=r.h/\x.mea=r.m:=by
   rcases hr with rfl|w
   ·exact absurd rfl h0
   ·exact w.2
  rw [ZeT,<- x3,ZlT hN x1]
  refine List.filter_congr fun o _=>?_
  rw [decide_eq_decide,ZiW hN hz hv]
theorem ZjZ (t:Tr):∀ out:List Nat,out.Nodup->(t.kwT out).Nodup:=by
 induction t using Tr.ind with
 | step o h m s k ih =>
  intro out hout;rw [Tr.kwT,Tr.kwO_getD]
  have key:∀ (l:List Tr),(∀ t∈l,∀ out:List Nat,out.Nodup->(t.kwT out).Nodup)->∀ out:List Nat,out.Nodup->(Tr.kwL l out).Nodup:=by
   intro l
   induction l with
   | nil=>intro _ out ho;exact ho
   | cons a l ihl =>
    intro hl out ho;rw [Tr.kwL]
    exact ihl (fun t ht=>hl t (by simp [ht])) _ (hl a (by simp) out ho)
  refine key _ ih _ ?_
  split
  ·rename_i q
   rw [List.nodup_append]
   exact ⟨hout,by simp,fun x hx y hy e=>by rw [List.mem_singleton] at hy;subst hy;subst e;exact q.2 hx⟩
  ·exact hout
end Go.Q15
