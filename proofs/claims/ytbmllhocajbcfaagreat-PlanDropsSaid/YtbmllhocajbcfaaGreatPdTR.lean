/- A part of the proof: PDb, M33, M34, M37, M35, M36, M38, M39, M41, M43, PPa, SSd, SSe, SSf, SSg, SSh, SSi, SSj, SSk, PDc, PDd, FY, FYt, TYd. No condition. -/
import Derived.SliceStrings
import Derived.Deep.Slices
import Derived.Carry
import Derived.Test.YtbmllhocajbcfaaGreatPdT8
set_option linter.unusedVariables false
set_option linter.unusedSimpArgs false
namespace Go.Q15
open Go Go.QAbs
set_option maxRecDepth 100000
set_option maxHeartbeats 16000000
theorem ZlV {st:St} {lv ix ver n:Nat} {l:List Nat} (hn:n=l.length) (hg:st.get lv ix=some (.arr 1 ver (l.map QI))) (hb:l.length<1000000000) :
 S Tb Xw [.ref lv ix ver 0 n] st=some (.lit ((Yg l).map QI),st):=by
 subst hn
 refine Z5 rfl (fun A hA=>?_)
 have g0:=fun L=>ZV hA (ro:=false) (L:=L) hg
 have hwi:∀ L,wIs 1 ver (St.get ⟨A,false,L⟩ lv ix)=true:=fun L=>by rw [g0];simp [wIs]
 repeat' (first|refine ZE ?_|refine ZD ?_|refine ZF rfl ?_|refine ZB rfl ?_|refine ZA ?_|refine JP rfl ?_|refine ZI ?_)
 refine Zr (α:=Nat) (fun i=>[(0,.ref lv ix ver 0 l.length),(3,.ref A.length 0 (Yg (l.take i)).length 0 (Yg (l.take i)).length),(4,.int .i64 i)]) (fun i=>⟨A,false,[.arr 1 (Yg (l.take i)).length ((Yg (l.take i)).map QI)]⟩) (fun i=>i<=l.length) (fun i=>l.length-i) 0 rfl rfl (by omega) ?_
 rintro i hi
 replace hi:i<=l.length:=hi;have hw:=(ZY7 (l.take i)).2.2;rw [List.length_take,Nat.min_eq_left hi] at hw
 rcases Nat.lt_or_ge i l.length with hlt|hge
 ·obtain ⟨x,hx⟩:∃ x,l[i]?=some x:=⟨l[i]'hlt,jE _⟩
  have q1:(l.map QI)[0+((i:Nat):Int).toNat]?=some (AV.int .u64 x):=by
   rw [show 0+((i:Nat):Int).toNat=i by omega,jG,hx];rfl
  have hs:Yg (l.take (i+1))=Ja (Yg (l.take i)) x:=by rw [Zm hx,Zhj]
  generalize Yg (l.take i)=w at *
  have hH:=ZnR (st:=⟨A,false,[.arr 1 w.length (w.map QI)]⟩) (lv:=A.length) (ix:=0) (ver:=w.length) (l:=w) rfl (St.get_cur ..) (by omega) x
  have hl2:(w.map QI).length+[AV.int .u64 (x:Int)].length<4294967296:=by simp;omega
  have hl3:w.length=(w.map QI).length:=by simp
  by_cases hm:x∈w
  ·simp only [decide_eq_true hm] at hH
   repeat' (first|refine Qg rfl rfl (by omega) (hwi _) ?_|refine Z8 rfl (g0 _) q1 rfl ?_|refine ZE ?_|refine ZD ?_|refine ZF rfl ?_|refine ZB rfl ?_|refine ZA ?_|refine QJ rfl ?_|(refine Zd rfl rfl (fun _=>?_) (fun _=>?_)<;>try (exfalso;omega))|refine ZU rfl ?_|refine ZG rfl ?_|refine Qs rfl rfl ?_|refine Zb rfl rfl (by omega) ?_|refine ZC rfl rfl rfl (hH) ?_|refine ZH ?_|refine ZI ?_|refine Zt ?_|refine Zw ?_)
   all_goals try (exfalso;omega)
   all_goals try contradiction
   refine ⟨i+1,⟨?_,?_⟩,by omega,by omega⟩
   ·rw [hs];unfold Ja;rw [if_pos hm];rfl
   ·rw [hs];unfold Ja;rw [if_pos hm]
  ·simp only [decide_eq_false hm] at hH
   repeat' (first|refine Qg rfl rfl (by omega) (hwi _) ?_|refine Z8 rfl (g0 _) q1 rfl ?_|refine ZQU rfl rfl rfl hl3 rfl rfl hl2 (by decide) ?_|refine ZE ?_|refine ZD ?_|refine ZF rfl ?_|refine ZB rfl ?_|refine ZA ?_|refine QJ rfl ?_|(refine Zd rfl rfl (fun _=>?_) (fun _=>?_)<;>try (exfalso;omega))|refine ZU rfl ?_|refine Qs rfl rfl ?_|refine Zb rfl rfl (by omega) ?_|refine QR rfl rfl rfl rfl ?_|refine ZC rfl rfl rfl (hH) ?_|refine ZH ?_|refine ZI ?_|refine Zt ?_|refine Zw ?_)
   all_goals try (exfalso;omega)
   all_goals try contradiction
   refine ⟨i+1,⟨?_,?_⟩,by omega,by omega⟩
   ·rw [hs];unfold Ja;rw [if_neg hm,List.length_append];rfl
   ·rw [hs];unfold Ja;rw [if_neg hm,List.length_append,List.map_append];rfl
 ·obtain rfl:i=l.length:=by omega
  rw [List.take_length]
  repeat' (first|refine ZE ?_|refine ZD ?_|refine ZF rfl ?_|refine ZB rfl ?_|refine ZA ?_|refine QJ rfl ?_|(refine Zd rfl rfl (fun _=>?_) (fun _=>?_)<;>try (exfalso;omega))|refine ZG rfl ?_|refine ZP ?_|refine Zn ?_|refine ZO ?_|refine Za ?_|refine ZX rfl ?_|refine Zf ?_)
  all_goals try (exfalso;omega)
  refine YB (es:=(Yg l).map QI) hA (.inr rfl) rfl rfl (by simp) (by intro v hv;obtain ⟨x,_,rfl⟩:=List.mem_map.1 hv;rfl) ?_
  rfl
theorem Zja (l m:List Nat) (hb:l.length<1000000000) (hm:m.length<1000000000) (st:St) :
 S Tb Yn [.lit (l.map QI),.lit (m.map QI)] st=some (.lit ((Yg (l.filter fun o=>decide (o∉m))).map QI),st):=by
 refine Z5 rfl (fun A hA=>?_)
 have hHs:=fun o st=>ZeR m (by omega) o st
 repeat' (first|refine ZE ?_|refine ZD ?_|refine ZF rfl ?_|refine ZB rfl ?_|refine ZA ?_|refine JP rfl ?_|refine ZI ?_)
 refine Zr (α:=Nat) (fun i=>[(0,.lit (l.map QI)),(1,.lit (m.map QI)),(5,.ref A.length 0 ((l.take i).filter fun o=>decide (o∉m)).length 0 ((l.take i).filter fun o=>decide (o∉m)).length),(6,.int .i64 i)]) (fun i=>⟨A,false,[.arr 1 ((l.take i).filter fun o=>decide (o∉m)).length (((l.take i).filter fun o=>decide (o∉m)).map QI)]⟩) (fun i=>i<=l.length) (fun i=>l.length-i) 0 rfl rfl (by omega) ?_
 rintro i hi
 replace hi:i<=l.length:=hi
 have hw:=List.length_filter_le (fun o=>decide (o∉m)) (l.take i)
 rw [List.length_take,Nat.min_eq_left hi] at hw
 rcases Nat.lt_or_ge i l.length with hlt|hge
 ·obtain ⟨x,hx⟩:∃ x,l[i]?=some x:=⟨l[i]'hlt,jE _⟩
  have q:0<=((i:Nat):Int)/\l[((i:Nat):Int).toNat]?=some x:=⟨by omega,by rw [show ((i:Nat):Int).toNat=i by omega];exact hx⟩
  have hs:(l.take (i+1)).filter (fun o=>decide (o∉m))=(l.take i).filter (fun o=>decide (o∉m))++if x∈m then [] else [x]:=by
   rw [Zm hx,List.filter_append]
   congr 1
   by_cases q:x∈m
   ·simp [q]
   ·simp [q]
  have hH:=fun st=>hHs x st
  generalize (l.take i).filter (fun o=>decide (o∉m))=w at *
  have hl2:(w.map QI).length+[AV.int .u64 (x:Int)].length<4294967296:=by simp;omega
  have hl3:w.length=(w.map QI).length:=by simp
  by_cases hm:x∈m
  ·simp only [decide_eq_true hm] at hH
   rw [if_pos hm,List.append_nil] at hs
   repeat' (first|refine ZBX rfl ?_|refine XL (f:=QI) rfl rfl q (fun _=>rfl) ?_|refine ZE ?_|refine ZD ?_|refine ZF rfl ?_|refine ZB rfl ?_|refine ZA ?_|refine QD rfl rfl ?_|(refine Zd rfl rfl (fun _=>?_) (fun _=>?_)<;>try (exfalso;omega))|refine ZU rfl ?_|refine ZG rfl ?_|refine Qs rfl rfl ?_|refine Zb rfl rfl (by omega) ?_|refine ZC rfl rfl rfl (hH _) ?_|refine ZH ?_|refine ZI ?_|refine Zt ?_|refine Zw ?_)
   all_goals try (exfalso;omega)
   all_goals try contradiction
   exact ⟨i+1,⟨by rw [hs];rfl,by rw [hs]⟩,by omega,by omega⟩
  ·simp only [decide_eq_false hm] at hH
   rw [if_neg hm] at hs
   repeat' (first|refine ZBX rfl ?_|refine XL (f:=QI) rfl rfl q (fun _=>rfl) ?_|refine ZQU rfl rfl rfl hl3 rfl rfl hl2 (by decide) ?_|refine ZE ?_|refine ZD ?_|refine ZF rfl ?_|refine ZB rfl ?_|refine ZA ?_|refine QD rfl rfl ?_|(refine Zd rfl rfl (fun _=>?_) (fun _=>?_)<;>try (exfalso;omega))|refine ZU rfl ?_|refine Qs rfl rfl ?_|refine Zb rfl rfl (by omega) ?_|refine QR rfl rfl rfl rfl ?_|refine ZC rfl rfl rfl (hH _) ?_|refine ZH ?_|refine ZI ?_|refine Zt ?_|refine Zw ?_)
   all_goals try (exfalso;omega)
   all_goals try contradiction
   refine ⟨i+1,⟨?_,?_⟩,by omega,by omega⟩
   ·rw [hs,List.length_append];rfl
   ·rw [hs,List.length_append,List.map_append];rfl
 ·obtain rfl:i=l.length:=by omega
  rw [List.take_length] at hw ⊢
  have hO:=ZlV (st:=⟨A,false,[.arr 1 (l.filter fun o=>decide (o∉m)).length ((l.filter fun o=>decide (o∉m)).map QI)]⟩) (lv:=A.length) (ix:=0) (ver:=(l.filter fun o=>decide (o∉m)).length) (l:=l.filter fun o=>decide (o∉m)) rfl (St.get_cur ..) (by omega)
  generalize l.filter (fun o=>decide (o∉m))=w at *
  repeat' (first|refine ZBX rfl ?_|refine ZE ?_|refine ZD ?_|refine ZF rfl ?_|refine ZB rfl ?_|refine ZA ?_|(refine Zd rfl rfl (fun _=>?_) (fun _=>?_)<;>try (exfalso;omega))|refine ZG rfl ?_|refine ZC rfl rfl rfl (hO) ?_|refine ZP ?_|refine Zn ?_|refine ZO ?_|refine Za ?_|refine ZX rfl ?_|refine Zf ?_)
  all_goals try (exfalso;omega)
  refine Ze hA (by simp) rfl rfl rfl rfl ?_
  rfl
theorem ZZA {N:ZQ} (hN:GoodN N):∀ (n h:Nat) (x:Nd),lk N h=some x->x.h=n->((JB N n h).length:Int)+1<=2*x.mea.b:=by
 intro n
 induction n with
 | zero =>
  intro h x hx hh
  have:=(hN h x hx).1.mea_pos
  rw [JB,List.length_singleton];omega
 | succ n ih =>
  intro h x hx hh;have hg:=(hN h x hx).2
  have hin:∃ m ks,InnerOk x m ks:=by
   rcases (hN h x hx).1 with q|q
   ·have:=q.h;omega
   ·exact q
  obtain ⟨m,ks,hin⟩:=hin;have e:=hin.eq;have hlo:=hin.lo;subst e;rw [JB,JD hx,List.length_cons];have hms:Nd.mea ⟨m+1,[],some ks⟩=QK (ks.map Kid.m):=rfl;rw [hms];have hks:Nd.ks ⟨m+1,[],some ks⟩=ks:=rfl;rw [hks] at hg ⊢
  have key:∀ (l:List Kid),(∀ k∈l,k∈ks)->((l.flatMap fun k=>JB N n k.at_).length:Int)+l.length<=2*(QK (l.map Kid.m)).b:=by
   intro l
   induction l with
   | nil=>intro _;simp [QK,Mea.zero]
   | cons k l ihl =>
    intro hl
    obtain ⟨_,y,y1,y2,y3⟩:=hg k (hl k (by simp))
    have a1:=ih k.at_ y y1 (by simp only at y2 hh;omega)
    have a2:=ihl (fun z hz=>hl z (by simp [hz]))
    rw [y3] at a1;rw [List.flatMap_cons,List.length_append,jC,QK,List.length_cons];simp only [Mea.add];omega
  have:=key ks (fun k hk=>hk)
  omega
theorem ZLb {N:ZQ} (hN:GoodN N) {t:Tr} (hv:Val N t):((t.und N).length:Int)+1<=2*t.bytes:=by
 induction hv with
 | @kept a h m k x h0 hx hok hh hm hk =>
  have:=ZZA hN x.h a x hx rfl
  rw [Tr.und,if_neg h0,JD hx,Tr.bytes,Tr.bytesO_getD,hk,<- hm];simp only [Tr.bytesL,List.length_nil];omega
 | @leaf s k h1 h2 hk =>
  rw [Tr.und,if_pos rfl,Tr.undO_getD,hk,Tr.undL,Tr.bytes,Tr.bytesO_getD,hk];simp only [Tr.bytesL,List.length_nil,Mea.zero];omega
 | @inner h l hh h2 h4 hl hb hv ih =>
  rw [Tr.und,if_pos rfl,Tr.undO,Tr.bytes,Tr.bytesO]
  have key:∀ (l:List Tr),(∀ t∈l,((t.und N).length:Int)+1<=2*t.bytes)->((Tr.undL N l).length:Int)+l.length<=2*Tr.bytesL l:=by
   intro l
   induction l with
   | nil=>intro _;simp [Tr.undL,Tr.bytesL]
   | cons a l ihl =>
    intro hl
    have a1:=hl a (by simp)
    have a2:=ihl (fun t ht=>hl t (by simp [ht]))
    rw [Tr.undL,Tr.bytesL,List.length_append,List.length_cons];omega
  have:=key l ih
  simp only [Mea.zero,List.length_nil];omega
theorem ZZB {N:ZQ} (hN:GoodN N):∀ (n o:Nat) (x:Nd),lk N o=some x->x.h=n->o≠0->∀ {st:St} {lv ix:Nat},Rd st lv ix N->∀ (h:Nat) (m:Mea) (s:List UInt8) (k:Option (List Tr)),
 S Tb QF [.ptr lv ix 0 0 0,(Tr.mk o h m s k).av] st=some (.lit ((JB N n o).map QI),st):=by
 intro n
 induction n with
 | zero =>
  intro o x hx hh h0 st lv ix hr h m s k
  refine Z5 rfl (fun A hA=>?_)
  have hks:x.ks=[]:=by
   rcases (hN o x hx).1 with q|⟨m,ks,q⟩
   ·exact q.ks
   ·have e:=q.eq;subst e;simp at hh
  have hG:=fun L=>Zb6 (hr.push hA (ro:=false) (L:=L)) hx (by rw [hks];decide)
  have hcp:x.copy.av=.agg [.int .i64 x.h,.str x.text,.lit []]:=by
   show AV.agg [.int .i64 x.h,.str x.text,.lit (x.ks.map Kid.av)]=_
   rw [hks];rfl
  rw [hcp] at hG;have hp0:JJ (Tr.mk o h m s k).av false 0 1=some (.int .u64 o):=rfl
  generalize htt:(Tr.mk o h m s k)=tt at *
  rw [JB]
  repeat' (first|refine ZS rfl rfl rfl hp0 ?_|refine ZE ?_|refine ZD ?_|refine ZF rfl ?_|refine ZJ rfl rfl ?_|refine Z0 rfl rfl ?_|refine ZB rfl ?_|refine ZA ?_|(refine Zq rfl rfl (fun _=>?_) (fun _=>?_)<;>try (exfalso;omega))|refine ZG rfl ?_|refine Zh rfl rfl rfl ?_|refine Zu rfl rfl rfl rfl rfl rfl ?_|refine QR rfl rfl rfl rfl ?_|refine JP rfl ?_|refine ZBc rfl rfl rfl (by first|rfl|(simp;done)|(simp;omega)) (by first|omega|(simp<;>omega)) (by decide) rfl rfl rfl ?_|refine Zy rfl (Zv _) (QB _) ?_|refine ZC rfl rfl (by first|rfl|(simp only [List.nil_append,List.append_nil,List.cons_append,Zg,ZW,ZZ];first|done|rfl)) (hG _) ?_|refine ZH ?_|refine ZI ?_)
  all_goals try contradiction
  all_goals try (exfalso;omega)
  refine Zr (α:=Nat) (fun i=>[(0,.ptr lv ix 0 0 0),(5,.ref A.length 1 1 0 1),(7,.ptr A.length 2 0 0 0),(9,.int .i64 0)]) (fun i=>⟨A,false,[.arr 7 0 [tt.av],.arr 1 1 [.int .u64 o],.arr 3 0 [.agg [.int .i64 x.h,.str x.text,.lit []]]]⟩) (fun i=>True) (fun i=>0) 0 rfl rfl trivial ?_
  intro i _
  repeat' (first|refine ZE ?_|refine ZD ?_|refine ZF rfl ?_|refine ZJ rfl rfl ?_|refine ZS rfl rfl rfl rfl ?_|refine ZB rfl ?_|refine ZA ?_|refine J2 rfl rfl ?_|(refine Zd rfl rfl (fun _=>?_) (fun _=>?_)<;>try (exfalso;omega))|refine ZG rfl ?_|refine ZP ?_|refine Zn ?_|refine ZO ?_|refine Za ?_|refine ZX rfl ?_|refine Zf ?_)
  all_goals try (exfalso;omega)
  refine YB (es:=[QI o]) hA (.inr rfl) rfl rfl rfl (by intro v hv;rw [List.mem_singleton] at hv;subst hv;rfl) ?_
  rfl
 | succ n ih =>
  intro o x hx hh h0 st lv ix hr h m s k
  refine Z5 rfl (fun A hA=>?_)
  have hg:=(hN o x hx).2;have hk4:=(hN o x hx).1.len
  have hG:=fun L=>Zb6 (hr.push hA (ro:=false) (L:=L)) hx hk4
  have hcp:x.copy.av=.agg [.int .i64 x.h,.str x.text,.lit (x.ks.map Kid.av)]:=rfl;rw [hcp] at hG;have hp0:JJ (Tr.mk o h m s k).av false 0 1=some (.int .u64 o):=rfl;have hpb:=ZZA hN (n+1) o x hx hh;have hmp:=(hN o x hx).1.mea_pos;rw [JB,JD hx] at hpb ⊢
  have hpre:∀ i,(o::(x.ks.take i).flatMap fun k=>JB N n k.at_).length<=200000:=by
   intro i
   have:((x.ks.take i).flatMap fun k=>JB N n k.at_).length<=(x.ks.flatMap fun k=>JB N n k.at_).length:=by
    conv=>rhs;rw [<- List.take_append_drop i x.ks,List.flatMap_append,List.length_append]
    omega
   rw [List.length_cons] at hpb ⊢;omega
  generalize htt:(Tr.mk o h m s k)=tt at *
  repeat' (first|refine ZS rfl rfl rfl hp0 ?_|refine ZE ?_|refine ZD ?_|refine ZF rfl ?_|refine ZJ rfl rfl ?_|refine Z0 rfl rfl ?_|refine ZB rfl ?_|refine ZA ?_|(refine Zq rfl rfl (fun _=>?_) (fun _=>?_)<;>try (exfalso;omega))|refine ZG rfl ?_|refine Zh rfl rfl rfl ?_|refine Zu rfl rfl rfl rfl rfl rfl ?_|refine QR rfl rfl rfl rfl ?_|refine JP rfl ?_|refine ZBc rfl rfl rfl (by first|rfl|(simp;done)|(simp;omega)) (by first|omega|(simp<;>omega)) (by decide) rfl rfl rfl ?_|refine Zy rfl (Zv _) (QB _) ?_|refine ZC rfl rfl (by first|rfl|(simp only [List.nil_append,List.append_nil,List.cons_append,Zg,ZW,ZZ];first|done|rfl)) (hG _) ?_|refine ZH ?_|refine ZI ?_)
  all_goals try contradiction
  all_goals try (exfalso;omega)
  refine Zr (α:=Nat) (fun i=>[(0,.ptr lv ix 0 0 0),(5,.ref A.length 1 (i+1) 0 (o::(x.ks.take i).flatMap fun k=>JB N n k.at_).length),(7,.ptr A.length 2 0 0 0),(9,.int .i64 i)]) (fun i=>⟨A,false,[.arr 7 0 [tt.av],.arr 1 (i+1) ((o::(x.ks.take i).flatMap fun k=>JB N n k.at_).map QI),.arr 3 0 [.agg [.int .i64 x.h,.str x.text,.lit (x.ks.map Kid.av)]]]⟩) (fun i=>i<=x.ks.length) (fun i=>x.ks.length-i) 0 rfl rfl (Nat.zero_le _) ?_
  intro i hi;replace hi:i<=x.ks.length:=hi
  rcases Nat.lt_or_ge i x.ks.length with hlt|hge
  ·obtain ⟨kd,hk⟩:∃ k,x.ks[i]?=some k:=⟨x.ks[i]'hlt,jE _⟩
   have qk:0<=((i:Nat):Int)/\x.ks[((i:Nat):Int).toNat]?=some kd:=⟨by omega,by rw [show ((i:Nat):Int).toNat=i by omega];exact hk⟩
   obtain ⟨k0,y,y1,y2,_⟩:=hg kd (jM hk)
   have hcl:=fun L=>ih kd.at_ y y1 (by omega) k0 (hr.push hA (ro:=false) (L:=L)) 0 .zero [] none
   have hnx:(o::(x.ks.take (i+1)).flatMap fun k=>JB N n k.at_)=(o::(x.ks.take i).flatMap fun k=>JB N n k.at_)++JB N n kd.at_:=by
    rw [Zm hk,List.flatMap_append];simp
   have hp1:=hpre (i+1);rw [hnx,List.length_append] at hp1
   generalize (o::(x.ks.take i).flatMap fun k=>JB N n k.at_)=w at *
   generalize JB N n kd.at_=v at *
   have hl2:(w.map QI).length+(v.map QI).length<4294967296:=by simp;omega
   have hl3:w.length=(w.map QI).length:=by simp
   have eTr:(Tr.mk kd.at_ 0 .zero [] none).av=.agg [.int .u64 kd.at_,.int .i64 0,.int .i64 0,.int .i64 0,.int .i64 0,.str [],.nils]:=rfl;rw [eTr] at hcl
   repeat' (first|refine ZBX rfl ?_|refine XL (f:=Kid.av) rfl rfl qk (fun _=>rfl) ?_|refine ZQU rfl rfl rfl hl3 (ZeQ _) (ZiP _ _ _) hl2 (by decide) ?_|refine ZE ?_|refine ZD ?_|refine ZF rfl ?_|refine ZJ rfl rfl ?_|refine ZS rfl rfl rfl rfl ?_|refine ZB rfl ?_|refine ZA ?_|refine QD rfl rfl ?_|(refine Zd rfl rfl (fun _=>?_) (fun _=>?_)<;>try (exfalso;omega))|refine ZU rfl ?_|refine Zb rfl rfl (by omega) ?_|refine Zj rfl rfl rfl ?_|refine ZC rfl rfl rfl (hcl _) ?_|refine ZH ?_|refine ZI ?_|refine Zt ?_|refine Zw ?_)
   all_goals try contradiction
   all_goals try (exfalso;omega)
   refine ⟨i+1,⟨?_,?_⟩,by omega,by omega⟩
   ·rw [hnx,List.length_append]
    simp only [List.length_map];rfl
   ·rw [hnx,List.map_append];rfl
  ·obtain rfl:i=x.ks.length:=by omega
   rw [List.take_length]
   repeat' (first|refine ZBX rfl ?_|refine ZE ?_|refine ZD ?_|refine ZF rfl ?_|refine ZJ rfl rfl ?_|refine ZS rfl rfl rfl rfl ?_|refine ZB rfl ?_|refine ZA ?_|(refine Zd rfl rfl (fun _=>?_) (fun _=>?_)<;>try (exfalso;omega))|refine ZG rfl ?_|refine ZP ?_|refine Zn ?_|refine ZO ?_|refine Za ?_|refine ZX rfl ?_|refine Zf ?_)
   all_goals try (exfalso;omega)
   refine YB (es:=(o::x.ks.flatMap fun k=>JB N n k.at_).map QI) hA (.inr rfl) rfl rfl (by rw [List.length_map]) (by intro v hv;obtain ⟨x,_,rfl⟩:=List.mem_map.1 hv;rfl) ?_
   rfl
theorem ZZC {st:St} {lv ix h:Nat} {m:Mea} {s:List UInt8} {k:Option (List Tr)} (hk:k.getD []=[]):S Tb QF [.ptr lv ix 0 0 0,(Tr.mk 0 h m s k).av] st=some (.lit [],st):=by
 refine Z5 rfl (fun A hA=>?_)
 have hp0:JJ (Tr.mk 0 h m s k).av false 0 1=some (.int .u64 0):=rfl
 obtain ⟨ka,hp6,hka⟩:∃ ka,JJ (Tr.mk 0 h m s k).av false 6 1=some ka/\(ka=.nils\/ka=.lit []):=by
  cases k with
  | none=>exact ⟨.nils,rfl,.inl rfl⟩
  | some l =>
   simp only [Option.getD_some] at hk;subst hk;exact ⟨.lit [],rfl,.inr rfl⟩
 generalize htt:(Tr.mk 0 h m s k)=tt at *
 rcases hka with rfl|rfl
 ·repeat' (first|refine ZS rfl rfl rfl hp0 ?_|refine ZE ?_|refine ZD ?_|refine ZF rfl ?_|refine ZJ rfl rfl ?_|refine ZB rfl ?_|refine ZA ?_|(refine Zq rfl rfl (fun _=>?_) (fun _=>?_)<;>try (exfalso;omega))|refine ZU rfl ?_|refine JP rfl ?_|refine Zy rfl (Zv _) (QB _) ?_|refine ZI ?_)
  all_goals try contradiction
  all_goals try (exfalso;omega)
  refine Zr (α:=Nat) (fun i=>[(0,.ptr lv ix 0 0 0),(3,.ptr A.length 0 0 0 0),(5,.ref A.length 1 0 0 0),(6,.int .i64 0)]) (fun i=>⟨A,false,[.arr 7 0 [tt.av],.arr 1 0 []]⟩) (fun i=>True) (fun i=>0) 0 rfl rfl trivial ?_
  intro i _
  repeat' (first|refine ZS rfl rfl rfl hp6 ?_|refine ZE ?_|refine ZD ?_|refine ZF rfl ?_|refine ZJ rfl rfl ?_|refine ZB rfl ?_|refine ZA ?_|refine JC rfl ?_|(refine Zd rfl rfl (fun _=>?_) (fun _=>?_)<;>try (exfalso;omega))|refine ZG rfl ?_|refine ZP ?_|refine Zn ?_|refine ZO ?_|refine ZY ?_|refine Za ?_|refine ZX rfl ?_|refine Zf ?_)
  all_goals try (exfalso;omega)
  refine YB (es:=[]) hA (.inr rfl) rfl rfl rfl (by intro v hv;simp at hv) ?_
  rfl
 ·repeat' (first|refine ZS rfl rfl rfl hp0 ?_|refine ZE ?_|refine ZD ?_|refine ZF rfl ?_|refine ZJ rfl rfl ?_|refine ZB rfl ?_|refine ZA ?_|(refine Zq rfl rfl (fun _=>?_) (fun _=>?_)<;>try (exfalso;omega))|refine ZU rfl ?_|refine JP rfl ?_|refine Zy rfl (Zv _) (QB _) ?_|refine ZI ?_)
  all_goals try contradiction
  all_goals try (exfalso;omega)
  refine Zr (α:=Nat) (fun i=>[(0,.ptr lv ix 0 0 0),(3,.ptr A.length 0 0 0 0),(5,.ref A.length 1 0 0 0),(6,.int .i64 0)]) (fun i=>⟨A,false,[.arr 7 0 [tt.av],.arr 1 0 []]⟩) (fun i=>True) (fun i=>0) 0 rfl rfl trivial ?_
  intro i _
  repeat' (first|refine ZS rfl rfl rfl hp6 ?_|refine ZE ?_|refine ZD ?_|refine ZF rfl ?_|refine ZJ rfl rfl ?_|refine ZB rfl ?_|refine ZA ?_|refine J2 rfl rfl ?_|(refine Zd rfl rfl (fun _=>?_) (fun _=>?_)<;>try (exfalso;omega))|refine ZG rfl ?_|refine ZP ?_|refine Zn ?_|refine ZO ?_|refine ZY ?_|refine Za ?_|refine ZX rfl ?_|refine Zf ?_)
  all_goals try (exfalso;omega)
  refine YB (es:=[]) hA (.inr rfl) rfl rfl rfl (by intro v hv;simp at hv) ?_
  rfl
theorem ZLH (N:ZQ):∀ a b,Tr.undL N (a++b)=Tr.undL N a++Tr.undL N b
 | [],b=>rfl
 | t::a,b=>by rw [List.cons_append,Tr.undL,Tr.undL,ZLH N a b,List.append_assoc]
theorem Zhl {N:ZQ} {st:St} {lv ix:Nat} (hr:Rd st lv ix N) {h:Nat} {m:Mea} {s:List UInt8} {l:List Tr} (hb:(Tr.undL N l).length<=400000) (hl8:l.length<=400000)
 (hl:∀ t∈l,∀ {st:St} {lv ix:Nat},Rd st lv ix N->S Tb QF [.ptr lv ix 0 0 0,t.av] st=some (.lit ((t.und N).map QI),st)) :
 S Tb QF [.ptr lv ix 0 0 0,(Tr.mk 0 h m s (some l)).av] st=some (.lit ((Tr.undL N l).map QI),st):=by
 refine Z5 rfl (fun A hA=>?_)
 have hp0:JJ (Tr.mk 0 h m s (some l)).av false 0 1=some (.int .u64 0):=rfl
 have hp6:JJ (Tr.mk 0 h m s (some l)).av false 6 1=some (.lit (l.map Tr.av)):=by rw [<- Tr.avL_map];rfl
 have hpre:∀ i,(Tr.undL N (l.take i)).length<=400000:=by
  intro i
  have:(Tr.undL N (l.take i)).length<=(Tr.undL N l).length:=by
   conv=>rhs;rw [<- List.take_append_drop i l,ZLH,List.length_append]
   omega
  omega
 generalize htt:(Tr.mk 0 h m s (some l))=tt at *
 repeat' (first|refine ZS rfl rfl rfl hp0 ?_|refine ZE ?_|refine ZD ?_|refine ZF rfl ?_|refine ZJ rfl rfl ?_|refine ZB rfl ?_|refine ZA ?_|(refine Zq rfl rfl (fun _=>?_) (fun _=>?_)<;>try (exfalso;omega))|refine ZU rfl ?_|refine JP rfl ?_|refine Zy rfl (Zv _) (QB _) ?_|refine ZI ?_)
 all_goals try contradiction
 all_goals try (exfalso;omega)
 refine Zr (α:=Nat) (fun i=>[(0,.ptr lv ix 0 0 0),(3,.ptr A.length 0 0 0 0),(5,.ref A.length 1 i 0 (Tr.undL N (l.take i)).length),(6,.int .i64 i)]) (fun i=>⟨A,false,[.arr 7 0 [tt.av],.arr 1 i ((Tr.undL N (l.take i)).map QI)]⟩) (fun i=>i<=l.length) (fun i=>l.length-i) 0 rfl rfl (Nat.zero_le _) ?_
 intro i hi;replace hi:i<=l.length:=hi
 rcases Nat.lt_or_ge i l.length with hlt|hge
 ·obtain ⟨t,ht⟩:∃ t,l[i]?=some t:=⟨l[i]'hlt,jE _⟩
  have q:0<=((i:Nat):Int)/\l[((i:Nat):Int).toNat]?=some t:=⟨by omega,by rw [show ((i:Nat):Int).toNat=i by omega];exact ht⟩
  have hcl:=fun L=>hl t (jM ht) (hr.push hA (ro:=false) (L:=L))
  have hnx:Tr.undL N (l.take (i+1))=Tr.undL N (l.take i)++t.und N:=by
   rw [Zm ht,ZLH,Tr.undL,Tr.undL,List.append_nil]
  have hp1:=hpre (i+1);rw [hnx,List.length_append] at hp1
  generalize Tr.undL N (l.take i)=w at *
  generalize t.und N=v at *
  have hl2:(w.map QI).length+(v.map QI).length<4294967296:=by simp;omega
  have hl3:w.length=(w.map QI).length:=by simp
  repeat' (first|refine ZS rfl rfl rfl hp6 ?_|refine ZBX rfl ?_|refine XL (f:=Tr.av) rfl rfl q Zv ?_|refine ZQU rfl rfl rfl hl3 (ZeQ _) (ZiP _ _ _) hl2 (by decide) ?_|refine ZE ?_|refine ZD ?_|refine ZF rfl ?_|refine ZJ rfl rfl ?_|refine ZB rfl ?_|refine ZA ?_|(refine Zd rfl rfl (fun _=>?_) (fun _=>?_)<;>try (exfalso;omega))|refine ZU rfl ?_|refine Zb rfl rfl (by omega) ?_|refine QD rfl (Zl _) ?_|refine ZC rfl rfl (by first|rfl|(simp only [List.nil_append,List.append_nil,List.cons_append,Zg,ZW,ZZ];first|done|rfl)) (hcl _) ?_|refine ZH ?_|refine ZI ?_|refine Zt ?_|refine Zw ?_)
  all_goals try contradiction
  all_goals try (exfalso;omega)
  refine ⟨i+1,⟨?_,?_⟩,by omega,by omega⟩
  ·rw [hnx,List.length_append]
   simp only [List.length_map];rfl
  ·rw [hnx,List.map_append];rfl
 ·obtain rfl:i=l.length:=by omega
  rw [List.take_length]
  repeat' (first|refine ZS rfl rfl rfl hp6 ?_|refine ZBX rfl ?_|refine ZE ?_|refine ZD ?_|refine ZF rfl ?_|refine ZJ rfl rfl ?_|refine ZB rfl ?_|refine ZA ?_|(refine Zd rfl rfl (fun _=>?_) (fun _=>?_)<;>try (exfalso;omega))|refine ZG rfl ?_|refine ZP ?_|refine Zn ?_|refine ZO ?_|refine ZY ?_|refine Za ?_|refine ZX rfl ?_|refine Zf ?_)
  all_goals try (exfalso;omega)
  refine YB (es:=(Tr.undL N l).map QI) hA (.inr rfl) rfl rfl (by rw [List.length_map]) (by intro v hv;obtain ⟨x,_,rfl⟩:=List.mem_map.1 hv;rfl) ?_
  rfl
theorem Zjb {N:ZQ} (hN:GoodN N) {t:Tr} (hv:Val N t):t.bytes<=100000->∀ {st:St} {lv ix:Nat},Rd st lv ix N->S Tb QF [.ptr lv ix 0 0 0,t.av] st=some (.lit ((t.und N).map QI),st):=by
 have hb0:=ZLb hN hv
 induction hv with
 | @kept a h m k x h0 hx hok hh hm hk =>
  intro hb st lv ix hr;rw [Tr.und,if_neg h0,JD hx];exact ZZB hN x.h a x hx rfl h0 hr h m [] k
 | @leaf s k h1 h2 hk =>
  intro hb st lv ix hr;rw [Tr.und,if_pos rfl,Tr.undO_getD,hk,Tr.undL];exact ZZC hk
 | @inner h l hh h2 h4 hl hb8 hv ih =>
  intro hb st lv ix hr;rw [Tr.und,if_pos rfl,Tr.undO] at hb0 ⊢
  have hkb:∀ t∈l,t.bytes<=100000:=by
   intro t ht;rw [Tr.bytes,Tr.bytesO] at hb
   have:t.bytes<=Tr.bytesL l:=by
    obtain ⟨i,hi⟩:=List.mem_iff_getElem?.1 ht
    have e:l=l.take i++t::l.drop (i+1):=by
     conv=>lhs;rw [<- List.take_append_drop i l]
     rw [ZLa hi]
    have p1:=Tr.bytesL_nonneg (l:=l.take i) (fun w hw=>by have:=(hv w (List.mem_of_mem_take hw)).pos.2;omega)
    have p2:=Tr.bytesL_nonneg (l:=l.drop (i+1)) (fun w hw=>by have:=(hv w (List.mem_of_mem_drop hw)).pos.2;omega)
    rw [e,Tr.bytesL_append,Tr.bytesL];omega
   simp only [Mea.zero,List.length_nil] at hb;omega
  exact Zhl hr (by omega) (by omega) (fun t ht=>fun hr=>ih t ht (ZLb hN (hv t ht)) (hkb t ht) hr)
theorem ZlW {N:ZQ} (hN:GoodN N) {t:Tr} (hv:VE N t) (hb:t.bytes<=100000) {st:St} {lv ix:Nat} (hr:Rd st lv ix N):S Tb QF [.ptr lv ix 0 0 0,t.av] st=some (.lit ((t.und N).map QI),st):=by
 rcases hv with h|h
 ·obtain ⟨o,h',m,s,k⟩:=t
  obtain ⟨h1,h2,h3,h4,h5⟩:=h
  simp only [Tr.old,Tr.h,Tr.m,Tr.text,Tr.ks] at *
  subst h1;rw [Tr.und,if_pos rfl,Tr.undO_getD,h5,Tr.undL];exact ZZC h5
 ·exact Zjb hN h hb hr
def Nd.lit (x:Nd):Nd:=⟨x.h,x.text,some x.ks⟩
theorem NdOk.lit {x:Nd} (h:NdOk x):NdOk x.lit:=by
 rcases h with h|⟨n,ks,h⟩
 ·exact .inl ⟨h.h,h.lo,h.hi,h.ks⟩
 ·refine .inr ⟨n,ks,?_⟩
  obtain ⟨rfl,a,b,c,d,e⟩:=h;exact ⟨rfl,a,b,c,d,e⟩
theorem Nd.lit_mea (x:Nd):x.lit.mea=x.mea:=rfl
theorem ZeV {st:St} {lv ix:Nat} (text:List UInt8):S Tb JR [.ptr lv ix 0 0 0,.agg [.int .i64 (0:Nat),.str text,.nils]] st=some (.int .i64 0,st):=by
 refine Z5 rfl (fun A hA=>?_)
 repeat' (first|refine ZE ?_|refine ZD ?_|refine ZF rfl ?_|refine ZJ rfl rfl ?_|refine ZS rfl rfl rfl rfl ?_|refine ZB rfl ?_|refine ZA ?_|refine JC rfl ?_|(refine Zd rfl rfl (fun _=>?_) (fun _=>?_)<;>try (exfalso;omega))|refine ZG rfl ?_|refine Zh rfl rfl rfl ?_|refine Qe ?_|refine ZP ?_|refine Zn ?_|refine ZI ?_|refine ZO ?_|refine Za ?_|refine ZX rfl ?_)
 all_goals refine Ze hA (by simp) rfl rfl rfl rfl ?_
 all_goals rfl
theorem RRd.push {st:St} {A:List (Bool × List Blk)} {ro:Bool} {L:List Blk} (hA:A=st.A++[(st.ro,st.L)]) {lv ix:Nat} {N:ZQ} (h:RRd st lv ix N):RRd ⟨A,ro,L⟩ lv ix N:=by
 obtain ⟨l,v,c0,c1,c2,c3,c4,c5,c6,h1,h2⟩:=h;exact ⟨l,v,c0,c1,c2,c3,c4,c5,c6,ZV hA h1,h2.push hA⟩
theorem Zhm {st:St} {lv ix:Nat} {N:ZQ} (hr:RRd st lv ix N) (hl:N.length<4294967296) (n:Nat) (hn:n<=15) (ks:List Kid) (hk:ks.length<=4) (hL:ZDI N n ks) {kl kx ver:Nat} (hk2:KRef st kl kx ver ks) :
 S Tb JR [.ptr lv ix 0 0 0,ndR (n+1) kl kx ver ks.length] st=some (.int .i64 0,st):=by
 have hr0:=hr;obtain ⟨l,v,c0,c1,c2,c3,c4,c5,c6,h1,h2⟩:=hr
 refine Z5 rfl (fun A hA=>?_)
 have hR:=fun L=>hr0.push hA (ro:=false) (L:=L)
 have g1:=fun L=>ZV hA (ro:=false) (L:=L) h1
 obtain ⟨es,gk,ge⟩:=hk2
 have gA:=fun L=>ZV hA (ro:=false) (L:=L) gk
 have hwi:∀ L,wIs 4 ver (St.get ⟨A,false,L⟩ kl kx)=true:=fun L=>by rw [gA];simp [wIs]
 unfold ndR
 repeat' (first|refine ZE ?_|refine ZD ?_|refine ZF rfl ?_|refine ZB rfl ?_|refine ZA ?_|refine Zh rfl rfl rfl ?_|refine ZI ?_)
 refine Zr (α:=Nat × List Blk) (fun p=>[(0,.ptr lv ix 0 0 0),(3,.ptr A.length 0 0 0 0),(5,.int .i64 p.1)]) (fun p=>⟨A,false,.arr 3 0 [.agg [.int .i64 ((n+1:Nat):Int),.str [],.ref kl kx ver 0 ks.length]]::p.2⟩) (fun p=>p.1<=ks.length) (fun p=>ks.length-p.1) (0,[]) rfl rfl (by simp) ?_
 rintro ⟨i,G⟩ hi
 simp only at hi ⊢
 repeat' (first|refine ZE ?_|refine ZD ?_|refine ZF rfl ?_|refine ZJ rfl rfl ?_|refine ZS rfl rfl rfl rfl ?_|refine ZB rfl ?_|refine ZA ?_|refine QJ rfl ?_|(refine Zd rfl rfl (fun _=>?_) (fun _=>?_)<;>try (exfalso;omega))|refine ZU rfl ?_|refine ZG rfl ?_|refine ZH ?_|refine ZP ?_|refine Zn ?_|refine ZI ?_|refine ZO ?_|refine Za ?_|refine ZX rfl ?_|refine Zf ?_)
 ·rename_i hlt
  obtain ⟨kd,hk'⟩:∃ k,ks[i]?=some k:=⟨ks[i]'(by omega),by simp [show i<ks.length by omega]⟩
  obtain ⟨y,y1,y2,y3,y4⟩:=hL kd (jM hk');obtain ⟨j,j1,j2⟩:=Znt y1
  have hF:=fun L=>ZoI (hR L) j1 j2 hl
  have hMe:=fun st=>ZbU y.lit y2.lit st
  rw [Nd.lit_mea,y4] at hMe;have hjl:j<N.length:=(List.getElem?_eq_some_iff.1 j1).1;simp only [Nd.lit,Nd.av,slV,Mea.av] at hMe
  refine Qg rfl rfl (by omega) (hwi _) ?_
  refine ZJ rfl rfl ?_;refine Z8 (x:=kd.av) rfl (gA _) (ZD1 ge hk') rfl ?_
  cases h2 with
  | nil=>simp at j1
  | @ref lv' ix' ver' m N es' hg hm he =>
   have g2:=fun L=>ZV hA (ro:=false) (L:=L) hg
   have hwi':∀ L,wIs 4 ver' (St.get ⟨A,false,L⟩ lv' ix')=true:=fun L=>by rw [g2];simp [wIs]
   have hit:=Zf4 hm he j1;subst y3
   repeat' (first|refine ZE ?_|refine ZD ?_|refine ZF rfl ?_|refine ZJ rfl rfl ?_|refine ZB rfl ?_|refine ZA ?_|refine Z2 rfl rfl ?_|(refine Zd rfl rfl (fun _=>?_) (fun _=>?_)<;>try (exfalso;omega))|refine ZG rfl ?_|refine ZC rfl rfl rfl (hF _) ?_|refine Z8 rfl (g1 _) rfl rfl ?_|refine ZH ?_)
   refine Qg rfl rfl (by omega) (hwi' _) ?_
   refine ZJ rfl rfl ?_;refine Z8 (x:=ZDJ (kd.at_,y)) rfl (g2 _) hit rfl ?_
   repeat' (first|refine ZE ?_|refine ZD ?_|refine ZF rfl ?_|refine ZJ rfl rfl ?_|refine ZS rfl rfl rfl rfl ?_|refine Z4 rfl ?_|refine JH rfl rfl ?_|refine Zk rfl rfl rfl rfl ?_|refine Z0 rfl rfl ?_|refine ZB rfl ?_|refine ZA ?_|refine Qf rfl rfl rfl ?_|(refine Zp rfl rfl (fun _=>?_) (fun _=>?_)<;>try (exfalso;omega))|refine ZU rfl ?_|refine Ql rfl rfl (by omega) ?_|refine Zy rfl rfl rfl ?_|refine J7 rfl rfl rfl rfl rfl rfl ?_|refine ZC rfl rfl rfl (hMe _) ?_|refine ZhV rfl rfl rfl ?_|refine ZP ?_|refine ZO ?_|refine ZY ?_|refine QP ?_|refine Y4 ?_)
   ·rename_i q
    exact absurd (show (y.h:Int)=((y.h+1:Nat):Int)-1 by omega) q
   ·refine Qg rfl rfl (by omega) (hwi _) ?_
    refine Z4 rfl ?_;refine ZJ rfl rfl ?_;refine Z4 rfl ?_;refine Z8 (x:=kd.av) rfl (gA _) (ZD1 ge hk') rfl ?_
    repeat' (first|refine ZE ?_|refine ZD ?_|refine ZF rfl ?_|refine Z4 rfl ?_|refine Zk rfl rfl rfl rfl ?_|refine ZB rfl ?_|refine ZA ?_|refine ZU rfl ?_|refine ZG rfl ?_|refine Zb rfl rfl (by omega) ?_|(refine ZDj rfl rfl (Zi8 _ _ _ _ _ _) (fun _=>?_) (fun _=>?_))|refine ZH ?_|refine ZP ?_|refine ZO ?_|refine ZY ?_|refine Zt ?_|refine QP ?_|refine Zw ?_|refine Y4 ?_)
    ·exact ⟨(i+1,G++[_]++[_]),⟨rfl,rfl⟩,by simp only;omega,by simp only;omega⟩
    ·rename_i q
     exact (q ⟨rfl,rfl,rfl⟩).elim
 ·refine Ze hA (by simp) rfl rfl rfl rfl ?_
  rfl
section
variable {O:Orc} {k:List Fr} {Q:YY} {e:Env} {A:List (Bool × List Blk)} {L L0 T T':List Blk} {keep:List Nat} {is:List PI} {d:Nat}
theorem ZQb {w bytes m:Nat} {s x:Opd} {y:AV} (hs:Zo e s=some .nils) (hx:Zo e x=some (.lit [y])) (hw:bytes<=4096) (hsm:y.wide=some w) (hm:Zcu T=some m) (hL:J6 (T++[Blk.arr w 0 [y]])=some T')
 (h:Is O is keep k Q ((d,.ref A.length (L0.length+m) 0 0 1)::e) ⟨A,false,L0++T'⟩):Is O (⟨some d,none,false,.app w bytes s x⟩::is) keep k Q e ⟨A,false,L0++T⟩:=by
 rw [<- Qk hL,<- ZBw hm,<- List.append_assoc,<- List.length_append] at h;refine QA (v:=.ref A.length (L0++T).length 0 0 1) (st':=⟨A,false,L0++T++[Blk.arr w 0 [y]]⟩) ?_ h
 have hw2:JS w [y]=true:=by simp [JS,hsm]
 simp only [Zs,evalPO,ZL hs,ZL hx,elems,Option.bind_some,Q1,hw2,List.length_singleton,if_pos (show 1<4294967296/\bytes<=4096/\True from ⟨by decide,hw,trivial⟩),St.new_cur,Jf]
theorem ZZD {w bytes:Nat} {s x:Opd} {ix ver n:Nat} {es:List AV} {y:AV} (hs:Zo e s=some (.ref A.length (L0.length+ix) ver 0 n)) (hx:Zo e x=some (.lit [y])) (hg:T[ix]?=some (Blk.arr w ver es)) (hb:n=es.length)
 (hl:es.length+1<4294967296) (hw:bytes<=4096) (hsm:y.wide=some w) (hm:Zi QU (A.length+1) ⟨A,false,L0++T⟩ y=some (y,⟨A,false,L0++T⟩)) (hL:J6 (T.set ix (Blk.arr w (ver+1) (es++[y])))=some T')
 (h:Is O is keep k Q ((d,.ref A.length (L0.length+ix) (ver+1) 0 (n+1))::e) ⟨A,false,L0++T'⟩):Is O (⟨some d,none,false,.app w bytes s x⟩::is) keep k Q e ⟨A,false,L0++T⟩:=by
 rw [<- Qk hL,<- ZVh] at h
 exact ZCB hs hx (by rw [Ju];exact hg) hb hl hw hsm hm h
end
def r0 (lv b k:Nat):Blk:=.arr 4 0 [.agg [.int .u64 3,.ref lv (b+1) 699 0 700,.ref lv (b+2) 699 0 700,.ref lv (b+3) 699 0 (700-k)]]
def r1 (k:Nat):Blk:=.arr 1 699 (((List.range 700).map fun (j:Nat)=>if j<k then (1:Int) else 0).map (.int .i64))
def r2:Blk:=.arr 1 699 (List.replicate 700 (.int .u64 1))
def r3:Blk:=.arr 1 699 ((List.range 700).map fun (j:Nat)=>.int .i64 ((700:Int)-1-j))
def itV (lv it:Nat):ZQ->AV
 | []=>.nils
 | p::N=>.ref lv it N.length 0 (N.length+1)
def r4 (lv b it:Nat) (N:ZQ):Blk:=.arr 9 0 [.agg [.ptr lv b 0 0 0,itV lv it N,.int .i64 0,.int .i64 0,.int .i64 0,.int .i64 0,.int .i64 N.length,.int .i64 0,.int .i64 0]]
theorem ZnV (m g:Nat) (hm:m<16384) (hg:1<=g/\g<=4294967295) (A:List (Bool × List Blk)) (L0:List Blk) :
 S Tb ZAI [.int .i64 ((m+1:Nat):Int),.int .u64 g] ⟨A,false,L0⟩=some (.tup [.ptr A.length (L0.length+0) 0 0 0,.int .i64 0],⟨A,false,L0 ++
  [.arr 4 0 [.agg [.int .u64 g,.ref A.length (L0.length+1) m 0 (m+1),.ref A.length (L0.length+2) m 0 (m+1),.ref A.length (L0.length+3) m 0 (m+1)]],
   .arr 1 m (List.replicate (m+1) (.int .i64 0)),.arr 1 m (List.replicate (m+1) (.int .u64 1)),.arr 1 m ((List.range (m+1)).map fun (j:Nat)=>.int .i64 (((m+1:Nat):Int)-1-j))]⟩):=by
 refine ZQt rfl ?_
 have e0:(⟨A,false,L0⟩:St)=⟨A,false,L0++[]⟩:=by rw [List.append_nil]
 rw [e0]
 repeat' (first|refine Yy rfl rfl rfl rfl rfl ?_|refine ZE ?_|refine ZD ?_|refine ZF rfl ?_|refine Z4 rfl ?_|refine Zk rfl rfl rfl rfl ?_|refine ZB rfl ?_|refine ZA ?_|(refine Zd rfl rfl (fun _=>?_) (fun _=>?_)<;>try (exfalso;omega))|(refine QQ rfl rfl (fun _=>?_) (fun _=>?_)<;>try (exfalso;omega))|refine ZG rfl ?_|refine Zj rfl rfl rfl ?_|refine ZH ?_|refine ZI ?_)
 refine Qe ?_
 repeat' (first|refine Qy rfl rfl rfl rfl ?_|refine ZQb rfl rfl (by decide) rfl rfl rfl ?_|refine Js rfl rfl rfl rfl (QX _ (Nat.lt_succ_self _)) rfl rfl ?_|refine ZE ?_|refine ZD ?_|refine ZF rfl ?_|refine ZJ rfl rfl ?_|refine ZB rfl ?_|refine ZA ?_|refine Z2 rfl rfl ?_|(refine Zd rfl rfl (fun _=>?_) (fun _=>?_)<;>try (exfalso;omega))|refine ZU rfl ?_|refine Zb rfl rfl (by omega) ?_|refine Ql rfl rfl (by omega) ?_|refine QR rfl rfl rfl rfl ?_|refine ZH ?_|refine ZI ?_|refine Zt ?_)
 refine Zr (α:=Nat) (fun j=>[(0,.int .i64 ((m+1:Nat):Int)),(6,.ptr A.length (L0.length+0) 0 0 0),(7,.int .i64 ((j+1:Nat):Int))])
  (fun j=>⟨A,false,L0++[.arr 4 0 [.agg [.int .u64 g,.ref A.length (L0.length+1) j 0 (j+1),.ref A.length (L0.length+2) j 0 (j+1),.ref A.length (L0.length+3) j 0 (j+1)]],
   .arr 1 j (List.replicate (j+1) (.int .i64 0)),.arr 1 j (List.replicate (j+1) (.int .u64 1)),.arr 1 j ((List.range (j+1)).map fun (q:Nat)=>.int .i64 (((m+1:Nat):Int)-1-q))]⟩)
  (fun j=>j<=m) (fun j=>m-j) 0 rfl rfl (Nat.zero_le _) ?_
 intro j hj
 have r1:∀ x:AV,List.replicate (j+1) x++[x]=List.replicate (j+1+1) x:=fun x=>by rw [List.replicate_succ' (n:=j+1)]
 have r2:((List.range (j+1)).map fun (q:Nat)=>AV.int .i64 (((m+1:Nat):Int)-1-q))++[.int .i64 (((m+1:Nat):Int)-1-((j+1:Nat):Int))]=(List.range (j+1+1)).map fun (q:Nat)=>AV.int .i64 (((m+1:Nat):Int)-1-q):=by
  rw [List.range_succ (n:=j+1),List.map_append];rfl
 repeat' (first|refine Qy rfl rfl rfl rfl ?_|refine ZE ?_|refine ZD ?_|refine ZF rfl ?_|refine ZJ rfl rfl ?_|refine ZB rfl ?_|refine ZA ?_|refine Z2 rfl rfl ?_|(refine Zd rfl rfl (fun _=>?_) (fun _=>?_)<;>try (exfalso;omega))|refine ZU rfl ?_|refine ZG rfl ?_|refine QR rfl rfl rfl rfl ?_|refine ZH ?_|refine ZP ?_|refine Zn ?_|refine ZI ?_|refine ZO ?_|refine Za ?_|refine ZX rfl ?_|refine Zf ?_)
 ·refine ZZD rfl rfl rfl (by simp) (by simp;omega) (by decide) rfl rfl rfl ?_
  rw [r1]
  repeat' (first|refine Qy rfl rfl rfl rfl ?_|refine Js rfl rfl rfl rfl (QX _ (Nat.lt_succ_self _)) rfl rfl ?_|refine ZE ?_|refine ZD ?_|refine ZF rfl ?_|refine ZJ rfl rfl ?_|refine ZB rfl ?_|refine ZA ?_|refine Z2 rfl rfl ?_|refine QR rfl rfl rfl rfl ?_)
  refine ZZD rfl rfl rfl (by simp) (by simp;omega) (by decide) rfl rfl rfl ?_
  rw [r1]
  repeat' (first|refine Qy rfl rfl rfl rfl ?_|refine Js rfl rfl rfl rfl (QX _ (Nat.lt_succ_self _)) rfl rfl ?_|refine ZD ?_|refine ZF rfl ?_|refine ZJ rfl rfl ?_|refine ZB rfl ?_|refine ZA ?_|refine Z2 rfl rfl ?_|refine Ql rfl rfl (by omega) ?_|refine QR rfl rfl rfl rfl ?_)
  refine ZZD rfl rfl rfl (by simp) (by simp;omega) (by decide) rfl rfl rfl ?_
  rw [r2]
  repeat' (first|refine Js rfl rfl rfl rfl (QX _ (Nat.lt_succ_self _)) rfl rfl ?_|refine ZD ?_|refine ZF rfl ?_|refine ZJ rfl rfl ?_|refine ZB rfl ?_|refine ZA ?_|refine Z2 rfl rfl ?_|refine Zb rfl rfl (by omega) ?_|refine Zt ?_|refine Zw ?_)
  exact ⟨j+1,⟨rfl,rfl⟩,by omega,by omega⟩
 ·obtain rfl:j=m:=by omega
  rfl
theorem ZnW:r1 0=.arr 1 699 (List.replicate (699+1) (.int .i64 0)):=by
 unfold r1;simp only [Nat.not_lt_zero,if_false,List.map_const',List.length_range,List.map_replicate]
theorem ZoZ (A:List (Bool × List Blk)) (L0:List Blk) :
 S Tb Yv [.int .i64 700,.int .u64 3] ⟨A,false,L0⟩=some (.tup [.ptr A.length (L0.length+4) 0 0 0,.int .i64 0],⟨A,false,L0++[r0 A.length L0.length 0,r1 0,r2,r3,r4 A.length L0.length 0 []]⟩):=by
 refine ZQt rfl ?_
 have hN:=ZnV 699 3 (by decide) ⟨by decide,by decide⟩ A L0
 repeat' (first|refine Yy rfl rfl rfl rfl rfl ?_|refine ZE ?_|refine ZD ?_|refine ZF rfl ?_|refine Z0 rfl rfl ?_|refine ZB rfl ?_|refine ZA ?_|(refine Zp rfl rfl (fun _=>?_) (fun _=>?_)<;>try (exfalso;omega))|refine ZG rfl ?_|refine Zj rfl rfl rfl ?_|refine ZC rfl rfl rfl (hN) ?_|refine ZH ?_|refine ZP ?_|refine ZO ?_)
 rw [ZnW];rfl
structure APost (P:List Blk->ZQ->(Nat->Prop)->Prop) (L:List Blk) (I:Nat->Prop) (N':ZQ) (L':List Blk) (I':Nat->Prop):Prop where
 p:P L' N' I'
 len:L.length<=L'.length
 old:∀ i,i<L.length->¬ I i->L'[i]?=L[i]?
 own:∀ i,I' i->I i\/L.length<=i
structure Allocs (A:List (Bool × List Blk)) (g:FuncId) (P:List Blk->ZQ->(Nat->Prop)->Nat->Prop):Prop where
 frame:∀ {L L' N I p},P L N I p->(∀ i,I i->L'[i]?=L[i]?)->P L' N I p
 lt:∀ {L N I p i},P L N I p->I i->i<L.length
 leaf:∀ {L N I p} (s:List UInt8),P L N I p->Ord N->N.length<700->ZAc s->∃ L' I',
  S Tb g [.ptr A.length p 0 0 0,.agg [.int .i64 (0:Nat),.str s,.nils]] ⟨A,false,L⟩=some (.tup [.int .u64 ((hd N:Nat):Int),.int .i64 0],⟨A,false,L'⟩)/\APost (fun L N I=>P L N I p) L I (N++[(hd N,⟨0,s,some []⟩)]) L' I'
 inn:∀ {L N I p} (n:Nat) (ks:List Kid) {kx ver:Nat},P L N I p->Ord N->N.length<700->n<=15->2<=ks.length/\ks.length<=4->(∀ k∈ks,KidOk n k)->(QK (ks.map Kid.m)).b<=65536->ZDI N n ks->KRef ⟨A,false,L⟩ A.length kx ver ks->¬ I kx->∃ L' I',
  S Tb g [.ptr A.length p 0 0 0,ndR (n+1) A.length kx ver ks.length] ⟨A,false,L⟩=some (.tup [.int .u64 ((hd N:Nat):Int),.int .i64 0],⟨A,false,L'⟩)/\APost (fun L N I=>P L N I p) L I (N++[(hd N,⟨n+1,[],some ks⟩)]) L' I'
theorem Zoa:∀ n N t N' k,WrH n N t N' k->Ord N->Ord N':=by
 have hc:∀ (P:ZQ->Tr->ZQ->Kid->Prop),(∀ N t N' k,P N t N' k->Ord N->Ord N')->∀ ts N N' l,ZYy P N ts N' l->Ord N->Ord N':=by
  intro P hP ts
  induction ts with
  | nil=>intro N N' l h o;rw [h.1];exact o
  | cons t ts ih =>
   rintro N N' l ⟨N1,k,l1,h1,h2,_⟩ o
   exact ih N1 N' l1 h2 (hP _ _ _ _ h1 o)
 intro n
 induction n with
 | zero=>rintro N t N' k ⟨s,ks,_,_,_,rfl,_⟩ o;exact o.snoc _
 | succ n ih =>
  rintro N t N' k ⟨ts,N1,l,_,_,_,h,_,_,_,_,rfl,_⟩ o
  exact (hc _ ih _ _ _ _ h o).snoc _
theorem ZgH {L T:List Blk} {i:Nat} (h:i<L.length):(L++T)[i]?=L[i]?:=jL h
theorem ZSV {e:Env} {A:List (Bool × List Blk)} {L:List Blk} {x:Ex} {b c ix ver:Nat} {r:Ro} {k:IntKind} {n:Int} {u:AV} (hx:x=.norm\/x=.ret) (hb:Jw e b=some (.ptr A.length ix ver 0 0)) (hg:L[ix]?=some (.arr 5 ver [r.av])) (hc:Jw e c=some (.int k n)) (hu:.tup [r.av,.int k n]=u):Jv true [.c b true 5,.s c] (x,e,⟨A,false,L⟩)=some (u,⟨A,false,L⟩):=by
 subst hu
 have h1:ZBZ ⟨A,false,L⟩ e (.c b true 5)=some r.av:=by
  simp only [ZBZ,QN hb,loadP,St.get_cur,hg,vis,ZIy,if_true,List.getElem?_cons_zero,Option.bind_some,ZVj]
 have h2:Qn ⟨A,false,L⟩ e [.c b true 5,.s c]=some (.tup [r.av,.int k n]):=by
  simp only [Qn,ZDL,h1,Option.bind_some];simp only [ZBZ,QN hc,Option.bind_some,Option.map_some,ZHL]
 rcases hx with rfl|rfl<;>simp only [Jv,h2,Option.bind_some,if_true,Qd]
theorem Zhn {A:List (Bool × List Blk)} {g:FuncId} {P:List Blk->ZQ->(Nat->Prop)->Nat->Prop} (hA:Allocs A g P) {p:Nat} {N N':ZQ} {t:Tr} {k:Kid} (hw:WrH 0 N t N' k) (ho:Ord N) (hl:N'.length<=700) {L:List Blk} {I:Nat->Prop} (hP:P L N I p) :
 ∃ L' I',S Tb QG [.func (.func g) [.ptr A.length p 0 0 0] [],t.av] ⟨A,false,L⟩=some (.tup [Ro.av ⟨k.at_,0,k.m⟩,.int .i64 0],⟨A,false,L'⟩)/\APost (fun L N I=>P L N I p) L I N' L' I':=by
 obtain ⟨s,ks,rfl,hk,hs,rfl,rfl⟩:=hw
 have hZ:=fun st=>ZeI (.mk 0 0 .zero s ks) ⟨rfl,rfl,rfl,hs.1,hs.2,hk⟩ st
 have hM:=fun st=>Zfz s (by have:=hs.2;omega) st
 obtain ⟨T,hT⟩:∃ T:List Blk,T=[.arr 7 0 [(Tr.mk 0 0 .zero s ks).av],.arr 5 0 [.agg [.int .u64 0,.int .i64 0,.int .i64 0,.int .i64 0,.int .i64 0]],.arr 3 0 [.agg [.int .i64 (0:Nat),.str s,.nils]],.arr 3 0 [(Ye s).av]]:=⟨_,rfl⟩
 have hP':P (L++T) N I p:=hA.frame hP (fun i hi=>jL (hA.lt hP hi))
 obtain ⟨L1,I1,hS,hp⟩:=hA.leaf s hP' ho (by simp at hl;omega) hs
 have hTl:T.length=4:=by rw [hT];rfl
 have gT:∀ i b,T[i]?=some b->L1[L.length+i]?=some b:=by
  intro i b hb;have hi:i<T.length:=(List.getElem?_eq_some_iff.1 hb).1
  rw [hp.old _ (by rw [List.length_append];omega) (fun q=>by have:=hA.lt hP q;omega),Ju];exact hb
 have q0:=gT 0 _ (by rw [hT];rfl)
 have q1:=gT 1 _ (by rw [hT];rfl)
 have q3:=gT 3 _ (by rw [hT];rfl)
 have hlen:=hp.len;rw [List.length_append] at hlen;refine ⟨L1.set (L.length+1) (.arr 5 0 [Ro.av ⟨hd N,0,Ye s⟩]),I1,ZQt rfl ?_,?_⟩
 ·have e0:(⟨A,false,L⟩:St)=⟨A,false,L++[]⟩:=by rw [List.append_nil]
  rw [e0]
  obtain ⟨ka,hka⟩:∃ ka,Tr.avO ks=ka/\(ka=.nils\/ka=.lit []):=by
   cases ks with
   | none=>exact ⟨_,rfl,.inl rfl⟩
   | some l=>have:l=[]:=hk;subst this;exact ⟨_,rfl,.inr rfl⟩
  obtain ⟨hka,hka2⟩:=hka
  simp only [Tr.av,Mea.zero,hka] at *
  rcases hka2 with rfl|rfl
  all_goals repeat' (first|refine Yy rfl rfl rfl rfl rfl ?_|refine Qy rfl rfl rfl rfl ?_|refine Js rfl rfl rfl rfl rfl rfl rfl ?_|refine ZE ?_|refine ZD ?_|refine ZF rfl ?_|refine ZJ rfl rfl ?_|refine ZB rfl ?_|refine ZA ?_|(refine Zp rfl rfl (fun _=>?_) (fun _=>?_)<;>try (exfalso;omega))|refine ZG rfl ?_|refine Zj rfl rfl rfl ?_|refine ZC rfl rfl rfl (hZ _) ?_|refine ZC rfl rfl rfl (hM _) ?_|refine ZH ?_|refine ZI ?_)
  all_goals refine Qe ?_
  all_goals rw [hT] at hS
  all_goals repeat' (first|refine Qy rfl rfl rfl rfl ?_|refine ZS rfl q0 rfl rfl ?_|refine ZS rfl q3 rfl rfl ?_|refine Q5 q1 rfl rfl rfl rfl rfl ?_|refine ZE ?_|refine ZD ?_|refine ZF rfl ?_|refine ZJ rfl rfl ?_|refine Z0 rfl rfl ?_|refine ZB rfl ?_|refine ZA ?_|refine J2 rfl rfl ?_|refine JC rfl ?_|(refine Zd rfl rfl (fun _=>?_) (fun _=>?_)<;>try (exfalso;omega))|(refine Zp rfl rfl (fun _=>?_) (fun _=>?_)<;>try (exfalso;omega))|refine ZG rfl ?_|refine Zj rfl rfl rfl ?_|refine ZC rfl rfl rfl (hS) ?_|refine ZH ?_|refine ZP ?_|refine Zn ?_|refine ZO ?_|refine Za ?_|refine ZX rfl ?_)
  all_goals exact ZSV (r:=⟨hd N,0,Ye s⟩) (.inr rfl) rfl (List.getElem?_set_self (by omega)) rfl rfl
 ·refine ⟨hA.frame hp.p (fun i hi=>?_),by rw [List.length_set];omega,fun i h1 h2=>?_,fun i hi=>?_⟩
  ·rw [jS]
   rcases hp.own i hi with q|q
   ·have:=hA.lt hP q;omega
   ·rw [List.length_append] at q;omega
  ·rw [jS (by omega),hp.old i (by rw [List.length_append];omega) h2,ZgH h1]
  ·rcases hp.own i hi with q|q
   ·exact .inl q
   ·rw [List.length_append] at q;exact .inr (by omega)
structure RL (st:St) (lv b k:Nat):Prop where
 wr:st.wr lv
 h0:st.get lv b=some (r0 lv b k)
 h1:st.get lv (b+1)=some (r1 k)
 h2:st.get lv (b+2)=some r2
 h3:st.get lv (b+3)=some r3
def ZZE (st:St) (lv b k:Nat):St:=(st.upd lv b (r0 lv b (k+1))).upd lv (b+1) (r1 (k+1))
theorem ZLc {st:St} {lv b k:Nat} (h:RL st lv b k) (l' i':Nat):(ZZE st lv b k).get l' i'=if l'=lv/\i'=b+1 then some (r1 (k+1)) else if l'=lv/\i'=b then some (r0 lv b (k+1)) else st.get l' i':=by
 have g1:∀ l' i',(st.upd lv b (r0 lv b (k+1))).get l' i'=if l'=lv/\i'=b then some (r0 lv b (k+1)) else st.get l' i':=fun l' i'=>St.get_upd h.h0 rfl
 have b1:(st.upd lv b (r0 lv b (k+1))).get lv (b+1)=some (r1 k):=by rw [g1,if_neg (by omega)];exact h.h1
 rw [ZZE,St.get_upd b1 rfl,g1]
theorem RL.take {st:St} {lv b k:Nat} (h:RL st lv b k):RL (ZZE st lv b k) lv b (k+1):=by
 refine ⟨St.wr_upd (St.wr_upd h.wr h.wr) (St.wr_upd h.wr h.wr),?_,?_,?_,?_⟩
 ·rw [ZLc h,if_neg (by omega),if_pos ⟨rfl,rfl⟩]
 ·rw [ZLc h,if_pos ⟨rfl,rfl⟩]
 ·rw [ZLc h,if_neg (by omega),if_neg (by omega)];exact h.h2
 ·rw [ZLc h,if_neg (by omega),if_neg (by omega)];exact h.h3
theorem Zob {k:Nat} (hk:k<700):((List.range 700).map fun (j:Nat)=>AV.int .i64 ((700:Int)-1-j))[699-k]?=some (.int .i64 k):=by
 rw [jG,List.getElem?_range (by omega)]
 simp only [Option.map_some]
 congr 2;omega
theorem ZnX {st:St} {lv b k:Nat} (h:RL st lv b k) (hk:k<700) :
 S Tb YI [.ptr lv b 0 0 0] st=some (.tup [.int .u64 ((1*65536+k:Nat):Int),.int .i64 0],ZZE st lv b k):=by
 refine ZNQ rfl (fun A hA=>?_)
 have g0:=fun L=>ZV hA (ro:=false) (L:=L) h.h0
 have g3:=fun L=>ZV hA (ro:=false) (L:=L) h.h3
 unfold r0 at g0;unfold r3 at g3
 obtain ⟨q,hq⟩:∃ q,700-k=q+1:=⟨699-k,by omega⟩
 rw [hq] at g0
 have hM:=fun st=>ZjP k 1 (by omega) ⟨by omega,by omega⟩ st
 repeat' (first|refine ZE ?_|refine ZD ?_|refine ZF rfl ?_|refine ZJ rfl rfl ?_|refine ZB rfl ?_|refine ZA ?_|refine Z2 rfl rfl ?_|refine QJ rfl ?_|(refine Zq rfl rfl (fun _=>?_) (fun _=>?_)<;>try (exfalso;omega))|refine ZG rfl ?_|refine Ql rfl rfl (by omega) ?_|refine Q4 rfl rfl rfl rfl ?_|refine Z8 rfl (g0 _) rfl rfl ?_|refine ZH ?_)
 all_goals try (exfalso;omega)
 have hw1:∀ L,wIs 1 699 (St.get ⟨A,false,L⟩ lv (b+3))=true:=fun L=>by rw [g3];simp [wIs]
 refine Qg rfl rfl (by omega) (hw1 _) ?_
 refine Z8 (x:=.int .i64 k) rfl (g3 _) (by rw [show 0+(((q+1:Nat):Int)-1).toNat=699-k by omega];exact Zob hk) rfl ?_
 repeat' (first|refine ZE ?_|refine ZD ?_|refine ZF rfl ?_|refine ZJ rfl rfl ?_|refine ZB rfl ?_|refine ZA ?_|refine Z2 rfl rfl ?_|refine QJ rfl ?_|refine Ql rfl rfl (by omega) ?_|refine Z8 rfl (g0 _) rfl rfl ?_)
 refine ZAm rfl rfl (by omega) (hw1 _) ?_
 repeat' (first|refine ZJ rfl rfl ?_|refine Z2 rfl rfl ?_)
 have hle:=St.get_le h.h0;have h0':=h.h0;unfold r0 at h0';rw [hq] at h0'
 refine ZD7 hA rfl rfl h.wr h0' rfl (QX _ (Nat.lt_succ_self _)) rfl (fun A1 hA1=>?_)
 have eB:Blk.arr 4 0 ([AV.agg [.int .u64 3,.ref lv (b+1) 699 0 700,.ref lv (b+2) 699 0 700,.ref lv (b+3) 699 0 (q+1)]].set 0 (.agg [.int .u64 3,.ref lv (b+1) 699 0 700,.ref lv (b+2) 699 0 700,.ref lv (b+3) 699 0 (((q+1:Nat):Int)-1).toNat]))=r0 lv b (k+1):=by
  rw [show (((q+1:Nat):Int)-1).toNat=700-(k+1) by omega]
  rfl
 rw [eB] at hA1
 have q1:∀ l' i',(st.upd lv b (r0 lv b (k+1))).get l' i'=if l'=lv/\i'=b then some (r0 lv b (k+1)) else st.get l' i':=fun l' i'=>St.get_upd h.h0 rfl
 have hw:=St.wr_upd (b:=r0 lv b (k+1)) (ix:=b) h.wr h.wr
 have k0:(st.upd lv b (r0 lv b (k+1))).get lv b=some (r0 lv b (k+1)):=by rw [q1,if_pos ⟨rfl,rfl⟩]
 have k1:(st.upd lv b (r0 lv b (k+1))).get lv (b+1)=some (r1 k):=by rw [q1,if_neg (by omega)];exact h.h1
 have k2:(st.upd lv b (r0 lv b (k+1))).get lv (b+2)=some r2:=by rw [q1,if_neg (by omega)];exact h.h2
 have et:ZZE st lv b k=(st.upd lv b (r0 lv b (k+1))).upd lv (b+1) (r1 (k+1)):=rfl;rw [et]
 generalize st.upd lv b (r0 lv b (k+1))=st1 at *
 unfold r1 at k1;have k0':=k0;unfold r0 at k0'
 have m0:=fun L=>ZV hA1 (ro:=false) (L:=L) k0'
 have m1:=fun L=>ZV hA1 (ro:=false) (L:=L) k1
 have hw0:∀ L,wIs 1 699 (St.get ⟨A1,false,L⟩ lv (b+1))=true:=fun L=>by rw [m1];simp [wIs]
 repeat' (first|refine ZE ?_|refine ZD ?_|refine ZF rfl ?_|refine ZJ rfl rfl ?_|refine ZB rfl ?_|refine ZA ?_|refine Z2 rfl rfl ?_|refine Z8 rfl (m0 _) rfl rfl ?_|refine Qg rfl rfl (by omega) (hw0 _) ?_)
 refine ZD7 hA1 (y:=.int .i64 0) rfl rfl hw k1 ?_ rfl rfl (fun A2 hA2=>?_)
 ·rw [show 0+((k:Nat):Int).toNat=k by omega,jG,jG,List.getElem?_range (by omega)]
  simp
 have eS:Blk.arr 1 699 ((((List.range 700).map fun (j:Nat)=>if j<k then (1:Int) else 0).map (AV.int .i64)).set (0+((k:Nat):Int).toNat) (.int .i64 1))=r1 (k+1):=by
  rw [show 0+((k:Nat):Int).toNat=k by omega]
  unfold r1;rw [<- ZYz hk,List.map_set]
 rw [eS] at hA2
 have q2:∀ l' i',(st1.upd lv (b+1) (r1 (k+1))).get l' i'=if l'=lv/\i'=b+1 then some (r1 (k+1)) else st1.get l' i':=fun l' i'=>St.get_upd k1 rfl
 have n2:(st1.upd lv (b+1) (r1 (k+1))).get lv (b+2)=some r2:=by rw [q2,if_neg (by omega)];exact k2
 have n0:(st1.upd lv (b+1) (r1 (k+1))).get lv b=some (r0 lv b (k+1)):=by rw [q2,if_neg (by omega)];exact k0
 generalize st1.upd lv (b+1) (r1 (k+1))=st2 at *
 unfold r2 at n2;unfold r0 at n0
 have o2:=fun L=>ZV hA2 (ro:=false) (L:=L) n2
 have o0:=fun L=>ZV hA2 (ro:=false) (L:=L) n0
 have hw2:∀ L,wIs 1 699 (St.get ⟨A2,false,L⟩ lv (b+2))=true:=fun L=>by rw [o2];simp [wIs]
 repeat' (first|refine ZE ?_|refine ZD ?_|refine ZF rfl ?_|refine ZJ rfl rfl ?_|refine ZB rfl ?_|refine ZA ?_|refine Z2 rfl rfl ?_|refine Z8 rfl (o0 _) rfl rfl ?_|refine Qg rfl rfl (by omega) (hw2 _) ?_)
 refine Z8 (x:=.int .u64 1) rfl (o2 _) (by rw [show 0+((k:Nat):Int).toNat=k by omega,List.getElem?_replicate,if_pos hk]) rfl ?_
 repeat' (first|refine ZF rfl ?_|refine Z0 rfl rfl ?_|refine ZB rfl ?_|refine ZA ?_|refine ZC rfl rfl rfl (hM _) ?_|refine ZP ?_|refine ZO ?_)
 refine Ze hA2 (.inr rfl) rfl rfl rfl rfl ?_;rfl
section
variable {O:Orc} {k:List Fr} {Q:YY} {e:Env} {A:List (Bool × List Blk)} {L L0 T T':List Blk} {keep:List Nat} {is:List PI} {d:Nat}
theorem ZQc {st:St} {w:Nat} {x:Opd} {z v:AV} (hx:Zo e x=some v) (hw:v.wide=some w) (hi:imm 6 v=true) (h:Is O is keep k Q ((d,.lit [v])::e) st):Is O (⟨some d,none,false,.w .imm (.bslice false w [z] [(0,x)])⟩::is) keep k Q e st:=by
 refine ZbP (v:=.lit [v]) (st':=st) ?_ h
 have hf:fillE w [z] [(0,v)]=some [v]:=by simp [fillE,hw]
 simp only [QE,ZcY,JT,ZL hx,hf,Option.bind_some,ZS3,List.all_cons,List.all_nil,hi,Bool.and_self,if_true,List.isEmpty_cons,jB,if_false]
end
structure RHas (A:List (Bool × List Blk)) (L:List Blk) (b it:Nat) (N:ZQ):Prop where
 h0:L[b]?=some (r0 A.length b N.length)
 h1:L[b+1]?=some (r1 N.length)
 h2:L[b+2]?=some r2
 h3:L[b+3]?=some r3
 h4:L[b+4]?=some (r4 A.length b it N)
 hi:N≠[]->L[it]?=some (.arr 4 (N.length-1) (N.map ZDJ))
 ne:N≠[]->(it<b\/b+4<it)
theorem ZA0 {A:List (Bool × List Blk)} {L:List Blk} {i:Nat} {w v:Nat} {es:List AV} (h:L[i]?=some (.arr w v es)):St.get ⟨A,false,L⟩ A.length i=some (.arr w v es):=by
 rw [St.get_cur,h];rfl
theorem RHas.rrd {A:List (Bool × List Blk)} {L:List Blk} {b it:Nat} {N:ZQ} (h:RHas A L b it N):RRd ⟨A,false,L⟩ A.length (b+4) N:=by
 refine ⟨_,_,_,_,_,_,_,_,_,ZA0 h.h4,?_⟩
 cases N with
 | nil=>exact .nil
 | cons p N =>
  refine .ref (ZA0 (h.hi (by simp))) rfl ?_
  rw [List.take_of_length_le (by simp)]
theorem RHas.rl {A:List (Bool × List Blk)} {L:List Blk} {b it:Nat} {N:ZQ} (h:RHas A L b it N):RL ⟨A,false,L⟩ A.length b N.length :=
 ⟨by simp [St.wr],ZA0 h.h0,ZA0 h.h1,ZA0 h.h2,ZA0 h.h3⟩
theorem RHas.frame {A:List (Bool × List Blk)} {L L':List Blk} {b it:Nat} {N:ZQ} (h:RHas A L b it N) (h0:∀ i,b<=i->i<=b+4->L'[i]?=L[i]?) (h1:N≠[]->L'[it]?=L[it]?):RHas A L' b it N :=
 ⟨by rw [h0 _ (by omega) (by omega)];exact h.h0,by rw [h0 _ (by omega) (by omega)];exact h.h1,by rw [h0 _ (by omega) (by omega)];exact h.h2,by rw [h0 _ (by omega) (by omega)];exact h.h3,by rw [h0 _ (by omega) (by omega)];exact h.h4,fun q=>by rw [h1 q];exact h.hi q,h.ne⟩
theorem ZLd {A:List (Bool × List Blk)} {L:List Blk} {i:Nat} {b:Blk}:St.upd ⟨A,false,L⟩ A.length i b=⟨A,false,L.set i b⟩:=by simp [St.upd]
def ZD2 (A:List (Bool × List Blk)) (L:List Blk) (b k:Nat):List Blk:=(L.set b (r0 A.length b (k+1))).set (b+1) (r1 (k+1))
theorem Zjc {A:List (Bool × List Blk)} {L T:List Blk} {b k:Nat} (h:b+1<L.length):ZZE ⟨A,false,L++T⟩ A.length b k=⟨A,false,ZD2 A L b k++T⟩:=by
 unfold ZZE ZD2
 rw [ZLd,ZLd,List.set_append_left _ _ (by omega),List.set_append_left _ _ (by simp;omega)]
structure RPost (A:List (Bool × List Blk)) (L:List Blk) (b it:Nat) (N:ZQ) (x:Nd) (L':List Blk) (it':Nat):Prop where
 has:RHas A L' b it' (N++[(hd N,x)])
 len:L.length<L'.length
 old:∀ i,i<L.length->(i<b\/b+4<i)->(N=[]\/i≠it)->L'[i]?=L[i]?
 it:(N≠[]/\it'=it)\/(L.length<=it'/\it'<L'.length)
theorem ZcN {A:List (Bool × List Blk)} {L:List Blk} {b k:Nat}:(ZD2 A L b k).length=L.length:=by simp [ZD2]
theorem ZcO {A:List (Bool × List Blk)} {L:List Blk} {b k j:Nat} (hj:j≠b/\j≠b+1):(ZD2 A L b k)[j]?=L[j]?:=by
 unfold ZD2;rw [jS (by omega),jS (by omega)]
theorem ZnY {A:List (Bool × List Blk)} {L:List Blk} {b k:Nat} (h:b<L.length):(ZD2 A L b k)[b]?=some (r0 A.length b (k+1)):=by
 unfold ZD2;rw [jS (by omega),List.getElem?_set_self h]
theorem ZnZ {A:List (Bool × List Blk)} {L:List Blk} {b k:Nat} (h:b+1<L.length):(ZD2 A L b k)[b+1]?=some (r1 (k+1)):=by
 unfold ZD2;rw [List.getElem?_set_self (by simpa using h)]
theorem ZZF {A:List (Bool × List Blk)} {L:List Blk} {b it:Nat} {N:ZQ} (h:RHas A L b it N) (hl:N.length<700) (n:Nat) (s:List UInt8) (ks:List Kid) (w:AV) (hw:w.one=true)
 (hC:∀ T,S Tb Q8 [.agg [.int .i64 n,.str s,w]] (St.allRo ⟨A,false,ZD2 A L b N.length++T⟩)=some (Nd.av ⟨n,s,some ks⟩,St.allRo ⟨A,false,ZD2 A L b N.length++T⟩)) :
 Ru (S Tb) (.seq Yw (.seq (.seq YZ (.ite (.s 32) (.seq Ya .ret) .skip)) (.seq Yb (.seq Yc (.seq Yd .ret))))) []
  (fun x e st'=>∃ v st'',Jv true [RV.s 4,RV.s 5] (x,e,st')=some (v,st'')/\v=.tup [.int .u64 ((hd N:Nat):Int),.int .i64 0]/\∃ L' it',st''=⟨A,false,L'⟩/\RPost A L b it N ⟨n,s,some ks⟩ L' it')
  [(0,.ptr A.length (b+4) 0 0 0),(3,.ptr A.length (L.length+0) 0 0 0),(7,.int .i64 0),(21,.bool false)] ⟨A,false,L++[.arr 3 0 [.agg [.int .i64 n,.str s,w]]]⟩:=by
 have hb4:=(List.getElem?_eq_some_iff.1 h.h4).1
 have hF:∀ T,RHas A (L++T) b it N:=fun T=>h.frame (fun i h1 h2=>jL (by omega)) (fun q=>jL (List.getElem?_eq_some_iff.1 (h.hi q)).1)
 have hT:=fun T=>ZnX (hF T).rl hl
 simp only [Zjc (show b+1<L.length by omega)] at hT
 have g4:∀ T,(L++T)[b+4]?=some (r4 A.length b it N):=fun T=>(hF T).h4
 unfold r4 at g4
 repeat' (first|refine ZS rfl (g4 _) rfl rfl ?_|refine ZE ?_|refine ZD ?_|refine ZF rfl ?_|refine ZJ rfl rfl ?_|refine Z0 rfl rfl ?_|refine ZB rfl ?_|refine ZA ?_|refine Z2 rfl rfl ?_|(refine Zp rfl rfl (fun _=>?_) (fun _=>?_)<;>try (exfalso;omega))|refine ZG rfl ?_|refine ZC rfl rfl rfl (hT _) ?_|refine ZH ?_)
 have tl:=ZcN (A:=A) (L:=L) (b:=b) (k:=N.length)
 have k0:=ZnY (A:=A) (k:=N.length) (show b<L.length by omega)
 have k1:=ZnZ (A:=A) (k:=N.length) (show b+1<L.length by omega)
 have kj:=fun j (hj:j≠b/\j≠b+1)=>ZcO (A:=A) (L:=L) (k:=N.length) hj
 generalize ZD2 A L b N.length=L1 at *
 rw [<- tl]
 have q4:∀ T,(L1++T)[b+4]?=some (r4 A.length b it N):=fun T=>by
  rw [jL (by omega),kj _ (by omega)];exact h.h4
 unfold r4 at q4;simp only [Nd.av,slV] at hC
 repeat' (first|refine Qy rfl rfl rfl rfl ?_|refine ZS rfl (q4 _) rfl rfl ?_|refine ZF rfl ?_|refine Zj rfl rfl rfl ?_|refine JI rfl rfl rfl (hC _) ?_|refine ZQc rfl rfl rfl ?_)
 cases N with
 | nil =>
  refine ZQb rfl rfl (by decide) rfl rfl rfl ?_
  have q5:∀ T,(L1++T)[b+4]?=some (r4 A.length b it []):=q4;unfold r4 itV at q5
  repeat' (first|refine ZJ rfl rfl ?_|refine Z2 rfl rfl ?_)
  refine Q5 (q5 _) rfl rfl rfl (QX _ (Nat.lt_succ_self _)) rfl ?_;generalize hL2:List.set _ (b+4) _=L2
  have l2:L2.length=L1.length+2:=by rw [<- hL2];simp
  have g2:L2[b+4]?=some (.arr 9 0 [.agg [.ptr A.length b 0 0 0,.ref A.length (L1.length+1) 0 0 1,.int .i64 0,.int .i64 0,.int .i64 0,.int .i64 0,.int .i64 0,.int .i64 0,.int .i64 0]]):=by
   rw [<- hL2,List.getElem?_set_self (by simp;omega)];rfl
  have o2:∀ j,j≠b+4->L2[j]?=(L1++[Blk.arr 3 0 [AV.agg [AV.int .i64 n,.str s,w]],Blk.arr 4 0 [ZDJ (hd [],⟨n,s,some ks⟩)]])[j]?:=by
   intro j hj
   rw [<- hL2,jS (by omega)];rfl
  clear hL2
  repeat' (first|refine ZS rfl g2 rfl rfl ?_|refine ZE ?_|refine ZD ?_|refine ZF rfl ?_|refine ZJ rfl rfl ?_|refine ZB rfl ?_|refine ZA ?_|refine Z2 rfl rfl ?_|refine Zb rfl rfl (by omega) ?_)
  refine Q5 g2 rfl rfl rfl rfl rfl ?_
  repeat' (first|refine ZE ?_|refine ZD ?_|refine ZF rfl ?_|refine ZB rfl ?_|refine ZA ?_|refine ZP ?_|refine ZO ?_)
  have n4:∀ j,j≠b+4->∀ X,(L2.set (b+4) X)[j]?=(L1++[Blk.arr 3 0 [AV.agg [AV.int .i64 n,.str s,w]],Blk.arr 4 0 [ZDJ (hd [],⟨n,s,some ks⟩)]])[j]?:=by
   intro j hj X
   rw [jS (by omega),o2 j hj]
  refine ⟨_,_,ZfE (.inr rfl) rfl rfl rfl rfl,rfl,_,L1.length+1,rfl,⟨⟨?_,?_,?_,?_,?_,?_,?_⟩,?_,?_,?_⟩⟩
  ·rw [n4 _ (by omega),jL (by omega)];exact k0
  ·rw [n4 _ (by omega),jL (by omega)];exact k1
  ·rw [n4 _ (by omega),jL (by omega),kj _ (by omega)];exact h.h2
  ·rw [n4 _ (by omega),jL (by omega),kj _ (by omega)];exact h.h3
  ·rw [List.getElem?_set_self (by omega)];rfl
  ·intro _;rw [n4 _ (by omega),List.getElem?_append_right (by omega)]
   rw [show L1.length+1-L1.length=1 by omega];rfl
  ·intro _;omega
  ·rw [List.length_set];omega
  ·intro i h1 h2 h3
   rw [n4 _ (by omega),jL (by omega),kj _ (by omega)]
  ·rw [List.length_set];right;omega
 | cons p N =>
  have hit:=h.hi (by simp)
  have hne:=h.ne (by simp)
  have hil:=(List.getElem?_eq_some_iff.1 hit).1
  have q6:∀ T,(L1++T)[it]?=some (.arr 4 N.length ((p::N).map ZDJ)):=fun T=>by
   rw [jL (by omega),kj _ (by omega)];exact hit
  refine ZCB rfl rfl (q6 _) (by simp) (by simp at hl ⊢;omega) (by decide) rfl rfl ?_
  generalize hL3:List.set _ it _=L3
  have l3:L3.length=L1.length+1:=by rw [<- hL3];simp
  have i3:L3[it]?=some (.arr 4 (N.length+1) ((p::N++[(hd (p::N),(⟨n,s,some ks⟩:Nd))]).map ZDJ)):=by
   rw [<- hL3,List.getElem?_set_self (by simp;omega),List.map_append];rfl
  have o3:∀ j,j≠it->L3[j]?=(L1++[Blk.arr 3 0 [AV.agg [AV.int .i64 n,.str s,w]]])[j]?:=by
   intro j hj
   rw [<- hL3,jS (by omega)]
  clear hL3
  have q5:L3[b+4]?=some (r4 A.length b it (p::N)):=by rw [o3 _ (by omega)];exact q4 _
  unfold r4 itV at q5
  repeat' (first|refine ZJ rfl rfl ?_|refine Z2 rfl rfl ?_)
  refine Q5 q5 rfl rfl rfl (QX _ (Nat.lt_succ_self _)) rfl ?_;generalize hL2:List.set _ (b+4) _=L2
  have l2:L2.length=L1.length+1:=by rw [<- hL2];simp;omega
  have g2:L2[b+4]?=some (.arr 9 0 [.agg [.ptr A.length b 0 0 0,.ref A.length it (N.length+1) 0 (N.length+1+1),.int .i64 0,.int .i64 0,.int .i64 0,.int .i64 0,.int .i64 ((p::N).length:Nat),.int .i64 0,.int .i64 0]]):=by
   rw [<- hL2,List.getElem?_set_self (by omega)];rfl
  have o2:∀ j,j≠b+4->L2[j]?=L3[j]?:=by
   intro j hj
   rw [<- hL2,jS (by omega)]
  clear hL2
  repeat' (first|refine ZS rfl g2 rfl rfl ?_|refine ZE ?_|refine ZD ?_|refine ZF rfl ?_|refine ZJ rfl rfl ?_|refine ZB rfl ?_|refine ZA ?_|refine Z2 rfl rfl ?_|refine Zb rfl rfl (by omega) ?_)
  refine Q5 g2 rfl rfl rfl rfl rfl ?_
  repeat' (first|refine ZE ?_|refine ZD ?_|refine ZF rfl ?_|refine ZB rfl ?_|refine ZA ?_|refine ZP ?_|refine ZO ?_)
  have n4:∀ j,j≠b+4->∀ X,(L2.set (b+4) X)[j]?=L3[j]?:=by
   intro j hj X
   rw [jS (by omega),o2 j hj]
  refine ⟨_,_,ZfE (.inr rfl) rfl rfl rfl rfl,rfl,_,it,rfl,⟨⟨?_,?_,?_,?_,?_,?_,?_⟩,?_,?_,?_⟩⟩
  ·rw [n4 _ (by omega),o3 _ (by omega),jL (by omega),List.length_append];exact k0
  ·rw [n4 _ (by omega),o3 _ (by omega),jL (by omega),List.length_append];exact k1
  ·rw [n4 _ (by omega),o3 _ (by omega),jL (by omega),kj _ (by omega)];exact h.h2
  ·rw [n4 _ (by omega),o3 _ (by omega),jL (by omega),kj _ (by omega)];exact h.h3
  ·rw [List.getElem?_set_self (by omega)]
   simp only [r4,itV,List.cons_append,List.length_append,List.length_cons,List.length_nil];rfl
  ·intro _;rw [n4 _ (by omega),i3]
   simp
  ·intro _;omega
  ·rw [List.length_set];omega
  ·intro i h1 h2 h3
   have h4:i≠it:=by rcases h3 with q|q;simp at q;exact q
   rw [n4 _ (by omega),o3 _ h4,jL (by omega),kj _ (by omega)]
  ·exact .inl ⟨by simp,rfl⟩
theorem ZgI {A:List (Bool × List Blk)} {L:List Blk} {b it:Nat} {N:ZQ} (h:RHas A L b it N) (hl:N.length<700) (s:List UInt8) (hs:ZAc s) :
 ∃ L' it',S Tb QL [.ptr A.length (b+4) 0 0 0,.agg [.int .i64 (0:Nat),.str s,.nils]] ⟨A,false,L⟩=some (.tup [.int .u64 ((hd N:Nat):Int),.int .i64 0],⟨A,false,L'⟩)/\RPost A L b it N ⟨0,s,some []⟩ L' it':=by
 have hN:=fun st=>ZSz ⟨0,s,none⟩ (.inl ⟨rfl,hs.1,hs.2,rfl⟩) st
 simp only [Nd.av,slV] at hN
 have hK:=fun st=>ZeV (lv:=A.length) (ix:=b+4) s (st:=st)
 suffices q:Sp Tb QL [.ptr A.length (b+4) 0 0 0,.agg [.int .i64 (0:Nat),.str s,.nils]] ⟨A,false,L⟩ fun v st'=>v=.tup [.int .u64 ((hd N:Nat):Int),.int .i64 0]/\∃ L' it',st'=⟨A,false,L'⟩/\RPost A L b it N ⟨0,s,some []⟩ L' it' by
  obtain ⟨v,st',h1,rfl,L',it',rfl,h2⟩:=q;exact ⟨L',it',h1,h2⟩
 refine ZVe rfl ?_
 have e0:(⟨A,false,L⟩:St)=⟨A,false,L++[]⟩:=by rw [List.append_nil]
 rw [e0]
 repeat' (first|refine Yy rfl rfl rfl rfl rfl ?_|refine Qy rfl rfl rfl rfl ?_|exact ZZF h hl 0 s [] .nils rfl (fun T=>ZbW s _)|refine ZE ?_|refine ZD ?_|refine ZF rfl ?_|refine ZB rfl ?_|refine ZA ?_|(refine Zp rfl rfl (fun _=>?_) (fun _=>?_)<;>try (exfalso;omega))|refine ZG rfl ?_|refine Q4 rfl rfl rfl rfl ?_|refine ZC rfl rfl rfl (hN _) ?_|refine ZC rfl rfl rfl (hK _) ?_|refine ZH ?_)
theorem Zjd {A:List (Bool × List Blk)} {L:List Blk} {b it:Nat} {N:ZQ} (h:RHas A L b it N) (hl:N.length<700) (n:Nat) (hn:n<=15) (ks:List Kid) (hk:2<=ks.length/\ks.length<=4) (hs:∀ k∈ks,KidOk n k) (hsum:(QK (ks.map Kid.m)).b<=65536) (hL:ZDI N n ks)
 {kx ver:Nat} (hr:KRef ⟨A,false,L⟩ A.length kx ver ks) (hne:kx≠b/\kx≠b+1) :
 ∃ L' it',S Tb QL [.ptr A.length (b+4) 0 0 0,ndR (n+1) A.length kx ver ks.length] ⟨A,false,L⟩=some (.tup [.int .u64 ((hd N:Nat):Int),.int .i64 0],⟨A,false,L'⟩)/\RPost A L b it N ⟨n+1,[],some ks⟩ L' it':=by
 obtain ⟨es,g,ge⟩:=hr
 have g0:L[kx]?=some (.arr 4 ver es):=by rw [St.get_cur] at g;exact ZYp g
 have hkl:=(List.getElem?_eq_some_iff.1 g0).1
 have hr1:∀ T,KRef ⟨A,false,L++T⟩ A.length kx ver ks:=fun T=>⟨es,ZA0 (by rw [jL hkl];exact g0),ge⟩
 have hr2:∀ T,KRef ⟨A,false,ZD2 A L b N.length++T⟩ A.length kx ver ks:=fun T=>⟨es,ZA0 (by rw [jL (by rw [ZcN];exact hkl),ZcO hne];exact g0),ge⟩
 have hF:∀ T,RHas A (L++T) b it N:=fun T=>h.frame (fun i h1 h2=>jL (by have:=(List.getElem?_eq_some_iff.1 h.h4).1;omega)) (fun q=>jL (List.getElem?_eq_some_iff.1 (h.hi q)).1)
 have hN:=fun T=>ZbT n hn ks hk hs hsum _ (hr1 T)
 have hK:=fun T=>Zhm (hF T).rrd (by omega) n hn ks hk.2 hL (hr1 T)
 have hE:=ZZF h hl (n+1) [] ks (.ref A.length kx ver 0 ks.length) rfl (fun T=>ZeM n ks hk.2 _ (hr2 T).allRo)
 unfold ndR at *
 suffices q:Sp Tb QL [.ptr A.length (b+4) 0 0 0,.agg [.int .i64 ((n+1:Nat):Int),.str [],.ref A.length kx ver 0 ks.length]] ⟨A,false,L⟩ fun v st'=>v=.tup [.int .u64 ((hd N:Nat):Int),.int .i64 0]/\∃ L' it',st'=⟨A,false,L'⟩/\RPost A L b it N ⟨n+1,[],some ks⟩ L' it' by
  obtain ⟨v,st',h1,rfl,L',it',rfl,h2⟩:=q;exact ⟨L',it',h1,h2⟩
 refine ZVe rfl ?_
 have e0:(⟨A,false,L⟩:St)=⟨A,false,L++[]⟩:=by rw [List.append_nil]
 rw [e0]
 repeat' (first|refine Yy rfl rfl rfl rfl rfl ?_|refine Qy rfl rfl rfl rfl ?_|exact hE|refine ZE ?_|refine ZD ?_|refine ZF rfl ?_|refine ZB rfl ?_|refine ZA ?_|(refine Zp rfl rfl (fun _=>?_) (fun _=>?_)<;>try (exfalso;omega))|refine ZG rfl ?_|refine Q4 rfl rfl rfl rfl ?_|refine ZC rfl rfl rfl (hN _) ?_|refine ZC rfl rfl rfl (hK _) ?_|refine ZH ?_)
section
variable {O:Orc} {k:List Fr} {Q:YY} {e:Env} {A:List (Bool × List Blk)} {L:List Blk} {keep:List Nat} {is:List PI} {d:Nat}
theorem ZS1 {a b x:Opd} {n ix ver i o w vb ib ob:Nat} {es:List AV} {v v' y:AV} (hg:L[ix]?=some (Blk.arr w ver es)) (ha:Zo e a=some (.ptr A.length ix ver i o)) (hb:Zo e b=some (.ptr A.length ix vb ib ob)) (hx:Zo e x=some v) (hy:es[i]?=some y) (him:imm 6 v=true)
 (hs:Zi QU (A.length+1) ⟨A,false,L⟩ v=some (v,⟨A,false,L⟩)) (hv:(Q0 w y o n v).bind YP=some v') (h:Is O is keep k Q e ⟨A,false,L.set ix (Blk.arr w ver (es.set i v'))⟩):Is O (⟨none,none,false,.w (.plain b) (.st n a x)⟩::is) keep k Q e ⟨A,false,L⟩:=by
 have hlt:ix<L.length:=by
  rw [List.getElem?_eq_some_iff] at hg;exact hg.1
 have hv':Q0 w y o n v=some v':=by
  simp only [Option.bind_eq_some_iff] at hv;obtain ⟨u,h1,h2⟩:=hv;rw [h1,Y5 h2]
 refine QA (od:=none) (v:=.undef) (st':=⟨A,false,L.set ix (Blk.arr w ver (es.set i v'))⟩) ?_ h
 have hsb:ZFM (.ptr A.length ix ver i o) (.ptr A.length ix vb ib ob)=true:=by simp [ZFM]
 simp only [Zs,QE,ZNU,ZL ha,ZL hb,ZL hx,hsb,him,and_self,if_true];simp only [evalPO,ZL ha,ZL hx,ZAd,hs,Option.bind_some,ZD3,St.get_cur,hg,vis,XO,if_true,hy,hv',St.put,if_false,jB,if_pos hlt,ZBY]
end
def kvV (lv kx:Nat):Nat->AV
 | 0=>.nils
 | i+1=>.ref lv kx i 0 (i+1)
structure WInv (A:List (Bool × List Blk)) (P:List Blk->ZQ->(Nat->Prop)->Nat->Prop) (p:Nat) (L0:List Blk) (I0:Nat->Prop) (n:Nat) (N1:ZQ) (ts:List Tr) (l:List Kid) (i:Nat) (L:List Blk) (N:ZQ) (I:Nat->Prop) (kx:Nat):Prop where
 p:P L N I p
 le:i<=ts.length
 chain:ZYy (WrH n) N (ts.drop i) N1 (l.drop i)
 ord:Ord N
 own:∀ j,I j->I0 j\/L0.length+4<=j
 old:∀ j,j<L0.length->¬ I0 j->L[j]?=L0[j]?
 len:L0.length+4<=L.length
 b0:L[L0.length+0]?=some (.arr 7 0 [.agg [.int .u64 (0:Nat),.int .i64 ((n+1:Nat):Int),.int .i64 0,.int .i64 0,.int .i64 0,.str [],.lit (ts.map Tr.av)]])
 b1:L[L0.length+1]?=some (.arr 5 0 [.agg [.int .u64 0,.int .i64 0,.int .i64 0,.int .i64 0,.int .i64 0]])
 b2:L[L0.length+2]?=some (.arr 3 0 [.agg [.int .i64 ((n+1:Nat):Int),.str [],kvV A.length kx i]])
 b3:L[L0.length+3]?=some (.arr 3 0 [(QK ((l.take i).map Kid.m)).av])
 kb:i≠0->L[kx]?=some (.arr 4 (i-1) ((l.take i).map Kid.av))/\¬ I kx/\L0.length+4<=kx
theorem WInv.next {A:List (Bool × List Blk)} {P:List Blk->ZQ->(Nat->Prop)->Nat->Prop} (hA:∀ {L L' N I p},P L N I p->(∀ i,I i->L'[i]?=L[i]?)->P L' N I p) (hlt:∀ {L N I p i},P L N I p->I i->i<L.length)
 {p:Nat} {L0:List Blk} {I0:Nat->Prop} (h0:∀ j,I0 j->j<L0.length) {n:Nat} {N1:ZQ} {ts:List Tr} {l:List Kid} {i:Nat} {L:List Blk} {N:ZQ} {I:Nat->Prop} {kx:Nat} (h:WInv A P p L0 I0 n N1 ts l i L N I kx) (hi:i<ts.length)
 {k:Kid} {N2:ZQ} (hd:ZYy (WrH n) N2 (ts.drop (i+1)) N1 (l.drop (i+1))) (hk:l[i]?=some k) (ho:Ord N2) {L1:List Blk} {I1:Nat->Prop} (hp:APost (fun L N I=>P L N I p) L I N2 L1 I1)
 {L3:List Blk} {kx':Nat} (hlen:L1.length<=L3.length) (hkx:(i≠0/\kx'=kx)\/(i=0/\L1.length<=kx')) (hold:∀ j,j<L1.length->j≠L0.length+2->j≠L0.length+3->j≠kx'->L3[j]?=L1[j]?)
 (h2:L3[L0.length+2]?=some (.arr 3 0 [.agg [.int .i64 ((n+1:Nat):Int),.str [],kvV A.length kx' (i+1)]])) (h3:L3[L0.length+3]?=some (.arr 3 0 [(QK ((l.take (i+1)).map Kid.m)).av])) (h4:L3[kx']?=some (.arr 4 i ((l.take (i+1)).map Kid.av))) :
 WInv A P p L0 I0 n N1 ts l (i+1) L3 N2 I1 kx':=by
 have hI:∀ j,I j->j<L.length:=fun j hj=>hlt h.p hj
 have own1:∀ j,I1 j->I0 j\/L0.length+4<=j:=by
  intro j hj
  rcases hp.own j hj with q|q
  ·exact h.own j q
  ·have:=h.len;exact .inr (by omega)
 have hlen0:=h.len;have hlen1:=hp.len
 have nkx:¬ I1 kx':=by
  intro q;have hq:=hlt hp.p q
  rcases hkx with ⟨w1,rfl⟩|⟨w1,w2⟩
  ·obtain ⟨k1,k2,k3⟩:=h.kb w1
   rcases hp.own _ q with w|w
   ·exact k2 w
   ·have:=(List.getElem?_eq_some_iff.1 k1).1;omega
  ·omega
 have kge:L0.length+4<=kx':=by
  rcases hkx with ⟨w1,rfl⟩|⟨w1,w2⟩
  ·exact (h.kb w1).2.2
  ·omega
 have keep:∀ j,j<L0.length+2->¬ I0 j->L3[j]?=L[j]?:=by
  intro j hj hn
  rw [hold j (by omega) (by omega) (by omega) (by omega),hp.old j (by omega) (fun q=>by
   rcases h.own j q with w|w
   ·exact hn w
   ·omega)]
 have nI0:∀ j,L0.length<=j->¬ I0 j:=fun j hj q=>by have:=h0 j q;omega
 refine ⟨hA hp.p (fun j hj=>?_),hi,hd,ho,own1,fun j hj hn=>?_,by omega,?_,?_,h2,h3,fun _=>⟨h4,nkx,kge⟩⟩
 ·refine hold j (hlt hp.p hj) ?_ ?_ (fun q=>nkx (q▸hj))
  ·intro q;rcases own1 j hj with w|w
   ·have:=h0 j w;omega
   ·omega
  ·intro q;rcases own1 j hj with w|w
   ·have:=h0 j w;omega
   ·omega
 ·rw [keep j (by omega) hn];exact h.old j hj hn
 ·rw [keep _ (by omega) (nI0 _ (by omega))];exact h.b0
 ·rw [keep _ (by omega) (nI0 _ (by omega))];exact h.b1
theorem ZlX {a b:Nat} (h:a≠b):Nat.beq a b=false:=by
 cases h':Nat.beq a b
 ·rfl
 ·exact absurd (Nat.eq_of_beq_eq_true h') h
theorem w13 {k:List Fr} {Q:YY} {A:List (Bool × List Blk)} {L2:List Blk} {f v3 v4 v6 iv:AV} {jm rx:Nat} {mb mr ml:Int} {r:Ro} (h3:L2[jm]?=some (.arr 3 0 [.agg [.int .i64 mb,.int .i64 mr,.int .i64 ml]])) (h9:L2[rx]?=some (.arr 5 0 [r.av])) (hne:Nat.beq rx jm=false)
 (hb:0<=mb/\mb<=262144/\0<=mr/\mr<=262144/\0<=ml/\ml<=262144) (hr:0<=r.m.b/\r.m.b<=65536/\0<=r.m.r/\r.m.r<=65536/\0<=r.m.l/\r.m.l<=65536)
 (h:Rk (S Tb) k Q .norm [(0,f),(3,v3),(4,v4),(6,v6),(7,.ptr A.length jm 0 0 0),(8,iv)] ⟨A,false,L2.set jm (.arr 3 0 [.agg [.int .i64 (mb+r.m.b),.int .i64 (mr+r.m.r),.int .i64 (ml+r.m.l)]])⟩) :
 Ru (S Tb) ZAQ k Q [(0,f),(3,v3),(4,v4),(6,v6),(7,.ptr A.length jm 0 0 0),(8,iv),(9,.ptr A.length rx 0 0 0)] ⟨A,false,L2⟩:=by
 have hlt:=(List.getElem?_eq_some_iff.1 h3).1;unfold Ro.av at h9
 repeat' (first|refine ZS rfl h3 rfl rfl ?_|refine ZS rfl h9 rfl rfl ?_|refine ZLV rfl rfl hne h9 rfl rfl ?_|refine ZS1 h3 rfl rfl rfl rfl rfl rfl rfl ?_|refine ZD ?_|refine ZJ rfl rfl ?_|refine Zb rfl rfl (by omega) ?_)
 refine ZS1 (List.getElem?_set_self hlt) rfl rfl rfl rfl rfl rfl rfl ?_;rw [List.set_set]
 repeat' (refine ZJ rfl rfl ?_)
 refine Q5 (List.getElem?_set_self hlt) rfl rfl rfl rfl rfl ?_;rw [List.set_set];refine ZB rfl ?_;exact h
theorem ZlY {A:List (Bool × List Blk)} {g:FuncId} {P:List Blk->ZQ->(Nat->Prop)->Nat->Prop} (hA:Allocs A g P) {p n:Nat}
 (ih:∀ N t N' k,WrH n N t N' k->Ord N->N'.length<=700->∀ L I,P L N I p->∃ L' I',S Tb QG [.func (.func g) [.ptr A.length p 0 0 0] [],t.av] ⟨A,false,L⟩=some (.tup [Ro.av ⟨k.at_,n,k.m⟩,.int .i64 0],⟨A,false,L'⟩)/\APost (fun L N I=>P L N I p) L I N' L' I')
 {N N':ZQ} {t:Tr} {k:Kid} (hw:WrH (n+1) N t N' k) (ho:Ord N) (hl:N'.length<=700) {L:List Blk} {I:Nat->Prop} (hP:P L N I p) :
 ∃ L' I',S Tb QG [.func (.func g) [.ptr A.length p 0 0 0] [],t.av] ⟨A,false,L⟩=some (.tup [Ro.av ⟨k.at_,n+1,k.m⟩,.int .i64 0],⟨A,false,L'⟩)/\APost (fun L N I=>P L N I p) L I N' L' I':=by
 obtain ⟨ts,N1,l,rfl,hts,hn,hch,hll,hkid,hsum,hlive,rfl,rfl⟩:=hw
 have hZ:=fun st=>ZbR (.mk 0 (n+1) .zero [] (some ts)) ⟨rfl,rfl,rfl,Nat.succ_le_succ (Nat.zero_le _),by simp only [Tr.h];omega,hts.1,hts.2⟩ st
 have hM:=fun st=>Zfz [] (by decide) st
 have hlen1:N1.length<700:=by simp at hl;omega
 have hfit:∀ i,(QK ((l.take i).map Kid.m)).Fit 262144:=by
  intro i
  have:=ZE8 (l:=(l.take i).map Kid.m) (fun m hm=>by obtain ⟨k,hk,rfl⟩:=List.mem_map.1 hm;exact (hkid k (List.mem_of_mem_take hk)).fit)
  have hle:((l.take i).map Kid.m).length<=4:=by rw [List.length_map,List.length_take];omega
  obtain ⟨a,b,c,d,e,f⟩:=this
  exact ⟨a,by omega,c,by omega,e,by omega⟩
 have hlm:(ts.map Tr.av).length=ts.length:=List.length_map _
 suffices h:Sp Tb QG [.func (.func g) [.ptr A.length p 0 0 0] [],(Tr.mk 0 (n+1) .zero [] (some ts)).av] ⟨A,false,L⟩ fun v st'=>v=.tup [Ro.av ⟨hd N1,n+1,QK (l.map Kid.m)⟩,.int .i64 0]/\∃ L' I',st'=⟨A,false,L'⟩/\APost (fun L N I=>P L N I p) L I (N1++[(hd N1,⟨n+1,[],some l⟩)]) L' I' by
  obtain ⟨v,st',h1,rfl,L',I',rfl,h2⟩:=h;exact ⟨L',I',h1,h2⟩
 refine ZVe rfl ?_
 have e0:∀ L:List Blk,(⟨A,false,L⟩:St)=⟨A,false,L++[]⟩:=fun L=>by rw [List.append_nil]
 rw [e0];simp only [Tr.av,Tr.avO,Tr.avL_map,Mea.zero] at hZ ⊢;simp only [Zkw,Mea.zero,Mea.av] at hM
 repeat' (first|refine Yy rfl rfl rfl rfl rfl ?_|refine Qy rfl rfl rfl rfl ?_|refine Js rfl rfl rfl rfl rfl rfl rfl ?_|refine ZE ?_|refine ZD ?_|refine ZF rfl ?_|refine ZJ rfl rfl ?_|refine ZB rfl ?_|refine ZA ?_|(refine Zp rfl rfl (fun _=>?_) (fun _=>?_)<;>try (exfalso;omega))|refine ZG rfl ?_|refine Zj rfl rfl rfl ?_|refine ZC rfl rfl rfl (hZ _) ?_|refine ZC rfl rfl rfl (hM _) ?_|refine ZH ?_|refine ZI ?_)
 obtain ⟨T,hT⟩:∃ T:List Blk,T=[.arr 7 0 [.agg [.int .u64 (0:Nat),.int .i64 ((n+1:Nat):Int),.int .i64 0,.int .i64 0,.int .i64 0,.str [],.lit (ts.map Tr.av)]],.arr 5 0 [.agg [.int .u64 0,.int .i64 0,.int .i64 0,.int .i64 0,.int .i64 0]],.arr 3 0 [.agg [.int .i64 ((n+1:Nat):Int),.str [],.nils]],.arr 3 0 [.agg [.int .i64 0,.int .i64 0,.int .i64 0]]]:=⟨_,rfl⟩
 refine Zr (α:=Nat × List Blk × ZQ × (Nat->Prop) × Nat) (fun q=>[(0,.func (.func g) [.ptr A.length p 0 0 0] []),(3,.ptr A.length (L.length+0) 0 0 0),(4,.ptr A.length (L.length+1) 0 0 0),(6,.ptr A.length (L.length+2) 0 0 0),(7,.ptr A.length (L.length+3) 0 0 0),(8,.int .i64 q.1)])
  (fun q=>⟨A,false,q.2.1⟩) (fun q=>WInv A P p L I n N1 ts l q.1 q.2.1 q.2.2.1 q.2.2.2.1 q.2.2.2.2) (fun q=>ts.length-q.1) (0,L++T,N,I,0) rfl (by rw [hT];rfl) ?_ ?_
 ·have gT:∀ i,(L++T)[L.length+i]?=T[i]?:=fun i=>Ju
  refine ⟨hA.frame hP (fun i hi=>jL (hA.lt hP hi)),Nat.zero_le _,hch,ho,fun j hj=>.inl hj,fun j hj _=>jL hj,by rw [hT];simp,?_,?_,?_,?_,fun q=>absurd rfl q⟩
  ·rw [gT 0,hT];rfl
  ·rw [gT 1,hT];rfl
  ·rw [gT 2,hT];rfl
  ·rw [gT 3,hT];rfl
 rintro ⟨i,Li,Ni,Ii,kx⟩ inv
 simp only at inv ⊢
 have b0:=inv.b0;have hle:=inv.le
 repeat' (first|refine ZS rfl b0 rfl rfl ?_|refine ZLG rfl ?_|refine ZE ?_|refine ZD ?_|refine ZF rfl ?_|refine ZJ rfl rfl ?_|refine ZB rfl ?_|refine ZA ?_|(refine Zd rfl rfl (fun _=>?_) (fun _=>?_)<;>try (exfalso;omega))|refine ZU rfl ?_|refine ZG rfl ?_|refine Qc rfl rfl (by omega) Zv (fun _ _=>?_)|refine QD rfl (Zl _) ?_|refine ZH ?_|refine Zn ?_|refine ZI ?_|refine Za ?_|refine ZX rfl ?_|refine Zf ?_)
 ·rename_i hlt t ht
  have ht':ts[i]?=some t:=by rw [show i=((i:Nat):Int).toNat by omega];exact ht
  have hlt':i<ts.length:=by omega
  have hc0:=inv.chain;rw [ZLa ht'] at hc0;obtain ⟨N2,k,l1,hw,hc2,hl1⟩:=hc0
  have hk:l[i]?=some k:=by rw [<- List.head?_drop,hl1];rfl
  have hl2:l.drop (i+1)=l1:=by
   have:=ZLa hk
   rw [hl1] at this;exact ((List.cons.inj this).2).symm
  rw [<- hl2] at hc2;have hmono:=ZOS (ZiN n) _ _ _ _ hc2;have ho2:=Zoa _ _ _ _ _ hw inv.ord
  obtain ⟨L1,I1,hS,hp⟩:=ih Ni t N2 k hw inv.ord (by omega) Li Ii inv.p
  have hI0:∀ j,I j->j<L.length:=fun j hj=>hA.lt hP hj
  have hlen:=inv.len;have hlen1:=hp.len
  have own:∀ c,c<4->L1[L.length+c]?=Li[L.length+c]?:=fun c hc=>hp.old _ (by omega) (fun q=>by
   rcases inv.own _ q with w|w
   ·have:=hI0 _ w;omega
   ·omega)
  have c2:=own 2 (by omega)
  rw [inv.b2] at c2
  have c3:=own 3 (by omega)
  rw [inv.b3] at c3;have hkf:=(hkid k (jM hk)).fit;obtain ⟨f1,f2,f3,f4,f5,f6⟩:=hkf
  have hsum1:QK ((l.take (i+1)).map Kid.m)=(QK ((l.take i).map Kid.m)).add k.m:=by
   rw [Zm hk,List.map_append,ZK7];simp [QK,Mea.add_zero]
  obtain ⟨g1,g2,g3,g4,g5,g6⟩:=hfit i
  have hnext:=fun {L3:List Blk} {kx':Nat}=>WInv.next (A:=A) (P:=P) (p:=p) hA.frame hA.lt hI0 inv hlt' hc2 hk ho2 hp (L3:=L3) (kx':=kx')
  rw [hsum1] at hnext
  generalize QK ((l.take i).map Kid.m)=m at *
  obtain ⟨mb,mr,ml⟩:=m;simp only [Mea.av,Mea.add] at c3 hnext g1 g2 g3 g4 g5 g6
  refine ZC rfl rfl (by first|rfl|(simp only [List.nil_append,List.append_nil,List.cons_append,Zg,ZW,ZZ];rfl)) hS ?_
  rw [e0]
  have c2T:=fun T=>ZDK (T:=T) c2
  have c3T:=fun T=>ZDK (T:=T) c3
  rcases i with _|i
  ·have c2N:∀ T,(L1++T)[L.length+2]?=some (.arr 3 0 [.agg [.int .i64 ((n+1:Nat):Int),.str [],.nils]]):=c2T
   repeat' (first|refine Yy rfl rfl rfl rfl rfl ?_|refine Qy rfl rfl rfl rfl ?_|refine Js rfl rfl rfl rfl rfl rfl rfl ?_|refine ZS rfl (c2N _) rfl rfl ?_|refine ZQb rfl rfl (by decide) rfl rfl rfl ?_|refine Q5 (c2N _) rfl rfl rfl (QX _ (Nat.lt_succ_self _)) rfl ?_|refine w13 (r:=⟨k.at_,n,k.m⟩) (mb:=mb) (mr:=mr) (ml:=ml) ?_ ?_ ?_ ⟨g1,g2,g3,g4,g5,g6⟩ ⟨f1,f2,f3,f4,f5,f6⟩ ?_|refine ZE ?_|refine ZD ?_|refine ZF rfl ?_|refine ZJ rfl rfl ?_|refine Z0 rfl rfl ?_|refine ZB rfl ?_|refine ZA ?_|(refine Zp rfl rfl (fun _=>?_) (fun _=>?_)<;>try (exfalso;omega))|refine ZG rfl ?_|refine Zb rfl rfl (by omega) ?_|refine Zj rfl rfl rfl ?_|refine QR rfl rfl rfl rfl ?_|refine ZH ?_|refine Zt ?_|refine Zw ?_)
   ·rw [jS (by omega)];exact c3T _
   ·rw [jS (by omega),Ju];rfl
   ·exact ZlX (by omega)
   ·refine ⟨(1,_,N2,I1,L1.length+1),⟨rfl,rfl⟩,hnext (kx':=L1.length+1) ?_ (.inr ⟨rfl,by omega⟩) ?_ ?_ ?_ ?_,by simp only;omega⟩
    ·simp only [List.length_set,List.length_append];omega
    ·intro j j1 j2 j3 j4
     rw [jS (by omega),jS (by omega),jL j1]
    ·rw [jS (by omega),List.getElem?_set_self (by simp;omega)];rfl
    ·rw [List.getElem?_set_self (by simp;omega)]
    ·rw [jS (by omega),jS (by omega),Ju]
     have:l.take 1=[k]:=by rw [Zm hk];rfl
     rw [this];rfl
  ·obtain ⟨k1,k2,k3⟩:=inv.kb (by omega)
   have k1':L1[kx]?=some (.arr 4 i ((l.take (i+1)).map Kid.av)):=by
    rw [hp.old _ (List.getElem?_eq_some_iff.1 k1).1 k2];exact k1
   have kxl:=(List.getElem?_eq_some_iff.1 k1').1
   have k1T:=fun T=>ZDK (T:=T) k1'
   have ltake:((l.take (i+1)).map Kid.av).length=i+1:=by rw [List.length_map,List.length_take];omega
   have c2N:∀ T,(L1++T)[L.length+2]?=some (.arr 3 0 [.agg [.int .i64 ((n+1:Nat):Int),.str [],.ref A.length kx i 0 (i+1)]]):=c2T
   repeat' (first|refine Yy rfl rfl rfl rfl rfl ?_|refine Qy rfl rfl rfl rfl ?_|refine Js rfl rfl rfl rfl rfl rfl rfl ?_|refine ZS rfl (c2N _) rfl rfl ?_|refine ZCB rfl rfl (k1T _) ltake.symm (by omega) (by decide) rfl rfl ?_|refine ZE ?_|refine ZD ?_|refine ZF rfl ?_|refine ZJ rfl rfl ?_|refine Z0 rfl rfl ?_|refine ZB rfl ?_|refine ZA ?_|(refine Zp rfl rfl (fun _=>?_) (fun _=>?_)<;>try (exfalso;omega))|refine ZG rfl ?_|refine Zj rfl rfl rfl ?_|refine QR rfl rfl rfl rfl ?_|refine ZH ?_)
   refine Q5 (by rw [jS (by omega)];exact c2N _) rfl rfl rfl (QX _ (Nat.lt_succ_self _)) rfl ?_
   repeat' (first|refine w13 (r:=⟨k.at_,n,k.m⟩) (mb:=mb) (mr:=mr) (ml:=ml) ?_ ?_ ?_ ⟨g1,g2,g3,g4,g5,g6⟩ ⟨f1,f2,f3,f4,f5,f6⟩ ?_|refine ZD ?_|refine ZF rfl ?_|refine ZB rfl ?_|refine ZA ?_|refine Zb rfl rfl (by omega) ?_|refine Zt ?_|refine Zw ?_)
   ·rw [jS (by omega),jS (by omega)];exact c3T _
   ·rw [jS (by omega),jS (by omega),Ju];rfl
   ·exact ZlX (by omega)
   ·refine ⟨(i+1+1,_,N2,I1,kx),⟨rfl,rfl⟩,hnext (kx':=kx) ?_ (.inl ⟨by omega,rfl⟩) ?_ ?_ ?_ ?_,by simp only;omega⟩
    ·simp only [List.length_set,List.length_append];omega
    ·intro j j1 j2 j3 j4
     rw [jS (by omega),jS (by omega),jS (by omega),jL j1]
    ·rw [jS (by omega),List.getElem?_set_self (by simp;omega)];rfl
    ·rw [List.getElem?_set_self (by simp;omega)]
    ·rw [jS (by omega),jS (by omega),List.getElem?_set_self (by simp;omega),Zm hk,List.map_append];rfl
 ·have hie:i=ts.length:=by omega
  subst hie
  obtain ⟨q,hq⟩:∃ q,ts.length=q+1:=⟨ts.length-1,by omega⟩
  have hch2:=inv.chain;rw [List.drop_length] at hch2;obtain ⟨rfl,_⟩:=hch2
  obtain ⟨k1,k2,k3⟩:=inv.kb (by omega)
  have htl:l.take ts.length=l:=List.take_of_length_le (by omega)
  have b2:=inv.b2;have b3:=inv.b3;rw [htl] at k1 b3
  rw [show ts.length-1=q by omega] at k1
  have hkr:KRef ⟨A,false,Li⟩ A.length kx q l:=⟨_,ZA0 k1,by rw [List.take_of_length_le (by rw [List.length_map];exact Nat.le_refl _)]⟩
  obtain ⟨L2,I2,hS,hp⟩:=hA.inn n l inv.p inv.ord hlen1 hn ⟨by omega,by omega⟩ hkid hsum hlive hkr k2
  have hI0:∀ j,I j->j<L.length:=fun j hj=>hA.lt hP hj
  have hlen:=inv.len;have hlen2:=hp.len
  have own:∀ c,c<4->L2[L.length+c]?=Li[L.length+c]?:=fun c hc=>hp.old _ (by omega) (fun q=>by
   rcases inv.own _ q with w|w
   ·have:=hI0 _ w;omega
   ·omega)
  have q0:=own 0 (by omega)
  rw [b0] at q0
  have q1:=own 1 (by omega)
  rw [inv.b1] at q1
  have q3:=own 3 (by omega)
  rw [b3] at q3;unfold Mea.av at q3
  have b2':Li[L.length+2]?=some (.arr 3 0 [.agg [.int .i64 ((n+1:Nat):Int),.str [],.ref A.length kx q 0 l.length]]):=by
   rw [b2,hq,hll,hq];rfl
  unfold ndR at hS
  repeat' (first|refine ZS rfl b2' rfl rfl ?_|refine ZS rfl q0 rfl rfl ?_|refine ZS rfl q3 rfl rfl ?_|refine Q5 q1 rfl rfl rfl rfl rfl ?_|refine ZE ?_|refine ZD ?_|refine ZF rfl ?_|refine ZJ rfl rfl ?_|refine Z0 rfl rfl ?_|refine ZB rfl ?_|refine ZA ?_|(refine Zp rfl rfl (fun _=>?_) (fun _=>?_)<;>try (exfalso;omega))|refine ZG rfl ?_|refine Zj rfl rfl rfl ?_|refine ZC rfl rfl rfl (hS) ?_|refine ZH ?_|refine ZP ?_|refine ZO ?_)
  refine ⟨_,_,ZSV (r:=⟨hd N1,n+1,QK (l.map Kid.m)⟩) (.inr rfl) rfl (List.getElem?_set_self (by omega)) rfl rfl,rfl,_,I2,rfl,⟨hA.frame hp.p (fun i hi=>?_),by rw [List.length_set];omega,fun i h1 h2=>?_,fun i hi=>?_⟩⟩
  ·rw [jS]
   rcases hp.own i hi with w|w
   ·rcases inv.own i w with w|w
    ·have:=hI0 _ w;omega
    ·omega
   ·omega
  ·rw [jS (by omega), hp.old i (by omega) (fun w => by
    rcases inv.own i w with w|w
    ·exact h2 w
    ·omega),inv.old i h1 h2]
  ·rcases hp.own i hi with w|w
   ·rcases inv.own i w with w|w
    ·exact .inl w
    ·exact .inr (by omega)
   ·exact .inr (by omega)
theorem Zna {A:List (Bool × List Blk)} {g:FuncId} {P:List Blk->ZQ->(Nat->Prop)->Nat->Prop} (hA:Allocs A g P) {p:Nat}:∀ n N t N' k,WrH n N t N' k->Ord N->N'.length<=700->∀ L I,P L N I p ->
 ∃ L' I',S Tb QG [.func (.func g) [.ptr A.length p 0 0 0] [],t.av] ⟨A,false,L⟩=some (.tup [Ro.av ⟨k.at_,n,k.m⟩,.int .i64 0],⟨A,false,L'⟩)/\APost (fun L N I=>P L N I p) L I N' L' I':=by
 intro n
 induction n with
 | zero=>intro N t N' k hw ho hl L I hP;exact Zhn hA hw ho hl hP
 | succ n ih=>intro N t N' k hw ho hl L I hP;exact ZlY hA ih hw ho hl hP
def PA (A:List (Bool × List Blk)) (L:List Blk) (N:ZQ) (I:Nat->Prop) (p:Nat):Prop:=∃ b,p=b+5/\Has ⟨A,false,L⟩ A.length b (X4 N)/\∀ i,I i↔(b<=i/\i<=b+5)
def PB (A:List (Bool × List Blk)) (L:List Blk) (N:ZQ) (I:Nat->Prop) (p:Nat):Prop:=∃ b it,p=b+4/\RHas A L b it N/\∀ i,I i↔((b<=i/\i<=b+4)\/(N≠[]/\i=it))
theorem ZB1 {A:List (Bool × List Blk)} {L L':List Blk} {i:Nat} {o:Option Blk} (h:St.get ⟨A,false,L⟩ A.length i=o) (e:L'[i]?=L[i]?):St.get ⟨A,false,L'⟩ A.length i=o:=by
 rw [St.get_cur] at h ⊢;rw [e];exact h
theorem Has.frame {A:List (Bool × List Blk)} {L L':List Blk} {b:Nat} {r:AR} (h:Has ⟨A,false,L⟩ A.length b r) (h0:∀ i,b<=i->i<=b+5->L'[i]?=L[i]?):Has ⟨A,false,L'⟩ A.length b r :=
 ⟨by simp [St.wr],ZB1 h.h0 (h0 _ (by omega) (by omega)),ZB1 h.h1 (h0 _ (by omega) (by omega)),ZB1 h.h2 (h0 _ (by omega) (by omega)),ZB1 h.h3 (h0 _ (by omega) (by omega)),ZB1 h.h4 (h0 _ (by omega) (by omega)),ZB1 h.h5 (h0 _ (by omega) (by omega))⟩
theorem Has.lt {A:List (Bool × List Blk)} {L:List Blk} {b:Nat} {r:AR} (h:Has ⟨A,false,L⟩ A.length b r):b+5<L.length:=by
 have:=h.h5
 rw [St.get_cur] at this;exact ZWX this
theorem ZSW {A:List (Bool × List Blk)} {L:List Blk} {b s g:Nat} {r:AR} {x:Nd}:Yx ⟨A,false,L⟩ A.length b r s g x=⟨A,false,(((L.set (b+3) ((r.take s).b3 A.length b)).set b (r.take s).b0).set (b+4) (r.alloc s g x).b4).set (b+5) ((r.alloc s g x).b5 A.length b)⟩:=by
 unfold Yx QZ;rw [ZLd,ZLd,ZLd,ZLd]
theorem ZFH (A:List (Bool × List Blk)):Allocs A Qh (PA A):=by
 have fin:∀ {L:List Blk} {N:ZQ} {I:Nat->Prop} {b:Nat} (x:Nd),Has ⟨A,false,L⟩ A.length b (X4 N)->(∀ i,I i↔(b<=i/\i<=b+5))->N.length<700 ->
  APost (fun L N I=>PA A L N I (b+5)) L I (N++[(hd N,x.copy)]) ((((L.set (b+3) (((X4 N).take N.length).b3 A.length b)).set b ((X4 N).take N.length).b0).set (b+4) ((X4 N).alloc N.length 1 x).b4).set (b+5) (((X4 N).alloc N.length 1 x).b5 A.length b)) I:=by
  intro L N I b x h hI hl
  refine ⟨⟨b,rfl,?_,hI⟩,by simp,fun i h1 h2=>?_,fun i hi=>.inl hi⟩
  ·have:=h.alloc N.length 1 x
   rw [ZSW] at this;rw [<- Zha N x hl];exact this
  ·have:¬ (b<=i/\i<=b+5):=fun q=>h2 ((hI i).2 q)
   rw [jS (by omega),jS (by omega),jS (by omega),jS (by omega)]
 refine ⟨?_,?_,?_,?_⟩
 ·rintro L L' N I p ⟨b,rfl,h,hI⟩ hf
  exact ⟨b,rfl,h.frame (fun i h1 h2=>hf i ((hI i).2 ⟨h1,h2⟩)),hI⟩
 ·rintro L N I p i ⟨b,rfl,h,hI⟩ hi
  have:=h.lt
  have:=(hI i).1 hi
  omega
 ·rintro L N I p s ⟨b,rfl,h,hI⟩ ho hl hs
  have:=ZYu h (Zf5 ho hl) s hs
  rw [ZSW] at this;exact ⟨_,I,this,fin ⟨0,s,none⟩ h hI hl⟩
 ·rintro L N I p n ks kx ver ⟨b,rfl,h,hI⟩ ho hl hn hk hs hsum hL hr hne
  have:=ZlA h (Zf5 ho hl) n hn ks hk hs hsum hL hr (fun q=>hne ((hI kx).2 (by omega)))
  rw [ZSW] at this;exact ⟨_,I,this,fin ⟨n+1,[],some ks⟩ h hI hl⟩
theorem ZFI (A:List (Bool × List Blk)):Allocs A QL (PB A):=by
 have fin:∀ {L L':List Blk} {N:ZQ} {I:Nat->Prop} {b it it':Nat} {x:Nd},RHas A L b it N->(∀ i,I i↔((b<=i/\i<=b+4)\/(N≠[]/\i=it)))->RPost A L b it N x L' it' ->
  APost (fun L N I=>PB A L N I (b+4)) L I (N++[(hd N,x)]) L' (fun i=>(b<=i/\i<=b+4)\/i=it'):=by
  intro L L' N I b it it' x h hI hp
  refine ⟨⟨b,it',rfl,hp.has,fun i=>⟨fun q=>?_,fun q=>?_⟩⟩,Nat.le_of_lt hp.len,fun i h1 h2=>?_,fun i hi=>?_⟩
  ·rcases q with q|q
   ·exact .inl q
   ·exact .inr ⟨by simp,q⟩
  ·rcases q with q|q
   ·exact .inl q
   ·exact .inr q.2
  ·have h3:¬ (b<=i/\i<=b+4):=fun q=>h2 ((hI i).2 (.inl q))
   refine hp.old i h1 (by omega) ?_
   by_cases q:N=[]
   ·exact .inl q
   ·exact .inr (fun w=>h2 ((hI i).2 (.inr ⟨q,w⟩)))
  ·rcases hi with q|q
   ·exact .inl ((hI i).2 (.inl q))
   ·rcases hp.it with ⟨w1,w2⟩|w
    ·exact .inl ((hI i).2 (.inr ⟨w1,by omega⟩))
    ·exact .inr (by omega)
 refine ⟨?_,?_,?_,?_⟩
 ·rintro L L' N I p ⟨b,it,rfl,h,hI⟩ hf
  exact ⟨b,it,rfl,h.frame (fun i h1 h2=>hf i ((hI i).2 (.inl ⟨h1,h2⟩))) (fun q=>hf it ((hI it).2 (.inr ⟨q,rfl⟩))),hI⟩
 ·rintro L N I p i ⟨b,it,rfl,h,hI⟩ hi
  rcases (hI i).1 hi with q|⟨q1,q2⟩
  ·have:=(List.getElem?_eq_some_iff.1 h.h4).1;omega
  ·have:=(List.getElem?_eq_some_iff.1 (h.hi q1)).1;omega
 ·rintro L N I p s ⟨b,it,rfl,h,hI⟩ ho hl hs
  obtain ⟨L',it',h1,h2⟩:=ZgI h hl s hs;exact ⟨L',_,h1,fin h hI h2⟩
 ·rintro L N I p n ks kx ver ⟨b,it,rfl,h,hI⟩ ho hl hn hk hs hsum hL hr hne
  have:¬ (b<=kx/\kx<=b+4):=fun q=>hne ((hI kx).2 (.inl q))
  obtain ⟨L',it',h1,h2⟩:=Zjd h hl n hn ks hk hs hsum hL hr (by omega)
  exact ⟨L',_,h1,fin h hI h2⟩
theorem Zho {A:List (Bool × List Blk)} {t:Tr} (ht:IsEmpty t) (f:AV) (hf:weak f=f) (L:List Blk):S Tb QG [f,t.av] ⟨A,false,L⟩=some (.tup [Ro.zero.av,.int .i64 0],⟨A,false,L++[.arr 7 0 [t.av],.arr 5 0 [Ro.zero.av]]⟩):=by
 have hZ:=fun st=>ZbQ t ht st
 obtain ⟨o,h,m,s,k⟩:=t;have hk:=ht.ks
 obtain ⟨ka,hka,hka2⟩:∃ ka,Tr.avO k=ka/\(ka=.nils\/ka=.lit []):=by
  cases k with
  | none=>exact ⟨_,rfl,.inl rfl⟩
  | some l=>have:l=[]:=hk;subst this;exact ⟨_,rfl,.inr rfl⟩
 refine ZQt rfl ?_
 have e0:∀ L:List Blk,(⟨A,false,L⟩:St)=⟨A,false,L++[]⟩:=fun L=>by rw [List.append_nil]
 rw [e0 L]
 simp only [Tr.av,hka] at *
 rcases hka2 with rfl|rfl
 all_goals repeat' (first|refine Yy rfl rfl rfl rfl rfl ?_|refine Qy rfl rfl rfl rfl ?_|refine Js rfl rfl rfl rfl rfl rfl rfl ?_|refine ZE ?_|refine ZD ?_|refine ZF rfl ?_|refine ZB rfl ?_|refine ZA ?_|refine ZU rfl ?_|refine Zj rfl rfl rfl ?_|refine ZC rfl rfl rfl (hZ _) ?_|refine ZP ?_|refine ZO ?_|refine ZY ?_)
 all_goals refine ZSV (r:=Ro.zero) (ix:=L.length+1) (ver:=0) (.inr rfl) rfl ?_ rfl rfl
 all_goals rw [Ju]
 all_goals rfl
def RootOk (N:ZQ) (r:Ro):Prop:=r=.zero\/∃ x,lk N r.at_=some x/\NdOk x/\r.at_≠0/\x.h=r.h/\x.mea=r.m
theorem RootOk.mono {N T:ZQ} {r:Ro} (h:RootOk N r):RootOk (N++T) r:=by
 rcases h with h|⟨x,h1,h2⟩
 ·exact .inl h
 ·exact .inr ⟨x,ZVi h1,h2⟩
theorem Zje {t:Tr} (ht:VE [] t) {N:ZQ} (hN:GoodN N) (ho:Ord N) (hb:4*(N.length:Int)+t.bytes+4<=2800) :
 ∃ N' r T,N'=N++T/\GoodN N'/\Ord N'/\RootOk N' r/\r.m.b=t.bytes/\4*(N'.length:Int)<=4*N.length+t.bytes+4 /\
  ∀ (A:List (Bool × List Blk)) (g:FuncId) (P:List Blk->ZQ->(Nat->Prop)->Nat->Prop),Allocs A g P->∀ L I p,P L N I p ->
   ∃ L' I',S Tb QG [.func (.func g) [.ptr A.length p 0 0 0] [],t.av] ⟨A,false,L⟩=some (.tup [r.av,.int .i64 0],⟨A,false,L'⟩)/\APost (fun L N I=>P L N I p) L I N' L' I':=by
 rcases ht with ht|hv
 ·refine ⟨N,.zero,[],by simp,hN,ho,.inl rfl,ht.bytes.symm,by rw [ht.bytes];omega,fun A g P hA L I p hP=>?_⟩
  refine ⟨_,I,Zho ht _ rfl L,hA.frame hP (fun i hi=>jL (hA.lt hP hi)),by simp,fun i h1 _=>jL h1,fun i hi=>.inl hi⟩
 ·obtain ⟨N',k,T,w⟩:=Zos t.h t hv rfl N hN ho (by omega)
  have hf:=w.few
  have hlen:N'.length=N.length+T.length:=by rw [w.app,List.length_append]
  obtain ⟨y,y1,y2,y3,y4⟩:=w.live
  refine ⟨N',⟨k.at_,t.h,k.m⟩,T,w.app,w.good,w.ord,.inr ⟨y,y1,y2,?_,y3,y4⟩,w.bytes,by omega,fun A g P hA L I p hP=>?_⟩
  ·intro q;exact absurd w.hnd.2.1 (by simp only at q;rw [q];decide)
  ·exact Zna hA t.h N t N' k w.wr ho (by omega) L I hP
def rvV (lv kx:Nat):List Ro->AV
 | []=>.nils
 | r::rs=>.ref lv kx rs.length 0 (rs.length+1)
structure LInv (A:List (Bool × List Blk)) (L0:List Blk) (texts:List (List UInt8)) (i:Nat) (L:List Blk) (N:ZQ) (Ia Ib:Nat->Prop) (rs:List Ro) (kx:Nat):Prop where
 pa:PA A L N Ia (L0.length+6)
 pb:PB A L N Ib (L0.length+11)
 dis:∀ j,Ia j->¬ Ib j
 good:GoodN N
 ord:Ord N
 le:i<=texts.length
 few:4*N.length<=((texts.take i).map List.length).sum+4*i
 rlen:rs.length=i
 roots:∀ r∈rs,RootOk N r
 rb:∀ (j:Nat) (r:Ro) (s:List UInt8),rs[j]?=some r->texts[j]?=some s->r.m.b=s.length
 owna:∀ j,Ia j->L0.length+1<=j/\j≠L0.length+12
 ownb:∀ j,Ib j->L0.length+1<=j/\j≠L0.length+12
 old:∀ j,j<L0.length->L[j]?=L0[j]?
 len:L0.length+13<=L.length
 b2:L[L0.length+0]?=some (.arr 3 0 [.agg [.nilptr,.nilptr,.nils]])
 b8:L[L0.length+12]?=some (.arr 3 0 [.agg [.ptr A.length (L0.length+6) 0 0 0,.ptr A.length (L0.length+11) 0 0 0,rvV A.length kx rs]])
 kb:rs≠[]->L[kx]?=some (.arr 5 (rs.length-1) (rs.map Ro.av))/\¬ Ia kx/\¬ Ib kx/\L0.length+13<=kx
theorem Znv (r:Ro):eqV [(0,0),(1,0),(2,0),(3,0),(4,0)] 0 r.av r.av=some true:=by
 show (if decide ((r.at_:Int)=r.at_)=true then (if decide ((r.h:Int)=r.h)=true then (if decide (r.m.b=r.m.b)=true then (if decide (r.m.r=r.m.r)=true then (if decide (r.m.l=r.m.l)=true then some true else some false) else some false) else some false) else some false) else some false)=_
 simp
theorem ZSX {b lv i j:Nat} (st:St) (h:lv<b):Zi QU b st (.agg [.ptr lv i 0 0 0,.ptr lv j 0 0 0,.nils])=some (.agg [.ptr lv i 0 0 0,.ptr lv j 0 0 0,.nils],st):=by
 simp only [Zi,QU,mapSt,keepN,Xp,Option.bind_some,if_pos h,XW,ZOV,jB,if_false,if_true]
theorem ZZG {b lv i j kx w n:Nat} (st:St) (h:lv<b):Zi QU b st (.agg [.ptr lv i 0 0 0,.ptr lv j 0 0 0,.ref lv kx w 0 n])=some (.agg [.ptr lv i 0 0 0,.ptr lv j 0 0 0,.ref lv kx w 0 n],st):=by
 simp only [Zi,QU,mapSt,keepN,Xp,Option.bind_some,if_pos h,XW,ZOV,jB,if_false,if_true]
theorem ZcP {e:Env} {A:List (Bool × List Blk)} {L:List Blk} {x:Ex} {b c ix ver:Nat} {u1 u2 u3 y u:AV} (hx:x=.norm\/x=.ret) (hb:Jw e b=some (.ptr A.length ix ver 0 0)) (hg:L[ix]?=some (.arr 3 ver [.agg [u1,u2,u3]])) (hc:Jw e c=some y) (hu:.tup [.agg [u1,u2,u3],y]=u):Jv true [.c b true 3,.s c] (x,e,⟨A,false,L⟩)=some (u,⟨A,false,L⟩):=by
 subst hu
 have h1:ZBZ ⟨A,false,L⟩ e (.c b true 3)=some (.agg [u1,u2,u3]):=by
  simp only [ZBZ,QN hb,loadP,St.get_cur,hg,vis,ZIy,if_true,List.getElem?_cons_zero,Option.bind_some];rfl
 have h2:Qn ⟨A,false,L⟩ e [.c b true 3,.s c]=some (.tup [.agg [u1,u2,u3],y]):=by
  simp only [Qn,ZDL,h1,Option.bind_some];simp only [ZBZ,QN hc,Option.bind_some,Option.map_some,ZHL]
 rcases hx with rfl|rfl<;>simp only [Jv,h2,Option.bind_some,if_true,Qd]
theorem LInv.next {A:List (Bool × List Blk)} {L0:List Blk} {texts:List (List UInt8)} {i:Nat} {L:List Blk} {N:ZQ} {Ia Ib:Nat->Prop} {rs:List Ro} {kx:Nat} (inv:LInv A L0 texts i L N Ia Ib rs kx) {s:List UInt8} (hs:texts[i]?=some s)
 {N' T:ZQ} {r:Ro} (happ:N'=N++T) (hgood:GoodN N') (hord:Ord N') (rok:RootOk N' r) (rb:r.m.b=s.length) (few:4*(N'.length:Int)<=4*N.length+s.length+4)
 {L1 L2 L3:List Blk} {Ia' Ib':Nat->Prop} {b10 b11:Blk} (ha:APost (fun L N I=>PA A L N I (L0.length+6)) (L++[b10]) Ia N' L1 Ia') (hb:APost (fun L N I=>PB A L N I (L0.length+11)) (L1++[b11]) Ib N' L2 Ib')
 {kx':Nat} (hlen:L2.length<=L3.length) (hkx:(rs≠[]/\kx'=kx)\/(rs=[]/\L2.length<=kx')) (hold:∀ j,j<L2.length->j≠L0.length+12->j≠kx'->L3[j]?=L2[j]?)
 (h8:L3[L0.length+12]?=some (.arr 3 0 [.agg [.ptr A.length (L0.length+6) 0 0 0,.ptr A.length (L0.length+11) 0 0 0,rvV A.length kx' (rs++[r])]])) (hkb:L3[kx']?=some (.arr 5 rs.length ((rs++[r]).map Ro.av))) :
 LInv A L0 texts (i+1) L3 N' Ia' Ib' (rs++[r]) kx':=by
 have hil:=(List.getElem?_eq_some_iff.1 hs).1;have l1:=ha.len;have l2:=hb.len;rw [List.length_append,List.length_singleton] at l1 l2;have len:=inv.len
 have ltA:∀ j,Ia j->j<L.length:=fun j h=>(ZFH A).lt inv.pa h
 have ltB:∀ j,Ib j->j<L.length:=fun j h=>(ZFI A).lt inv.pb h
 have ltA':∀ j,Ia' j->j<L1.length:=fun j h=>(ZFH A).lt ha.p h
 have ltB':∀ j,Ib' j->j<L2.length:=fun j h=>(ZFI A).lt hb.p h
 have ownA:∀ j,Ia' j->Ia j\/L.length+1<=j:=fun j h=>by have:=ha.own j h;rw [List.length_append,List.length_singleton] at this;exact this
 have ownB:∀ j,Ib' j->Ib j\/L1.length+1<=j:=fun j h=>by have:=hb.own j h;rw [List.length_append,List.length_singleton] at this;exact this
 have nAB:∀ j,Ia' j->¬ Ib j:=fun j h q=>by
  rcases ownA j h with w|w
  ·exact inv.dis j w q
  ·have:=ltB j q;omega
 have kx1:¬ Ia' kx'/\¬ Ib' kx'/\L0.length+13<=kx':=by
  rcases hkx with ⟨w,rfl⟩|⟨w,w2⟩
  ·obtain ⟨k1,k2,k3,k4⟩:=inv.kb w
   have:=(List.getElem?_eq_some_iff.1 k1).1
   refine ⟨fun q=>?_,fun q=>?_,k4⟩
   ·rcases ownA _ q with w|w
    ·exact k2 w
    ·omega
   ·rcases ownB _ q with w|w
    ·exact k3 w
    ·omega
  ·refine ⟨fun q=>?_,fun q=>?_,by omega⟩
   ·have:=ltA' _ q;omega
   ·have:=ltB' _ q;omega
 have oA:∀ j,Ia' j->L0.length+1<=j/\j≠L0.length+12:=fun j h=>by
  rcases ownA j h with w|w
  ·exact inv.owna j w
  ·omega
 have oB:∀ j,Ib' j->L0.length+1<=j/\j≠L0.length+12:=fun j h=>by
  rcases ownB j h with w|w
  ·exact inv.ownb j w
  ·omega
 have e21:∀ j,j<L1.length->¬ Ib j->L2[j]?=L1[j]?:=fun j h1 h2=>by
  rw [hb.old j (by rw [List.length_append];omega) h2,jL h1]
 have e10:∀ j,j<L.length->¬ Ia j->L1[j]?=L[j]?:=fun j h1 h2=>by
  rw [ha.old j (by rw [List.length_append];omega) h2,jL h1]
 have e30:∀ j,j<L0.length+1->L3[j]?=L[j]?:=fun j hj=>by
  have nb:¬ Ib j:=fun q=>by have:=inv.ownb j q;omega
  have na:¬ Ia j:=fun q=>by have:=inv.owna j q;omega
  rw [hold j (by omega) (by omega) (by omega),e21 j (by omega) nb,e10 j (by omega) na]
 refine ⟨(ZFH A).frame ha.p (fun j hj=>?_),(ZFI A).frame hb.p (fun j hj=>hold j (ltB' j hj) (oB j hj).2 (fun q=>kx1.2.1 (q▸hj))),fun j h1 h2=>?_,hgood,hord,hil,?_,by simp [inv.rlen],fun q hq=>?_,fun j q s' hj hs'=>?_,oA,oB,fun j hj=>by rw [e30 j (by omega)];exact inv.old j hj,by omega,by rw [e30 _ (by omega)];exact inv.b2,h8,fun _=>⟨?_,kx1⟩⟩
 ·rw [hold j (by have:=ltA' j hj;omega) (oA j hj).2 (fun q=>kx1.1 (q▸hj)),e21 j (ltA' j hj) (nAB j hj)]
 ·rcases ownB j h2 with w|w
  ·exact nAB j h1 w
  ·have:=ltA' j h1;omega
 ·have:=inv.few
  rw [Zm hs,List.map_append,List.sum_append];simp only [jC,List.map_nil,List.sum_cons,List.sum_nil];omega
 ·rcases List.mem_append.1 hq with w|w
  ·rw [happ];exact (inv.roots q w).mono
  ·rw [List.mem_singleton] at w;rw [w];exact rok
 ·rcases Nat.lt_or_ge j rs.length with w|w
  ·rw [jL w] at hj
   exact inv.rb j q s' hj hs'
  ·have : j = rs.length := by
    have:=(List.getElem?_eq_some_iff.1 hj).1
    simp at this;omega
   subst this;rw [List.getElem?_append_right (Nat.le_refl _),Nat.sub_self] at hj;have hrl:=inv.rlen;rw [hrl,hs] at hs';have e1:=Option.some.inj hs'
   have e2:r=q:=by simpa using hj
   rw [<- e1,<- e2];exact rb
 ·rw [hkb];simp
theorem Zoy (texts:List (List UInt8)) (h4:texts.length<=4) (h9:(texts.map List.length).sum<=900) (A:List (Bool × List Blk)) (L0:List Blk) :
 Sp Tb JW [.lit (texts.map .str)] ⟨A,false,L0⟩ fun v st'=>∃ L N Ia Ib rs kx,LInv A L0 texts texts.length L N Ia Ib rs kx/\v=.tup [.agg [.ptr A.length (L0.length+6) 0 0 0,.ptr A.length (L0.length+11) 0 0 0,rvV A.length kx rs],.bool true]/\∃ X,st'=⟨A,false,L.set (L0.length+0) X⟩:=by
 obtain ⟨L6,hN,l6,h6,o6⟩:∃ L6,S Tb ZDm [.int .i64 700,.int .u64 3] ⟨A,false,L0++[.arr 3 0 [.agg [.nilptr,.nilptr,.nils]]]⟩=some (.tup [.ptr A.length (L0.length+6) 0 0 0,.int .i64 0],⟨A,false,L6⟩)/\L6.length=L0.length+7/\Has ⟨A,false,L6⟩ A.length (L0.length+1) (X4 []) /\
  ∀ j,j<L0.length+1->L6[j]?=(L0++[.arr 3 0 [.agg [.nilptr,.nilptr,.nils]]])[j]?:=by
  have hN:=Zm4 700 3 ⟨by decide,by decide⟩ ⟨by decide,by decide⟩ A (L0++[.arr 3 0 [.agg [.nilptr,.nilptr,.nils]]])
  have hh:=ZjL 700 3 A (L0++[.arr 3 0 [.agg [.nilptr,.nilptr,.nils]]]) []
  have el:(L0++[Blk.arr 3 0 [.agg [.nilptr,.nilptr,.nils]]]).length=L0.length+1:=by simp
  rw [el] at hN hh;rw [List.append_nil] at hh
  exact ⟨_,hN,by simp,by rw [ZlD];exact hh,fun j hj=>jL (by rw [el];exact hj)⟩
 obtain ⟨L11,hR,l11,h11,o11⟩:∃ L11,S Tb Yv [.int .i64 700,.int .u64 3] ⟨A,false,L6⟩=some (.tup [.ptr A.length (L0.length+11) 0 0 0,.int .i64 0],⟨A,false,L11⟩)/\L11.length=L0.length+12/\RHas A L11 (L0.length+7) 0 [] /\
  ∀ j,j<L6.length->L11[j]?=L6[j]?:=by
  have hR:=ZoZ A L6;rw [l6] at hR
  have g:=fun i=>Ju (L0:=L6) (T:=[r0 A.length (L0.length+7) 0,r1 0,r2,r3,r4 A.length (L0.length+7) 0 []]) (i:=i)
  rw [l6] at g
  exact ⟨_,hR,by rw [List.length_append,l6];rfl,⟨g 0,g 1,g 2,g 3,g 4,fun q=>absurd rfl q,fun q=>absurd rfl q⟩,fun j hj=>jL hj⟩
 have hst:∀ j,j<L0.length+1->L11[j]?=(L0++[.arr 3 0 [.agg [.nilptr,.nilptr,.nils]]])[j]?:=fun j hj=>by rw [o11 j (by omega),o6 j hj]
 have h6':Has ⟨A,false,L11⟩ A.length (L0.length+1) (X4 []):=h6.frame (fun i h1 h2=>o11 i (by omega))
 clear o11 o6 h6;refine ZVe rfl ?_
 repeat' (first|refine ZE ?_|refine ZD ?_|refine ZF rfl ?_|refine Z0 rfl rfl ?_|refine ZB rfl ?_|refine ZA ?_|refine Zj rfl rfl rfl ?_|refine Zy rfl rfl rfl ?_|refine ZC rfl rfl rfl (hN) ?_|refine ZC rfl rfl rfl (hR) ?_)
 refine J7 rfl rfl rfl (ZSX _ (Nat.lt_succ_self _)) rfl rfl ?_;rw [l11]
 repeat' (first|refine ZE ?_|refine ZD ?_|refine ZF rfl ?_|refine Z4 rfl ?_|refine Zk rfl rfl rfl rfl ?_|refine ZB rfl ?_|refine ZA ?_|(refine Zp rfl rfl (fun _=>?_) (fun _=>?_)<;>try (exfalso;omega))|refine ZG rfl ?_|refine Q4 rfl rfl rfl rfl ?_|refine ZH ?_|refine ZI ?_)
 refine Zr (α:=Nat × List Blk × ZQ × (Nat->Prop) × (Nat->Prop) × List Ro × Nat) (fun q=>[(0,.lit (texts.map .str)),(2,.ptr A.length (L0.length+0) 0 0 0),(4,.ptr A.length (L0.length+6) 0 0 0),(6,.ptr A.length (L0.length+11) 0 0 0),(8,.ptr A.length (L0.length+12) 0 0 0),(9,.int .i64 q.1)])
  (fun q=>⟨A,false,q.2.1⟩) (fun q=>LInv A L0 texts q.1 q.2.1 q.2.2.1 q.2.2.2.1 q.2.2.2.2.1 q.2.2.2.2.2.1 q.2.2.2.2.2.2) (fun q=>texts.length-q.1)
  (0,L11++[.arr 3 0 [.agg [.ptr A.length (L0.length+6) 0 0 0,.ptr A.length (L0.length+11) 0 0 0,.nils]]],[],(fun j=>L0.length+1<=j/\j<=L0.length+6),(fun j=>L0.length+7<=j/\j<=L0.length+11),[],0) rfl rfl ?_ ?_
 ·have hle:∀ j,j<L0.length+12->(L11++[Blk.arr 3 0 [.agg [.ptr A.length (L0.length+6) 0 0 0,.ptr A.length (L0.length+11) 0 0 0,.nils]]])[j]?=L11[j]?:=fun j hj=>jL (by omega)
  refine ⟨⟨L0.length+1,rfl,h6'.frame (fun i h1 h2=>hle i (by omega)),fun i=>⟨fun q=>by simp only at q;omega,fun q=>by simp only;omega⟩⟩,⟨L0.length+7,0,rfl,h11.frame (fun i h1 h2=>hle i (by omega)) (fun q=>absurd rfl q),fun i=>⟨fun q=>.inl (by simp only at q;omega),fun q=>?_⟩⟩,
   fun j h1 h2=>by simp only at h1 h2;omega,ZQS,ZnA,Nat.zero_le _,by simp,rfl,fun r hr=>by simp at hr,fun j r s hr=>by simp at hr,fun j hj=>by simp only at hj;omega,fun j hj=>by simp only at hj;omega,fun j hj=>?_,by simp;omega,?_,?_,fun q=>absurd rfl q⟩
  ·rcases q with q|q
   ·simp only;omega
   ·exact absurd rfl q.1
  ·simp only;rw [hle j (by omega),hst j (by omega),jL hj]
  ·simp only;rw [hle _ (by omega),hst _ (by omega),Ju];rfl
  ·simp only
   have:=Ju (L0:=L11) (T:=[Blk.arr 3 0 [.agg [.ptr A.length (L0.length+6) 0 0 0,.ptr A.length (L0.length+11) 0 0 0,.nils]]]) (i:=0)
   rw [l11] at this;rw [this];rfl
 rintro ⟨i,L,N,Ia,Ib,rs,kx⟩ inv
 simp only at inv ⊢
 have hle:=inv.le
 repeat' (first|refine ZLG rfl ?_|refine ZE ?_|refine ZD ?_|refine ZF rfl ?_|refine ZB rfl ?_|refine ZA ?_|refine QD rfl rfl ?_|refine Qc rfl rfl (by omega) (fun _=>rfl) (fun _ _=>?_)|(refine Zd rfl rfl (fun _=>?_) (fun _=>?_)<;>try (exfalso;omega))|refine ZU rfl ?_|refine ZG rfl ?_|refine ZH ?_|refine Zn ?_|refine ZI ?_|refine Za ?_|refine ZX rfl ?_|refine Zf ?_)
 ·rename_i hlt s hs'
  have hs:texts[i]?=some s:=by rw [show i=((i:Nat):Int).toNat by omega];exact hs'
  have hsum:((texts.take i).map List.length).sum+s.length<=900:=by
   have e1:texts.map List.length=(texts.take (i+1)).map List.length++(texts.drop (i+1)).map List.length:=by rw [<- List.map_append,List.take_append_drop]
   rw [e1,List.sum_append,Zm hs,List.map_append,List.sum_append] at h9;simp only [jC,List.map_nil,List.sum_cons,List.sum_nil] at h9;omega
  have few:=inv.few
  obtain ⟨hve,htx,hby⟩:=ZLY ZQS (s:=s) (by omega)
  have hBu:=fun st=>ZhX ZQS s (by omega) st
  generalize ZAX s=t at *
  obtain ⟨N',r,T,happ,hgood,hord,rok,rb,hfew,hW⟩:=Zje hve inv.good inv.ord (by rw [hby];omega)
  rw [hby] at rb hfew;have len:=inv.len
  have ltA:∀ j,Ia j->j<L.length:=fun j h=>(ZFH A).lt inv.pa h
  have ltB:∀ j,Ib j->j<L.length:=fun j h=>(ZFI A).lt inv.pb h
  obtain ⟨L1,Ia',hSa,ha⟩:=hW A _ _ (ZFH A) (L++[.arr 7 0 [t.av]]) Ia _ ((ZFH A).frame inv.pa (fun j hj=>jL (ltA j hj)))
  have l1:=ha.len;rw [List.length_append,List.length_singleton] at l1
  have e10:∀ j,j<L.length+1->¬ Ia j->L1[j]?=(L++[.arr 7 0 [t.av]])[j]?:=fun j h1 h2=>ha.old j (by rw [List.length_append];exact h1) h2
  obtain ⟨L2,Ib',hSb,hb⟩:=hW A _ _ (ZFI A) (L1++[.arr 5 0 [r.av]]) Ib _ ((ZFI A).frame inv.pb (fun j hj=>by
   have:=ltB j hj
   rw [jL (by omega),e10 j (by omega) (fun q=>inv.dis j q hj),jL this]))
  have l2:=hb.len;rw [List.length_append,List.length_singleton] at l2
  have e21:∀ j,j<L1.length+1->¬ Ib j->L2[j]?=(L1++[.arr 5 0 [r.av]])[j]?:=fun j h1 h2=>hb.old j (by rw [List.length_append];exact h1) h2
  have q10:∀ T,(L1++T)[L.length+0]?=some (.arr 7 0 [t.av]):=fun T=>ZDK (by
   rw [e10 _ (by omega) (fun q=>by have:=ltA _ q;omega),Ju];rfl)
  have q11:∀ T,(L2++T)[L1.length+0]?=some (.arr 5 0 [r.av]):=fun T=>ZDK (by
   rw [e21 _ (by omega) (fun q=>by have:=ltB _ q;omega),Ju];rfl)
  have q8:∀ T,(L2++T)[L0.length+12]?=some (.arr 3 0 [.agg [.ptr A.length (L0.length+6) 0 0 0,.ptr A.length (L0.length+11) 0 0 0,rvV A.length kx rs]]):=fun T=>ZDK (by
   rw [e21 _ (by omega) (fun q=>(inv.ownb _ q).2 rfl),jL (by omega),e10 _ (by omega) (fun q=>(inv.owna _ q).2 rfl),jL (by omega)];exact inv.b8)
  have hnext:=fun {L3:List Blk} {kx':Nat}=>inv.next hs happ hgood hord rok rb hfew ha hb (L3:=L3) (kx':=kx')
  have hro:=ZVj r
  have e0:∀ L:List Blk,(⟨A,false,L⟩:St)=⟨A,false,L++[]⟩:=fun L=>by rw [List.append_nil]
  refine ZC rfl rfl rfl (hBu _) ?_;rw [e0 L]
  repeat' (first|refine Yy rfl rfl rfl rfl rfl ?_|refine Js rfl rfl rfl rfl (QC _ _ _) (QT _ _) rfl ?_|refine Qy rfl rfl rfl (Zl _) ?_|refine ZE ?_|refine ZD ?_|refine ZF rfl ?_|refine ZB rfl ?_|refine ZA ?_|refine ZI6 rfl rfl ?_)
  refine ZC rfl rfl (by first|rfl|(simp only [List.nil_append,List.append_nil,List.cons_append,Zg,ZW,ZZ];rfl)) hSa ?_
  rw [e0 L1]
  repeat' (first|refine Yy rfl rfl rfl rfl rfl ?_|refine Js rfl rfl rfl rfl rfl rfl rfl ?_|refine ZS rfl (q10 _) rfl (Zl _) ?_|refine ZE ?_|refine ZD ?_|refine ZF rfl ?_|refine Z0 rfl rfl ?_|refine ZB rfl ?_|refine ZA ?_|refine ZI6 rfl rfl ?_)
  refine ZC rfl rfl (by first|rfl|(simp only [List.nil_append,List.append_nil,List.cons_append,Zg,ZW,ZZ];rfl)) hSb ?_
  rw [e0 L2]
  rcases rs with _|⟨r1,rs⟩
  ·have q8':∀ T,(L2++T)[L0.length+12]?=some (.arr 3 0 [.agg [.ptr A.length (L0.length+6) 0 0 0,.ptr A.length (L0.length+11) 0 0 0,.nils]]):=q8
   repeat' (first|refine Yy rfl rfl rfl rfl rfl ?_|refine Js rfl rfl rfl rfl rfl rfl rfl ?_|refine ZS rfl (q11 _) rfl hro ?_|refine Qy rfl rfl rfl hro ?_|refine Q4 rfl rfl (Znv r) rfl ?_|refine ZS rfl (q8' _) rfl rfl ?_|refine ZQb rfl rfl (by decide) rfl rfl rfl ?_|refine ZE ?_|refine ZD ?_|refine ZF rfl ?_|refine ZJ rfl rfl ?_|refine Z4 rfl ?_|refine Zk rfl rfl rfl rfl ?_|refine Z0 rfl rfl ?_|refine ZB rfl ?_|refine ZA ?_|(refine Zp rfl rfl (fun _=>?_) (fun _=>?_)<;>try (exfalso;omega))|refine ZG rfl ?_|refine QR rfl rfl rfl rfl ?_|refine ZH ?_)
   refine Q5 (q8' _) rfl rfl rfl (QX _ (Nat.lt_succ_self _)) rfl ?_
   repeat' (first|refine ZD ?_|refine ZF rfl ?_|refine ZB rfl ?_|refine ZA ?_|refine Zb rfl rfl (by omega) ?_|refine Zt ?_|refine Zw ?_)
   refine ⟨(i+1,_,N',Ia',Ib',[r],L2.length+1),⟨rfl,rfl⟩,hnext (kx':=L2.length+1) ?_ (.inr ⟨rfl,by omega⟩) ?_ ?_ ?_,by simp only;omega⟩
   ·simp only [List.length_set,List.length_append];omega
   ·intro j j1 j2 j3
    rw [jS (by omega),jL j1]
   ·rw [List.getElem?_set_self (by simp;omega)];rfl
   ·rw [jS (by omega),Ju];rfl
  ·obtain ⟨k1,k2,k3,k4⟩:=inv.kb (by simp)
   have kl:=(List.getElem?_eq_some_iff.1 k1).1
   have k1T:∀ T,(L2++T)[kx]?=some (.arr 5 rs.length ((r1::rs).map Ro.av)):=fun T=>ZDK (by
    rw [e21 _ (by omega) k3,jL (by omega),e10 _ (by omega) k2,jL kl];exact k1)
   have kxl:kx<L2.length:=by omega
   have hrl:=inv.rlen
   have hr1:rs.length+1=((r1::rs).map Ro.av).length:=by simp
   have hr2:((r1::rs).map Ro.av).length+1<4294967296:=by simp at hrl ⊢;omega
   have q8':∀ T,(L2++T)[L0.length+12]?=some (.arr 3 0 [.agg [.ptr A.length (L0.length+6) 0 0 0,.ptr A.length (L0.length+11) 0 0 0,.ref A.length kx rs.length 0 (rs.length+1)]]):=q8
   repeat' (first|refine Yy rfl rfl rfl rfl rfl ?_|refine Js rfl rfl rfl rfl rfl rfl rfl ?_|refine ZS rfl (q11 _) rfl hro ?_|refine Qy rfl rfl rfl hro ?_|refine Q4 rfl rfl (Znv r) rfl ?_|refine ZS rfl (q8' _) rfl rfl ?_|refine ZCB rfl rfl (k1T _) hr1 hr2 (by decide) rfl rfl ?_|refine ZE ?_|refine ZD ?_|refine ZF rfl ?_|refine ZJ rfl rfl ?_|refine Z4 rfl ?_|refine Zk rfl rfl rfl rfl ?_|refine Z0 rfl rfl ?_|refine ZB rfl ?_|refine ZA ?_|(refine Zp rfl rfl (fun _=>?_) (fun _=>?_)<;>try (exfalso;omega))|refine ZG rfl ?_|refine QR rfl rfl rfl rfl ?_|refine ZH ?_)
   refine Q5 (by rw [jS (by omega)];exact q8' _) rfl rfl rfl (QX _ (Nat.lt_succ_self _)) rfl ?_
   repeat' (first|refine ZD ?_|refine ZF rfl ?_|refine ZB rfl ?_|refine ZA ?_|refine Zb rfl rfl (by omega) ?_|refine Zt ?_|refine Zw ?_)
   refine ⟨(i+1,_,N',Ia',Ib',r1::rs++[r],kx),⟨rfl,rfl⟩,hnext (kx':=kx) ?_ (.inl ⟨by simp,rfl⟩) ?_ ?_ ?_,by simp only;omega⟩
   ·simp only [List.length_set,List.length_append];omega
   ·intro j j1 j2 j3
    rw [jS (by omega),jS (by omega),jL j1]
   ·rw [List.getElem?_set_self (by simp;omega)]
    simp only [rvV,List.cons_append,List.length_append,List.length_cons,List.length_nil];rfl
   ·rw [jS (by omega),List.getElem?_set_self (by simp;omega),List.map_append];rfl
 ·obtain rfl:i=texts.length:=by omega
  have b2:=inv.b2;have b8:=inv.b8;have hl:=(List.getElem?_eq_some_iff.1 b2).1
  rcases rs with _|⟨r1,rs⟩
  ·unfold rvV at b8
   repeat' (first|refine ZS rfl b8 rfl rfl ?_|refine Q5 b2 rfl rfl rfl (ZSX _ (Nat.lt_succ_self _)) rfl ?_|refine ZF rfl ?_|refine ZB rfl ?_|refine ZA ?_|refine ZP ?_|refine ZO ?_)
   exact ⟨_,_,ZcP (.inr rfl) rfl (List.getElem?_set_self hl) rfl rfl,L,N,Ia,Ib,[],kx,inv,rfl,_,rfl⟩
  ·unfold rvV at b8
   repeat' (first|refine ZS rfl b8 rfl rfl ?_|refine Q5 b2 rfl rfl rfl (ZZG _ (Nat.lt_succ_self _)) rfl ?_|refine ZF rfl ?_|refine ZB rfl ?_|refine ZA ?_|refine ZP ?_|refine ZO ?_)
   exact ⟨_,_,ZcP (.inr rfl) rfl (List.getElem?_set_self hl) rfl rfl,L,N,Ia,Ib,r1::rs,kx,inv,rfl,_,rfl⟩
inductive SlRo (st:St):AV->List Ro->Prop
 | lit (rs:List Ro):SlRo st (.lit (rs.map Ro.av)) rs
 | ref {lv ix ver n:Nat} {rs:List Ro} {es:List AV} (hg:st.get lv ix=some (.arr 5 ver es)) (hn:n=rs.length) (he:es.take n=rs.map Ro.av):SlRo st (.ref lv ix ver 0 n) rs
theorem SlRo.push {st:St} {A:List (Bool × List Blk)} {ro:Bool} {L:List Blk} {v:AV} {l:List Ro} (hA:A=st.A++[(st.ro,st.L)]) (h:SlRo st v l):SlRo ⟨A,ro,L⟩ v l:=by
 cases h with
 | lit l=>exact .lit l
 | ref hg hn he=>exact .ref (ZV hA hg) hn he
theorem Znb (r:Ro):r.av.wide=some 5:=rfl
theorem Rd.allRo {st:St} {lv ix:Nat} {N:ZQ} (h:Rd st lv ix N):Rd st.allRo lv ix N:=by
 obtain ⟨a0,a1,im,a3,a4,a5,h1,h2⟩:=h
 exact ⟨a0,a1,im,a3,a4,a5,by rw [JA];exact h1,by rw [JA];exact h2⟩
theorem ZgJ {N:ZQ} {r:Ro} (h:RootOk N r):∃ t:Tr,VE N t/\t.bytes=r.m.b/\∀ {st:St} {lv ix:Nat},Rd st lv ix N->S Tb Y6 [.ptr lv ix 0 0 0,r.av] st=some (.tup [t.av,.int .i64 0],st):=by
 rcases h with rfl|⟨x,h1,h2,h3,h4,h5⟩
 ·exact ⟨_,.inl zero_empty,zero_empty.bytes,fun _=>Zb8⟩
 ·refine ⟨_,.inr ?_,?_,fun hr=>Zk0 hr h1 h2 h3 h4 h5⟩
  ·exact .kept h3 h1 h2 h4 h5 rfl
  ·simp [Tr.keep,Tr.bytes,Tr.bytesO]
theorem Zoc {lv ix:Nat} {t:Tr}:ZZ (Zg ([]++[.ptr lv ix 0 0 0,t.av]++[]))=some [.ptr lv ix 0 0 0,t.av]:=by
 simp only [List.nil_append,List.append_nil,List.cons_append,Zg,ZW,ZZ];rfl
section
variable {O:Orc} {k:List Fr} {Q:YY} {e:Env} {A:List (Bool × List Blk)} {L:List Blk} {keep:List Nat} {is:List PI} {d:Nat}
theorem ZlZ {st:St} {x y:Opd} {a b:Nat} {c:Int} (hx:Zo e x=some (.int .u8 a)) (hy:Zo e y=some (.int .u8 c)) (hc:c=b) (hw:0<b) (h:Is O is keep k Q ((d,.int .u8 ((a % b:Nat):Int))::e) st):Is O (⟨some d,none,false,.bin .rem x y⟩::is) keep k Q e st:=by
 subst hc;refine ZD6 hx hy ?_ h
 show (if (b:Int)=0 then none else some (AV.int .u8 ((a:Int).tmod b)))=_
 rw [if_neg (by omega),Int.tmod_eq_emod_of_nonneg (by omega),<- Int.natCast_emod]
theorem Zla {st:St} {w:Nat} {x y:Opd} {z1 z2 v u:AV} (hx:Zo e x=some v) (hy:Zo e y=some u) (hw:v.wide=some w) (hw2:u.wide=some w) (hi:imm 6 v=true) (hi2:imm 6 u=true) (h:Is O is keep k Q ((d,.lit [v,u])::e) st):Is O (⟨some d,none,false,.w .imm (.bslice false w [z1,z2] [(0,x),(1,y)])⟩::is) keep k Q e st:=by
 refine ZbP (v:=.lit [v,u]) (st':=st) ?_ h
 have hf:fillE w [z1,z2] [(0,v),(1,u)]=some [v,u]:=by simp [fillE,hw,hw2]
 simp only [QE,ZcY,JT,ZL hx,ZL hy,hf,Option.bind_some,ZS3,List.all_cons,List.all_nil,hi,hi2,Bool.and_self,if_true,List.isEmpty_cons,jB,if_false]
theorem ZBE {s x:Opd} {ix ver m:Nat} {es:List AV} {ts ys:List Tr} (hs:Zo e s=some (.ref A.length ix ver 0 m)) (hg:L[ix]?=some (.arr 7 ver es)) (hm:m<=ts.length) (he:ts.length<=es.length) (hx:Zo e x=some (.lit (ys.map Tr.av))) (hl:m+ys.length<4294967296)
 (h:Is O is keep k Q ((d,.ref A.length ix (ver+1) 0 (ts.take m++ys).length)::e) ⟨A,false,L.set ix (.arr 7 (ver+1) (es.take m++ys.map Tr.av))⟩):Is O (⟨some d,none,false,.app 7 80 s x⟩::is) keep k Q e ⟨A,false,L⟩:=by
 have hlt:ix<L.length:=by
  rw [List.getElem?_eq_some_iff] at hg;exact hg.1
 rw [List.length_append,List.length_take,Nat.min_eq_left hm] at h;refine QA (v:=.ref A.length ix (ver+1) 0 (m+ys.length)) (st':=⟨A,false,L.set ix (.arr 7 (ver+1) (es.take m++ys.map Tr.av))⟩) ?_ h
 simp only [Zs,evalPO,ZL hs,ZL hx,elems,Option.bind_some,Q1,XD,if_true,ZQN,ZZJ,St.get_cur,hg,vis,ZLe,true_and,List.length_map,if_pos (show 0+m<=es.length/\m+ys.length<4294967296/\80<=4096 by omega),St.put,if_false,jB,if_pos hlt,List.drop_zero]
theorem ZLI {w:Nat} {x y:Opd} {ix ver m:Nat} {n:Int} {es:List AV} {ts:List Tr} (hx:Zo e x=some (.ref A.length ix ver 0 ts.length)) (hy:Zo e y=some (.int .i64 n)) (hn:0<=n/\n<=ts.length) (hm:m=n.toNat) (hg:L[ix]?=some (Blk.arr w ver es)) (h:Is O is keep k Q ((d,.ref A.length ix ver 0 m)::e) ⟨A,false,L⟩):Is O (⟨some d,none,false,.slc w x none (some y)⟩::is) keep k Q e ⟨A,false,L⟩:=by
 subst hm
 exact ZAm hx hy hn (by rw [St.get_cur,hg];simp [wIs,vis]) h
end
structure RInv (N:ZQ) (l:List Stp) (i:Nat) (es:List AV) (ts:List Tr):Prop where
 le:i<=l.length
 es:es.take ts.length=ts.map Tr.av
 vb:∀ t∈ts,VE N t/\t.bytes<=3000+200*i
 len:ts.length<=i
theorem RInv.elen {N:ZQ} {l:List Stp} {i:Nat} {es:List AV} {ts:List Tr} (h:RInv N l i es ts):ts.length<=es.length:=by
 have:=congrArg List.length h.es
 rw [List.length_take,List.length_map] at this;omega
theorem RInv.get {N:ZQ} {l:List Stp} {i:Nat} {es:List AV} {ts:List Tr} (h:RInv N l i es ts) {j:Nat} {t:Tr} (hj:ts[j]?=some t):es[j]?=some t.av:=by
 have hlt:=(List.getElem?_eq_some_iff.1 hj).1
 have h1:(es.take ts.length)[j]?=some t.av:=by rw [h.es,jG,hj];rfl
 rwa [List.getElem?_take,if_pos hlt] at h1
theorem RInv.step {N:ZQ} {l:List Stp} {i:Nat} {es:List AV} {ts:List Tr} (h:RInv N l i es ts) (hi:i<l.length) {m:Nat} (hm:m<=ts.length) (ps:List Tr) (hp:∀ t∈ps,VE N t/\t.bytes<=3000+200*i+200) (hl:m+ps.length<=ts.length+1) :
 RInv N l (i+1) (es.take m++ps.map Tr.av) (ts.take m++ps):=by
 have he:=h.elen
 have e1:es.take m=(ts.take m).map Tr.av:=by
  have:=congrArg (List.take m) h.es
  rw [List.take_take,Nat.min_eq_left hm,<- List.map_take] at this;exact this
 refine ⟨hi,?_,fun t ht=>?_,?_⟩
 ·rw [e1,<- List.map_append,List.take_of_length_le (by simp)]
 ·rcases List.mem_append.1 ht with w|w
  ·have:=h.vb t (List.mem_of_mem_take w)
   exact ⟨this.1,by omega⟩
  ·have:=hp t w
   exact ⟨this.1,by omega⟩
 ·have:=h.len
  rw [List.length_append,List.length_take];omega
theorem RInv.pop {N:ZQ} {l:List Stp} {i:Nat} {es:List AV} {ts:List Tr} (h:RInv N l i es ts) (hi:i<l.length) {m:Nat} (hm:m<=ts.length):RInv N l (i+1) es (ts.take m):=by
 have e1:es.take m=(ts.take m).map Tr.av:=by
  have:=congrArg (List.take m) h.es
  rw [List.take_take,Nat.min_eq_left hm,<- List.map_take] at this;exact this
 refine ⟨hi,?_,fun t ht=>?_,?_⟩
 ·rw [List.length_take,Nat.min_eq_left hm,e1]
 ·have:=h.vb t (List.mem_of_mem_take ht)
  exact ⟨this.1,by omega⟩
 ·have:=h.len
  rw [List.length_take];omega
theorem RInv.same {N:ZQ} {l:List Stp} {i:Nat} {es:List AV} {ts:List Tr} (h:RInv N l i es ts) (hi:i<l.length):RInv N l (i+1) es ts:=by
 have:=h.pop hi (Nat.le_refl _)
 rwa [List.take_length] at this
theorem Znc {e:Env} {A:List (Bool × List Blk)} {st:St} {L:List Blk} {x:Ex} {a b ix ver:Nat} {es:List AV} {ts:List Tr} {y:Bool} (hA:A=st.A++[(st.ro,st.L)]) (hx:x=.norm\/x=.ret) (ha:Jw e a=some (.ref A.length ix ver 0 ts.length)) (hb:Jw e b=some (.bool y))
 (hres:([RV.s a,RV.s b]:List RV)=[.s a,.s b]) (hg:L[ix]?=some (.arr 7 ver es)) (hn:ts.length<=es.length) (he:es.take ts.length=ts.map Tr.av):Jv false [.s a,.s b] (x,e,⟨A,false,L⟩)=some (.tup [.lit (ts.map Tr.av),.bool y],st):=by
 refine ZFa (v:=.tup [.ref A.length ix ver 0 ts.length,.bool y]) (ro:=false) (L':=L.set ix .dead) hA hx ?_ ?_ rfl
 ·simp only [Qn,ZDL,ZBZ,QN ha,QN hb,Option.bind_some,Option.map_some,ZHL]
 ·refine Zb0 (m:=5) (ZQv (n:=4) hg (by omega) ?_) (by intro z hz;rw [List.mem_singleton] at hz;rw [hz];rfl)
  rw [List.drop_zero,he];exact Zb7 2 0 _ ts
theorem Znw {N:ZQ} (hN:GoodN N) {st:St} {lv ix:Nat} (hr:Rd st lv ix N) {rv:AV} {rs:List Ro} (hv:SlRo st rv rs) (hrs:∀ r∈rs,RootOk N r/\r.m.b<=900) (hrl:rs.length<65536) (l:List Stp) (hl:l.length<=30) (ht:∀ s∈l,s.text.length<=200) :
 Sp Tb ZAG [.ptr lv ix 0 0 0,rv,.lit (l.map Stp.av)] st fun v st'=>st'=st/\∃ es ts,RInv N l l.length es ts/\v=.tup [.lit (ts.map Tr.av),.bool true]:=by
 refine ZiD rfl ?_;obtain ⟨A,hA⟩:∃ A,A=st.A++[(st.ro,st.L)]:=⟨_,rfl⟩;rw [<- hA]
 have hR:=fun L=>hr.push hA (ro:=false) (L:=L)
 have hV:=fun L=>hv.push hA (ro:=false) (L:=L)
 repeat' (first|refine ZE ?_|refine ZD ?_|refine ZF rfl ?_|refine ZB rfl ?_|refine ZA ?_|refine JP rfl ?_|refine ZI ?_)
 refine Zr (α:=Nat × Nat × List AV × List Tr × List Blk) (fun q=>[(0,.ptr lv ix 0 0 0),(1,rv),(2,.lit (l.map Stp.av)),(8,.ref A.length 0 q.2.1 0 q.2.2.2.1.length),(9,.int .i64 q.1)])
  (fun q=>⟨A,false,.arr 7 q.2.1 q.2.2.1::q.2.2.2.2⟩) (fun q=>RInv N l q.1 q.2.2.1 q.2.2.2.1) (fun q=>l.length-q.1) (0,0,[],[],[]) rfl rfl ⟨Nat.zero_le _,rfl,fun t ht=>by simp at ht,Nat.le_refl _⟩ ?_
 rintro ⟨i,ver,es,ts,G⟩ inv
 simp only at inv ⊢
 have hile:=inv.le;have hele:=inv.elen;have htl:=inv.len
 have hl1:∀ {m:Nat} {c:Tr} (h:m<=ts.length),m+[c].length<4294967296:=fun h=>by rw [List.length_singleton];omega
 have e0:∀ L:List Blk,(⟨A,false,L⟩:St)=⟨A,false,L++[]⟩:=fun L=>by rw [List.append_nil]
 rw [e0 (.arr 7 ver es::G)]
 repeat' (first|refine ZLG rfl ?_|refine Yy rfl rfl rfl rfl rfl ?_|refine Qy rfl rfl rfl rfl ?_|refine Js rfl rfl rfl rfl rfl rfl rfl ?_|refine ZE ?_|refine ZD ?_|refine ZF rfl ?_|refine ZJ rfl rfl ?_|refine Z4 rfl ?_|refine JH rfl rfl ?_|refine Zk rfl rfl rfl rfl ?_|refine ZB rfl ?_|refine ZA ?_|refine QJ rfl ?_|refine QD rfl rfl ?_|refine Qc rfl rfl (by omega) (fun _=>rfl) (fun _ _=>?_)|(refine Zd rfl rfl (fun _=>?_) (fun _=>?_)<;>try (exfalso;omega))|(refine QQ rfl rfl (fun _=>?_) (fun _=>?_)<;>try (exfalso;omega))|(refine Zq rfl rfl (fun _=>?_) (fun _=>?_)<;>try (exfalso;omega))|(refine Zp rfl rfl (fun _=>?_) (fun _=>?_)<;>try (exfalso;omega))|refine ZU rfl ?_|refine ZG rfl ?_|refine Zb rfl rfl (by omega) ?_|refine Ql rfl rfl (by omega) ?_|refine ZlZ (b:=8) rfl rfl rfl (by decide) ?_|refine ZH ?_|refine ZP ?_|refine Zn ?_|refine ZI ?_|refine ZO ?_|refine Za ?_|refine Zt ?_|refine ZX rfl ?_|refine Zw ?_|refine Zf ?_)
 ·rename_i y hy _
  have hv2:=hv
  cases hv2 with
  | lit =>
   repeat' (first|refine ZLG rfl ?_|refine ZE ?_|refine ZD ?_|refine ZF rfl ?_|refine ZJ rfl rfl ?_|refine ZB rfl ?_|refine ZA ?_|(refine QQ rfl rfl (fun _=>?_) (fun _=>?_)<;>try (exfalso;omega))|(refine Zp rfl rfl (fun _=>?_) (fun _=>?_)<;>try (exfalso;omega))|refine ZU rfl ?_|refine ZG rfl ?_|refine Zb rfl rfl (by omega) ?_|refine ZH ?_|refine Zt ?_|refine Zw ?_)
   ·have hpk:=XM (x:=y.n) (n:=(rs.length:Int)-1) (by omega)
    have hPk:=fun st=>ZLF y.n ((rs.length:Int)-1) (by omega) (by omega) st
    repeat' (first|refine ZLG rfl ?_|refine Qc rfl rfl (by omega) Znb (fun _ _=>?_)|refine QD rfl (ZVj _) ?_|refine Qy rfl rfl rfl rfl ?_|refine ZF rfl ?_|refine Ql rfl rfl (by omega) ?_|refine ZC rfl rfl (by first|rfl|(simp only [List.nil_append,List.append_nil,List.cons_append,Zg,ZW,ZZ];first|done|rfl)) (hPk _) ?_)
    rename_i r hr
    obtain ⟨h1,h2⟩:=hrs r (jM hr);obtain ⟨c,hve,hby,hK⟩:=ZgJ h1
    have hK:=fun L=>hK (hR L)
    repeat' (first|refine Qy rfl rfl rfl (Zl _) ?_|refine Js rfl rfl rfl rfl (QC _ _ _) (QT _ _) rfl ?_|refine Yk rfl ?_|refine ZBE (ts:=ts) (ys:=[c]) rfl rfl (Nat.le_refl _) hele rfl (hl1 (Nat.le_refl _)) ?_|refine ZE ?_|refine ZD ?_|refine ZF rfl ?_|refine Z0 rfl rfl ?_|refine ZB rfl ?_|refine ZA ?_|(refine Zp rfl rfl (fun _=>?_) (fun _=>?_)<;>try (exfalso;omega))|refine ZG rfl ?_|refine Zb rfl rfl (by omega) ?_|refine ZC rfl rfl (by first|rfl|(simp only [List.nil_append,List.append_nil,List.cons_append,Zg,ZW,ZZ];first|done|rfl)) (hK _) ?_|refine ZH ?_|refine Zt ?_|refine Zw ?_)
    refine ⟨(i+1,ver+1,_,ts.take (ts.length)++[c],_),⟨rfl,rfl⟩,inv.step (by omega) (Nat.le_refl _) [c] ?_ (by simp only [List.length_cons,List.length_nil];omega),by simp only;omega⟩
    intro t ht;rw [List.mem_singleton] at ht;subst ht
    exact ⟨hve,by omega⟩
   ·exact ⟨(i+1,ver,es,ts,_),⟨rfl,rfl⟩,inv.same (by omega),by simp only;omega⟩
  | @ref lv' kx ver' n rs es' hg hn he =>
   subst hn
   have gr:=fun L=>ZV hA (ro:=false) (L:=L) hg
   have hwi:∀ L,wIs 5 ver' (St.get ⟨A,false,L⟩ lv' kx)=true:=fun L=>by rw [gr];simp [wIs]
   repeat' (first|refine QJ rfl ?_|refine ZE ?_|refine ZD ?_|refine ZF rfl ?_|refine ZJ rfl rfl ?_|refine ZB rfl ?_|refine ZA ?_|(refine QQ rfl rfl (fun _=>?_) (fun _=>?_)<;>try (exfalso;omega))|(refine Zp rfl rfl (fun _=>?_) (fun _=>?_)<;>try (exfalso;omega))|refine ZU rfl ?_|refine ZG rfl ?_|refine Zb rfl rfl (by omega) ?_|refine ZH ?_|refine Zt ?_|refine Zw ?_)
   ·have hpk:=XM (x:=y.n) (n:=(rs.length:Int)-1) (by omega)
    have hPk:=fun st=>ZLF y.n ((rs.length:Int)-1) (by omega) (by omega) st
    obtain ⟨r,hr⟩:∃ r,rs[(ZBD y.n ((rs.length:Int)-1)).toNat]?=some r:=⟨rs[(ZBD y.n ((rs.length:Int)-1)).toNat]'(by omega),by rw [jE]⟩
    have gr2:es'[0+(ZBD y.n ((rs.length:Int)-1)).toNat]?=some r.av:=by
     have h1:(es'.take rs.length)[(ZBD y.n ((rs.length:Int)-1)).toNat]?=some r.av:=by rw [he,jG,hr];rfl
     rw [List.getElem?_take,if_pos (by omega)] at h1
     rw [Nat.zero_add];exact h1
    obtain ⟨h1,h2⟩:=hrs r (jM hr);obtain ⟨c,hve,hby,hK⟩:=ZgJ h1
    have hK:=fun L=>hK (hR L)
    repeat' (first|refine QJ rfl ?_|refine Qg rfl rfl (by omega) (hwi _) ?_|refine Z8 rfl (gr _) gr2 (ZVj _) ?_|refine Qy rfl rfl rfl rfl ?_|refine Qy rfl rfl rfl (Zl _) ?_|refine Js rfl rfl rfl rfl (QC _ _ _) (QT _ _) rfl ?_|refine Yk rfl ?_|refine ZBE (ts:=ts) (ys:=[c]) rfl rfl (Nat.le_refl _) hele rfl (hl1 (Nat.le_refl _)) ?_|refine ZE ?_|refine ZD ?_|refine ZF rfl ?_|refine Z0 rfl rfl ?_|refine ZB rfl ?_|refine ZA ?_|(refine Zp rfl rfl (fun _=>?_) (fun _=>?_)<;>try (exfalso;omega))|refine ZG rfl ?_|refine Zb rfl rfl (by omega) ?_|refine Ql rfl rfl (by omega) ?_|refine ZC rfl rfl (by first|rfl|(simp only [List.nil_append,List.append_nil,List.cons_append,Zg,ZW,ZZ];first|done|rfl)) (hPk _) ?_|refine ZC rfl rfl (by first|rfl|(simp only [List.nil_append,List.append_nil,List.cons_append,Zg,ZW,ZZ];first|done|rfl)) (hK _) ?_|refine ZH ?_|refine Zt ?_|refine Zw ?_)
    refine ⟨(i+1,ver+1,_,ts.take (ts.length)++[c],_),⟨rfl,rfl⟩,inv.step (by omega) (Nat.le_refl _) [c] ?_ (by simp only [List.length_cons,List.length_nil];omega),by simp only;omega⟩
    intro t ht;rw [List.mem_singleton] at ht;subst ht
    exact ⟨hve,by omega⟩
   ·exact ⟨(i+1,ver,es,ts,_),⟨rfl,rfl⟩,inv.same (by omega),by simp only;omega⟩
 ·rename_i y hy _ _
  have hs:=ht y (jM hy)
  have hBu:=fun st=>ZeH hN y.text (by omega) st
  obtain ⟨hve,_,hby⟩:=ZLY hN (s:=y.text) (by omega)
  generalize ZAX y.text=c at *
  repeat' (first|refine Qy rfl rfl rfl (Zl _) ?_|refine Js rfl rfl rfl rfl (QC _ _ _) (QT _ _) rfl ?_|refine Yk rfl ?_|refine ZBE (ts:=ts) (ys:=[c]) rfl rfl (Nat.le_refl _) hele rfl (hl1 (Nat.le_refl _)) ?_|refine ZE ?_|refine ZD ?_|refine ZF rfl ?_|refine Z0 rfl rfl ?_|refine ZB rfl ?_|refine ZA ?_|(refine Zp rfl rfl (fun _=>?_) (fun _=>?_)<;>try (exfalso;omega))|refine ZG rfl ?_|refine Zb rfl rfl (by omega) ?_|refine ZC rfl rfl (by first|rfl|(simp only [List.nil_append,List.append_nil,List.cons_append,Zg,ZW,ZZ];first|done|rfl)) (hBu _) ?_|refine ZH ?_|refine Zt ?_|refine Zw ?_)
  refine ⟨(i+1,ver+1,_,ts.take (ts.length)++[c],_),⟨rfl,rfl⟩,inv.step (by omega) (Nat.le_refl _) [c] ?_ (by simp only [List.length_cons,List.length_nil];omega),by simp only;omega⟩
  intro t ht;rw [List.mem_singleton] at ht;subst ht
  exact ⟨hve,by omega⟩
 ·obtain ⟨x,hx⟩:∃ x,ts[ts.length-1]?=some x:=⟨ts[ts.length-1]'(by omega),by simp [show ts.length-1<ts.length by omega]⟩
  obtain ⟨vx,bx⟩:=inv.vb x (jM hx)
  have gx:es[0+((ts.length:Int)-1).toNat]?=some x.av:=by rw [show 0+((ts.length:Int)-1).toNat=ts.length-1 by omega];exact inv.get hx
  have px:=vx.pos.2
  have hWx:=fun L=>Yh hN (hR L) vx (by omega)
  have hWxP:=fun L=>Yh hN (hR L).allRo vx (by omega)
  obtain ⟨z,hz⟩:∃ z,ts[ts.length-2]?=some z:=⟨ts[ts.length-2]'(by omega),by simp [show ts.length-2<ts.length by omega]⟩
  obtain ⟨vz,bz⟩:=inv.vb z (jM hz)
  have gz:es[0+((ts.length:Int)-2).toNat]?=some z.av:=by rw [show 0+((ts.length:Int)-2).toNat=ts.length-2 by omega];exact inv.get hz
  have pz:=vz.pos.2
  have hWz:=fun L=>Yh hN (hR L) vz (by omega)
  have hCc:=fun L=>Zft hN (hR L) vz vx (by omega)
  have hok:=Xe hN vz vx (by omega)
  have hve:=ZOU hok.ve;have hby:=ZAC (Yf N z x);rw [hok.bytes] at hby
  generalize (Yf N z x).own=c at *
  repeat' (first|refine ZAw rfl rfl (by omega) rfl ?_|refine ZS rfl rfl gx (Zl _) ?_|refine ZS rfl rfl gz (Zl _) ?_|refine Js rfl rfl rfl rfl (QC _ _ _) (QT _ _) rfl ?_|refine ZE ?_|refine ZD ?_|refine ZF rfl ?_|refine Z4 rfl ?_|refine Zk rfl rfl rfl rfl ?_|refine Z0 rfl rfl ?_|refine ZB rfl ?_|refine ZA ?_|(refine XQ rfl rfl (fun _=>?_) (fun _=>?_)<;>try (exfalso;omega))|(refine Zp rfl rfl (fun _=>?_) (fun _=>?_)<;>try (exfalso;omega))|refine ZU rfl ?_|refine ZG rfl ?_|refine Zb rfl rfl (by omega) ?_|refine Ql rfl rfl (by omega) ?_|refine JI rfl rfl Zoc (hWxP _) ?_|refine ZC rfl rfl (by first|rfl|(simp only [List.nil_append,List.append_nil,List.cons_append,Zg,ZW,ZZ];first|done|rfl)) (hWz _) ?_|refine ZC rfl rfl (by first|rfl|(simp only [List.nil_append,List.append_nil,List.cons_append,Zg,ZW,ZZ];first|done|rfl)) (hCc _) ?_|refine ZH ?_|refine Zt ?_|refine Zw ?_)
  ·refine ZLI (m:=ts.length-2) rfl rfl (by omega) (by omega) rfl ?_
   repeat' (first|refine Qy rfl rfl rfl (Zl _) ?_|refine ZQc rfl (Zv _) (ZON 4 _) ?_|refine ZBE (ts:=ts) (ys:=[c]) rfl rfl (by omega) hele rfl (hl1 (by omega)) ?_|refine ZE ?_|refine ZD ?_|refine ZF rfl ?_|refine ZB rfl ?_|refine ZA ?_|(refine Zp rfl rfl (fun _=>?_) (fun _=>?_)<;>try (exfalso;omega))|refine ZG rfl ?_|refine Zb rfl rfl (by omega) ?_|refine ZH ?_|refine Zt ?_|refine Zw ?_)
   refine ⟨(i+1,ver+1,_,ts.take (ts.length-2)++[c],_),⟨rfl,rfl⟩,inv.step (by omega) (by omega) [c] ?_ (by simp only [List.length_cons,List.length_nil];omega),by simp only;omega⟩
   intro t ht;rw [List.mem_singleton] at ht;subst ht
   exact ⟨hve,by omega⟩
  ·exact ⟨(i+1,ver,es,ts,_),⟨rfl,rfl⟩,inv.same (by omega),by simp only;omega⟩
 ·exact ⟨(i+1,ver,es,ts,_),⟨rfl,rfl⟩,inv.same (by omega),by simp only;omega⟩
 ·obtain ⟨x,hx⟩:∃ x,ts[ts.length-1]?=some x:=⟨ts[ts.length-1]'(by omega),by simp [show ts.length-1<ts.length by omega]⟩
  obtain ⟨vx,bx⟩:=inv.vb x (jM hx)
  have gx:es[0+((ts.length:Int)-1).toNat]?=some x.av:=by rw [show 0+((ts.length:Int)-1).toNat=ts.length-1 by omega];exact inv.get hx
  have px:=vx.pos.2
  have hWx:=fun L=>Yh hN (hR L) vx (by omega)
  have hWxP:=fun L=>Yh hN (hR L).allRo vx (by omega)
  obtain ⟨z,hz⟩:∃ z,ts[ts.length-2]?=some z:=⟨ts[ts.length-2]'(by omega),by simp [show ts.length-2<ts.length by omega]⟩
  obtain ⟨vz,bz⟩:=inv.vb z (jM hz)
  have gz:es[0+((ts.length:Int)-2).toNat]?=some z.av:=by rw [show 0+((ts.length:Int)-2).toNat=ts.length-2 by omega];exact inv.get hz
  have pz:=vz.pos.2
  have hWz:=fun L=>Yh hN (hR L) vz (by omega)
  have hCc:=fun L=>Zft hN (hR L) vz vx (by omega)
  have hok:=Xe hN vz vx (by omega)
  have hve:=ZOU hok.ve;have hby:=ZAC (Yf N z x);rw [hok.bytes] at hby
  generalize (Yf N z x).own=c at *
  repeat' (first|refine ZAw rfl rfl (by omega) rfl ?_|refine ZS rfl rfl gx (Zl _) ?_|refine ZS rfl rfl gz (Zl _) ?_|refine Js rfl rfl rfl rfl (QC _ _ _) (QT _ _) rfl ?_|refine ZE ?_|refine ZD ?_|refine ZF rfl ?_|refine Z4 rfl ?_|refine Zk rfl rfl rfl rfl ?_|refine Z0 rfl rfl ?_|refine ZB rfl ?_|refine ZA ?_|(refine XQ rfl rfl (fun _=>?_) (fun _=>?_)<;>try (exfalso;omega))|(refine Zp rfl rfl (fun _=>?_) (fun _=>?_)<;>try (exfalso;omega))|refine ZU rfl ?_|refine ZG rfl ?_|refine Zb rfl rfl (by omega) ?_|refine Ql rfl rfl (by omega) ?_|refine JI rfl rfl Zoc (hWxP _) ?_|refine ZC rfl rfl (by first|rfl|(simp only [List.nil_append,List.append_nil,List.cons_append,Zg,ZW,ZZ];first|done|rfl)) (hWz _) ?_|refine ZC rfl rfl (by first|rfl|(simp only [List.nil_append,List.append_nil,List.cons_append,Zg,ZW,ZZ];first|done|rfl)) (hCc _) ?_|refine ZH ?_|refine Zt ?_|refine Zw ?_)
  ·refine ZLI (m:=ts.length-2) rfl rfl (by omega) (by omega) rfl ?_
   repeat' (first|refine Qy rfl rfl rfl (Zl _) ?_|refine ZQc rfl (Zv _) (ZON 4 _) ?_|refine ZBE (ts:=ts) (ys:=[c]) rfl rfl (by omega) hele rfl (hl1 (by omega)) ?_|refine ZE ?_|refine ZD ?_|refine ZF rfl ?_|refine ZB rfl ?_|refine ZA ?_|(refine Zp rfl rfl (fun _=>?_) (fun _=>?_)<;>try (exfalso;omega))|refine ZG rfl ?_|refine Zb rfl rfl (by omega) ?_|refine ZH ?_|refine Zt ?_|refine Zw ?_)
   refine ⟨(i+1,ver+1,_,ts.take (ts.length-2)++[c],_),⟨rfl,rfl⟩,inv.step (by omega) (by omega) [c] ?_ (by simp only [List.length_cons,List.length_nil];omega),by simp only;omega⟩
   intro t ht;rw [List.mem_singleton] at ht;subst ht
   exact ⟨hve,by omega⟩
  ·exact ⟨(i+1,ver,es,ts,_),⟨rfl,rfl⟩,inv.same (by omega),by simp only;omega⟩
 ·exact ⟨(i+1,ver,es,ts,_),⟨rfl,rfl⟩,inv.same (by omega),by simp only;omega⟩
 ·rename_i y hy _ _ _ _ _ hn
  obtain ⟨x,hx⟩:∃ x,ts[ts.length-1]?=some x:=⟨ts[ts.length-1]'(by omega),by simp [show ts.length-1<ts.length by omega]⟩
  obtain ⟨vx,bx⟩:=inv.vb x (jM hx)
  have gx:es[0+((ts.length:Int)-1).toNat]?=some x.av:=by rw [show 0+((ts.length:Int)-1).toNat=ts.length-1 by omega];exact inv.get hx
  have px:=vx.pos.2
  have hWx:=fun L=>Yh hN (hR L) vx (by omega)
  have hWxP:=fun L=>Yh hN (hR L).allRo vx (by omega)
  have hpk:=XM (x:=y.at_) (n:=x.bytes) px
  have hPk:=fun st=>ZLF y.at_ x.bytes px (by omega) st
  have hCu:=fun L=>ZoG hN (hR L) vx (ZBD y.at_ x.bytes) hpk.1 hpk.2 (by omega)
  have hok:=ZHI hN x.h x (ZBD y.at_ x.bytes) vx rfl hpk.1 hpk.2 (by omega)
  have hv1:=ZOU hok.l;have hv3:=ZOU hok.r;have hb1:=ZAC (Xf N x.h x (ZBD y.at_ x.bytes)).1;have hb3:=ZAC (Xf N x.h x (ZBD y.at_ x.bytes)).2;rw [hok.lb] at hb1;rw [hok.rb] at hb3
  generalize (Xf N x.h x (ZBD y.at_ x.bytes)).1.own=c at *
  generalize (Xf N x.h x (ZBD y.at_ x.bytes)).2.own=d at *
  have hl2:ts.length-1+[c,d].length<4294967296:=by simp only [List.length_cons,List.length_nil];omega
  repeat' (first|refine ZAw rfl rfl (by omega) rfl ?_|refine ZS rfl rfl gx (Zl _) ?_|refine Qy rfl rfl rfl rfl ?_|refine Js rfl rfl rfl rfl (QC _ _ _) (QT _ _) rfl ?_|refine ZD ?_|refine ZF rfl ?_|refine ZJ rfl rfl ?_|refine Z0 rfl rfl ?_|refine ZB rfl ?_|refine ZA ?_|refine Ql rfl rfl (by omega) ?_|refine JI rfl rfl Zoc (hWxP _) ?_|refine JI rfl rfl rfl (hPk _) ?_|refine ZC rfl rfl (by first|rfl|(simp only [List.nil_append,List.append_nil,List.cons_append,Zg,ZW,ZZ];first|done|rfl)) (hCu _) ?_)
  refine ZLI (m:=ts.length-1) rfl rfl (by omega) (by omega) rfl ?_
  repeat' (first|refine Qy rfl rfl rfl (Zl _) ?_|refine Zla rfl rfl (Zv _) (Zv _) (ZON 4 _) (ZON 4 _) ?_|refine ZBE (ts:=ts) (ys:=[c,d]) rfl rfl (by omega) hele rfl hl2 ?_|refine ZE ?_|refine ZD ?_|refine ZF rfl ?_|refine ZB rfl ?_|refine ZA ?_|(refine Zp rfl rfl (fun _=>?_) (fun _=>?_)<;>try (exfalso;omega))|refine ZG rfl ?_|refine Zb rfl rfl (by omega) ?_|refine ZH ?_|refine Zt ?_|refine Zw ?_)
  refine ⟨(i+1,ver+1,_,ts.take (ts.length-1)++[c,d],_),⟨rfl,rfl⟩,inv.step (by omega) (by omega) [c,d] ?_ (by simp only [List.length_cons,List.length_nil];omega),by simp only;omega⟩
  intro t ht;simp only [List.mem_cons,List.not_mem_nil,or_false] at ht
  rcases ht with rfl|rfl
  ·exact ⟨hv1,by omega⟩
  ·exact ⟨hv3,by omega⟩
 ·exact ⟨(i+1,ver,es,ts,_),⟨rfl,rfl⟩,inv.same (by omega),by simp only;omega⟩
 ·rename_i y hy _ _ _ _ _ _ hn
  have hs:=ht y (jM hy)
  obtain ⟨x,hx⟩:∃ x,ts[ts.length-1]?=some x:=⟨ts[ts.length-1]'(by omega),by simp [show ts.length-1<ts.length by omega]⟩
  obtain ⟨vx,bx⟩:=inv.vb x (jM hx)
  have gx:es[0+((ts.length:Int)-1).toNat]?=some x.av:=by rw [show 0+((ts.length:Int)-1).toNat=ts.length-1 by omega];exact inv.get hx
  have px:=vx.pos.2
  have hWx:=fun L=>Yh hN (hR L) vx (by omega)
  have hWxP:=fun L=>Yh hN (hR L).allRo vx (by omega)
  have hpk:=XM (x:=y.at_) (n:=x.bytes) px
  have hPk:=fun st=>ZLF y.at_ x.bytes px (by omega) st
  generalize ZBD y.at_ x.bytes=a at *
  have hpk2:=XM (x:=y.n) (n:=x.bytes-a) (by omega)
  have hPk2:=fun st=>ZLF y.n (x.bytes-a) (by omega) (by omega) st
  generalize ZBD y.n (x.bytes-a)=b at *
  have hRe:=fun L=>ZjQ hN (hR L) vx (a:=a) (n:=b) (s:=y.text) hpk.1 hpk2.1 (by omega) (by omega) (by omega)
  have hok:=ZYx hN vx (a:=a) (n:=b) (s:=y.text) hpk.1 hpk2.1 (by omega) (by omega) (by omega)
  have hve:=ZOU hok.ve;have hby:=ZAC (ZNS N x a b y.text);rw [hok.bytes] at hby
  generalize (ZNS N x a b y.text).own=c at *
  repeat' (first|refine ZAw rfl rfl (by omega) rfl ?_|refine ZS rfl rfl gx (Zl _) ?_|refine Qy rfl rfl rfl rfl ?_|refine Js rfl rfl rfl rfl (QC _ _ _) (QT _ _) rfl ?_|refine ZE ?_|refine ZD ?_|refine ZF rfl ?_|refine ZJ rfl rfl ?_|refine Z0 rfl rfl ?_|refine ZB rfl ?_|refine ZA ?_|refine Ql rfl rfl (by omega) ?_|refine ZC rfl rfl (by first|rfl|(simp only [List.nil_append,List.append_nil,List.cons_append,Zg,ZW,ZZ];first|done|rfl)) (hWx _) ?_|refine ZC rfl rfl (by first|rfl|(simp only [List.nil_append,List.append_nil,List.cons_append,Zg,ZW,ZZ];first|done|rfl)) (hPk _) ?_|refine JI rfl rfl rfl (hPk2 _) ?_|refine ZC rfl rfl (by first|rfl|(simp only [List.nil_append,List.append_nil,List.cons_append,Zg,ZW,ZZ];first|done|rfl)) (hRe _) ?_)
  refine ZLI (m:=ts.length-1) rfl rfl (by omega) (by omega) rfl ?_
  repeat' (first|refine Qy rfl rfl rfl (Zl _) ?_|refine ZQc rfl (Zv _) (ZON 4 _) ?_|refine ZBE (ts:=ts) (ys:=[c]) rfl rfl (by omega) hele rfl (hl1 (by omega)) ?_|refine ZE ?_|refine ZD ?_|refine ZF rfl ?_|refine ZB rfl ?_|refine ZA ?_|(refine Zp rfl rfl (fun _=>?_) (fun _=>?_)<;>try (exfalso;omega))|refine ZG rfl ?_|refine Zb rfl rfl (by omega) ?_|refine ZH ?_|refine Zt ?_|refine Zw ?_)
  refine ⟨(i+1,ver+1,_,ts.take (ts.length-1)++[c],_),⟨rfl,rfl⟩,inv.step (by omega) (by omega) [c] ?_ (by simp only [List.length_cons,List.length_nil];omega),by simp only;omega⟩
  intro t ht;rw [List.mem_singleton] at ht;subst ht
  exact ⟨hve,by omega⟩
 ·exact ⟨(i+1,ver,es,ts,_),⟨rfl,rfl⟩,inv.same (by omega),by simp only;omega⟩
 ·rename_i hn
  refine ZLI (m:=ts.length-1) rfl rfl (by omega) (by omega) rfl ?_
  repeat' (first|refine ZE ?_|refine ZD ?_|refine ZF rfl ?_|refine ZB rfl ?_|refine ZA ?_|(refine Zp rfl rfl (fun _=>?_) (fun _=>?_)<;>try (exfalso;omega))|refine ZG rfl ?_|refine Zb rfl rfl (by omega) ?_|refine ZH ?_|refine Zt ?_|refine Zw ?_)
  refine ⟨(i+1,ver,es,ts.take (ts.length-1),_),⟨?_,rfl⟩,inv.pop (by omega) (by omega),by simp only;omega⟩
  simp only [List.length_take,Nat.min_eq_left (Nat.sub_le ts.length 1)];rfl
 ·exact ⟨(i+1,ver,es,ts,_),⟨rfl,rfl⟩,inv.same (by omega),by simp only;omega⟩
 ·obtain ⟨x,hx⟩:∃ x,ts[ts.length-1]?=some x:=⟨ts[ts.length-1]'(by omega),by simp [show ts.length-1<ts.length by omega]⟩
  obtain ⟨vx,bx⟩:=inv.vb x (jM hx)
  have gx:es[0+((ts.length:Int)-1).toNat]?=some x.av:=by rw [show 0+((ts.length:Int)-1).toNat=ts.length-1 by omega];exact inv.get hx
  have px:=vx.pos.2
  have hWx:=fun L=>Yh hN (hR L) vx (by omega)
  have hWxP:=fun L=>Yh hN (hR L).allRo vx (by omega)
  have hve:=ZOU vx;have hby:=ZAC x
  have hCp:=fun st=>ZoN x vx.pos.1 st
  generalize x.own=c at *
  repeat' (first|refine ZAw rfl rfl (by omega) rfl ?_|refine ZS rfl rfl gx (Zl _) ?_|refine Yk rfl ?_|refine ZBE (ts:=ts) (ys:=[c]) rfl rfl (Nat.le_refl _) hele rfl (hl1 (Nat.le_refl _)) ?_|refine ZE ?_|refine ZD ?_|refine ZF rfl ?_|refine ZB rfl ?_|refine ZA ?_|(refine Zp rfl rfl (fun _=>?_) (fun _=>?_)<;>try (exfalso;omega))|refine ZG rfl ?_|refine Zb rfl rfl (by omega) ?_|refine ZC rfl rfl (by first|rfl|(simp only [List.nil_append,List.append_nil,List.cons_append,Zg,ZW,ZZ];first|done|rfl)) (hCp _) ?_|refine ZH ?_|refine Zt ?_|refine Zw ?_)
  refine ⟨(i+1,ver+1,_,ts.take (ts.length)++[c],_),⟨rfl,rfl⟩,inv.step (by omega) (Nat.le_refl _) [c] ?_ (by simp only [List.length_cons,List.length_nil];omega),by simp only;omega⟩
  intro t ht;rw [List.mem_singleton] at ht;subst ht
  exact ⟨hve,by omega⟩
 ·exact ⟨(i+1,ver,es,ts,_),⟨rfl,rfl⟩,inv.same (by omega),by simp only;omega⟩
 ·exact ⟨(i+1,ver,es,ts,_),⟨rfl,rfl⟩,inv.same (by omega),by simp only;omega⟩
 ·obtain rfl:i=l.length:=by omega
  refine ⟨_,_,Znc hA (.inr rfl) rfl rfl rfl (rfl:(Blk.arr 7 ver es::G)[0]?=_) hele inv.es,rfl,es,ts,inv,rfl⟩
theorem Zlb:∀ {N:ZQ} {o:Nat} {x:Nd},lk N o=some x->∃ i:Nat,N[i]?=some (o,x)
 | [],o,x,h=>by simp [lk] at h
 | p::l,o,x,h=>by
  rw [lk] at h
  split at h
  ·rename_i q
   refine ⟨0,?_⟩;rw [List.getElem?_cons_zero,<- Option.some.inj h,<- q]
  ·obtain ⟨i,hi⟩:=Zlb h
   exact ⟨i+1,by rw [List.getElem?_cons_succ];exact hi⟩
theorem Znd {N:ZQ} (ho:Ord N) (hl:N.length<=700):AROk (X4 N):=by
 have hb:∀ i:Nat,i<700->(X4 N).blk[i]?=some ((700:Int)-1-i):=fun i hi=>by
  show ((List.range 700).map fun (j:Nat)=>((700:Nat):Int)-1-j)[i]?=_
  rw [jG,List.getElem?_range hi];rfl
 have hs:∀ i:Nat,i<700->(X4 N).states[i]?=some (if i<N.length then (1:Int) else 0):=fun i hi=>by
  show ((List.range 700).map fun (j:Nat)=>if j<N.length then (1:Int) else 0)[i]?=_
  rw [jG,List.getElem?_range hi];rfl
 have hsl:(X4 N).states.length=700:=by
  show ((List.range 700).map _).length=700
  rw [List.length_map,List.length_range]
 have hg:∀ i:Nat,i<700->(X4 N).gens[i]?=some 1:=fun i hi=>by
  show (List.replicate 700 (1:Int))[i]?=some 1
  rw [List.getElem?_replicate,if_pos hi]
 have hn:(X4 N).n=700-N.length:=rfl
 refine ⟨?_,by rw [hsl];decide,by rw [hsl,hn];omega,?_,fun i hi=>⟨699-i,?_,?_,?_⟩,fun i j hi hj q=>?_,fun s hs'=>⟨1,hg s (by omega),by omega,?_⟩,?_,fun h x hx=>?_,?_,?_,?_⟩
 ·show 700-N.length<=((List.range 700).map _).length
  rw [List.length_map,List.length_range];omega
 ·rw [hsl]
  show (List.replicate 700 (1:Int)).length=700
  rw [List.length_replicate]
 ·rw [hb i (by omega)];congr 1;omega
 ·rw [hsl];omega
 ·rw [hs _ (by omega),if_neg (by omega)]
 ·rw [hb i (by omega),hb j (by omega)] at q
  have:=Option.some.inj q
  omega
 ·show ((1:Nat):Int)<=3;decide
 ·show (3:Int)<=_;decide
 ·obtain ⟨i,hi⟩:=Zlb (N:=N) hx
  have h1:=ho i _ hi;have h2:=(List.getElem?_eq_some_iff.1 hi).1
  exact ⟨i,1,by simp only at h1;omega,by rw [hsl];omega,by rw [hs i (by omega),if_pos h2],by rw [hg i (by omega)];rfl⟩
 ·show 0<=((N.length:Nat):Int)/\((N.length:Nat):Int)+((700-N.length:Nat):Int)<=0+((700:Nat):Int)
  omega
 ·show (0:Int)<=0/\(0:Int)<=900000
  omega
 ·show ((700:Nat):Int)<=16384
  omega
theorem AROk.lv {r:AR} (h:AROk r):∀ l,Lv r.nodes l->l.length<=16384:=fun l hl=>h.few hl.1 hl.2
theorem AROk.nz {r:AR} (h:AROk r):∀ o x,lk r.nodes o=some x->o≠0:=fun o x hx=>(h.hnd hx).2
theorem ZZH (w:List Nat) (hl:w.length<9223372036854775808) (st:St):S Tb J8 [.lit (w.map QI),.lit (w.map QI)] st=some (.bool true,st):=by
 refine Z5 rfl (fun A hA=>?_)
 repeat' (first|refine ZBX rfl ?_|refine ZE ?_|refine ZD ?_|refine ZF rfl ?_|refine ZB rfl ?_|refine ZA ?_|(refine Zp rfl rfl (fun _=>?_) (fun _=>?_)<;>try (exfalso;omega))|refine ZG rfl ?_|refine ZH ?_|refine ZI ?_)
 all_goals try contradiction
 refine Zr (α:=Nat) (fun i=>[(0,.lit (w.map QI)),(1,.lit (w.map QI)),(5,.int .i64 i)]) (fun i=>⟨A,false,[]⟩) (fun i=>i<=w.length) (fun i=>w.length-i) 0 rfl rfl (Nat.zero_le _) ?_
 intro i hi;replace hi:i<=w.length:=hi
 rcases Nat.lt_or_ge i w.length with hlt|hge
 ·obtain ⟨k,hk⟩:∃ k,w[i]?=some k:=⟨w[i]'hlt,jE _⟩
  have q:0<=((i:Nat):Int)/\w[((i:Nat):Int).toNat]?=some k:=⟨by omega,by rw [show ((i:Nat):Int).toNat=i by omega];exact hk⟩
  repeat' (first|refine ZBX rfl ?_|refine XL (f:=QI) rfl rfl q (fun _=>rfl) ?_|refine ZE ?_|refine ZD ?_|refine ZF rfl ?_|refine ZB rfl ?_|refine ZA ?_|refine QD rfl rfl ?_|(refine Zd rfl rfl (fun _=>?_) (fun _=>?_)<;>try (exfalso;omega))|(refine Zp rfl rfl (fun _=>?_) (fun _=>?_)<;>try (exfalso;omega))|refine ZU rfl ?_|refine ZG rfl ?_|refine Zb rfl rfl (by omega) ?_|refine ZH ?_|refine ZI ?_|refine Zt ?_|refine Zw ?_)
  all_goals try contradiction
  all_goals try (exfalso;omega)
  all_goals first|exact absurd rfl ‹_›|exact ⟨i+1,⟨rfl,rfl⟩,by omega,by omega⟩
 ·obtain rfl:i=w.length:=by omega
  repeat' (first|refine ZBX rfl ?_|refine ZE ?_|refine ZD ?_|refine ZF rfl ?_|refine ZB rfl ?_|refine ZA ?_|(refine Zd rfl rfl (fun _=>?_) (fun _=>?_)<;>try (exfalso;omega))|refine ZG rfl ?_|refine ZP ?_|refine Zn ?_|refine ZO ?_|refine Za ?_|refine ZX rfl ?_|refine Zf ?_)
  all_goals try (exfalso;omega)
  refine Ze hA (by simp) rfl rfl rfl rfl ?_
  rfl
structure Op where
 at_:Int
 num:Int
 text:List UInt8
def Zoz (l:List Op):Prop:=∃ s∈l,300<s.text.length
noncomputable instance (l:List Op):Decidable (Zoz l):=Classical.propDecidable _
set_option maxHeartbeats 32000000
theorem RootOk.rt {N:ZQ} {r:Ro} (h:RootOk N r):RtOk N r:=by
 rcases h with h|⟨x,h1,h2,h3,h4,h5⟩
 ·exact .inl h
 ·exact .inr ⟨h3,x,h1,h2,h4,h5⟩
theorem Zlc:∀ {l:List Nat} {n:Nat},n∈l->n<=l.sum
 | m::l,n,h=>by
  rw [List.sum_cons]
  rcases List.mem_cons.1 h with rfl|h
  ·omega
  ·have:=Zlc h;omega
theorem Zne (texts:List (List UInt8)) (h4:texts.length<=4) (h9:(texts.map List.length).sum<=900) (A:List (Bool × List Blk)) :
 ∃ LL N rs kx,S Tb JW [.lit (texts.map .str)] ⟨A,false,[]⟩=some (.tup [.agg [.ptr A.length 6 0 0 0,.ptr A.length 11 0 0 0,rvV A.length kx rs],.bool true],⟨A,false,LL⟩) /\
  (∀ T,Has ⟨A,false,LL++T⟩ A.length 1 (X4 N))/\(rs≠[]->∀ T,(LL++T)[kx]?=some (.arr 5 (rs.length-1) (rs.map Ro.av)))/\GoodN N/\AROk (X4 N)/\(∀ r∈rs,RootOk N r/\r.m.b<=900)/\rs.length<=4:=by
 obtain ⟨v,st',hS,L,N,Ia,Ib,rs,kx,inv,rfl,X,rfl⟩:=Zoy texts h4 h9 A []
 have hg:∀ j,1<=j->j<L.length->∀ T:List Blk,(L.set 0 X++T)[j]?=L[j]?:=by
  intro j h1 h2 T
  rw [jL (by simpa using h2),jS (by omega)]
 obtain ⟨b,hb,hH,_⟩:=inv.pa
 have hb1:b=1:=by simp at hb;omega
 subst hb1;have hlt:=hH.lt;have hfew:=inv.few;rw [List.take_length] at hfew
 refine ⟨_,N,rs,kx,hS,fun T=>hH.frame (fun i h1 h2=>hg i (by omega) (by omega) T),fun hrs T=>?_,inv.good,Znd inv.ord (by omega),fun r hr=>⟨inv.roots r hr,?_⟩,by rw [inv.rlen];exact h4⟩
 ·obtain ⟨k1,_,_,k4⟩:=inv.kb hrs
  simp only [List.length_nil] at k4;have kl:=(List.getElem?_eq_some_iff.1 k1).1
  show (L.set 0 X++T)[kx]?=_
  rw [hg kx (by omega) kl];exact k1
 ·obtain ⟨j,hj⟩:=List.mem_iff_getElem?.1 hr
  have hjl:=(List.getElem?_eq_some_iff.1 hj).1;rw [inv.rlen] at hjl
  have hs:texts[j]?=some (texts[j]'hjl):=by simp [hjl]
  rw [inv.rb j r _ hj hs]
  have:(texts[j]'hjl).length<=(texts.map List.length).sum:=Zlc (List.mem_map_of_mem (List.getElem_mem _))
  omega
theorem Znf {A:List (Bool × List Blk)} {LB:List Blk} {r:AR} (hH:HasR ⟨A,false,LB⟩ A.length 1 r) (hOk:AROk r) {v5 v8 v9:AV} {un kl:List Nat} (hun:un.length<1000000000) (hkl:kl.length<1000000000) (hin:∀ o∈kl,o∈un/\∃ x,lk r.nodes o=some x) (hnd:kl.Nodup) {k:List Fr} {Q:YY}
 (hQ:Rk (S Tb) k Q .norm [(5,v5),(7,.ptr A.length 6 0 0 0),(8,v8),(9,v9),(10,.lit (un.map QI)),(11,.lit (kl.map QI)),(12,.int .i64 kl.length),(63,.bool false)] ⟨A,false,LB⟩) :
 Ru (S Tb) p_quartolaw15_PlanDrops_19.loop (.blk 2::k) Q [(5,v5),(7,.ptr A.length 6 0 0 0),(8,v8),(9,v9),(10,.lit (un.map QI)),(11,.lit (kl.map QI)),(12,.int .i64 0)] ⟨A,false,LB⟩:=by
 have hHs:=fun o st=>ZeR un (by omega) o st
 refine Zr (α:=Nat) (fun i=>[(5,v5),(7,.ptr A.length 6 0 0 0),(8,v8),(9,v9),(10,.lit (un.map QI)),(11,.lit (kl.map QI)),(12,.int .i64 i)]) (fun i=>⟨A,false,LB⟩) (fun i=>i<=kl.length) (fun i=>kl.length-i) 0 rfl rfl (Nat.zero_le _) ?_
 intro i hi;replace hi:i<=kl.length:=hi
 rcases Nat.lt_or_ge i kl.length with hlt|hge
 ·obtain ⟨o,ho⟩:∃ x,kl[i]?=some x:=⟨kl[i]'hlt,jE _⟩
  have q:0<=((i:Nat):Int)/\kl[((i:Nat):Int).toNat]?=some o:=⟨by omega,by rw [show ((i:Nat):Int).toNat=i by omega];exact ho⟩
  obtain ⟨hm,x,hx⟩:=hin o (jM ho)
  have hH1:=fun st=>hHs o st
  simp only [decide_eq_true hm] at hH1;obtain ⟨hv,h64⟩:=hOk.live hx;have hLv:=ZoR hH hOk.gl o h64;rw [decide_eq_true hv] at hLv
  have hnm:o∉kl.take i:=by
   intro hm;obtain ⟨j,hj⟩:=List.mem_iff_getElem?.1 hm;rw [List.getElem?_take] at hj
   split at hj
   ·rename_i hji
    have hne:=List.pairwise_iff_getElem.1 hnd j i (by omega) hlt hji
    rw [jE (by omega)] at hj ho
    exact hne ((Option.some.inj hj).trans (Option.some.inj ho).symm)
   ·simp at hj
  have hH2:=fun st=>ZeR (kl.take i) (by rw [List.length_take];omega) o st
  simp only [decide_eq_false hnm] at hH2
  have e2:(kl.map QI).take ((i:Nat):Int).toNat=(kl.take i).map QI:=by
   rw [show ((i:Nat):Int).toNat=i by omega,List.map_take]
  rw [<- e2] at hH2
  have hl2:0<=((i:Nat):Int)/\((i:Nat):Int)<=(kl.map QI).length:=by rw [List.length_map];omega
  repeat' (first|refine ZBX rfl ?_|refine XL (f:=QI) rfl rfl q (fun _=>rfl) ?_|refine ZCA rfl rfl hl2 (ZeQ _) ?_|refine ZE ?_|refine ZD ?_|refine ZF rfl ?_|refine Z4 rfl ?_|refine Zk rfl rfl rfl rfl ?_|refine ZB rfl ?_|refine ZA ?_|refine QD rfl rfl ?_|(refine Zd rfl rfl (fun _=>?_) (fun _=>?_)<;>try (exfalso;omega))|refine ZU rfl ?_|refine ZG rfl ?_|refine Qs rfl rfl ?_|refine Zb rfl rfl (by omega) ?_|refine ZC rfl rfl rfl (hH1 _) ?_|refine ZC rfl rfl rfl (hLv) ?_|refine ZC rfl rfl rfl (hH2 _) ?_|refine ZH ?_|refine ZI ?_|refine Zt ?_|refine Zw ?_)
  all_goals try contradiction
  all_goals try (exfalso;omega)
  exact ⟨i+1,⟨rfl,rfl⟩,by omega,by omega⟩
 ·obtain rfl:i=kl.length:=by omega
  repeat' (first|refine ZBX rfl ?_|refine ZE ?_|refine ZD ?_|refine ZF rfl ?_|refine ZB rfl ?_|refine ZA ?_|(refine Zd rfl rfl (fun _=>?_) (fun _=>?_)<;>try (exfalso;omega))|refine ZG rfl ?_|refine Zn ?_|refine Za ?_|refine ZX rfl ?_|refine Zf ?_)
  all_goals try (exfalso;omega)
  exact hQ
theorem Zld {lv ix:Nat} {rv:AV} {l:List AV}:ZZ (Zg ([]++[.ptr lv ix 0 0 0,rv,.lit l]++[]))=some [.ptr lv ix 0 0 0,weak rv,.lit l]:=by
 simp only [List.nil_append,List.append_nil,List.cons_append,Zg,ZZ];rfl
theorem Zle {A:List (Bool × List Blk)} {LB:List Blk} {r:AR} (hN:GoodN r.nodes) (hH:HasR ⟨A,false,LB⟩ A.length 1 r) (hOk:AROk r) {jb kx:Nat} {y rv:AV} {rs:List Ro} (q5:LB[jb]?=some (.arr 3 0 [.agg [.ptr A.length 6 0 0 0,y,rv]]))
 (hrv:(rv=.nils/\rs=[])\/(rv=.ref A.length kx (rs.length-1) 0 rs.length/\LB[kx]?=some (.arr 5 (rs.length-1) (rs.map Ro.av)))) (hrs:∀ z∈rs,RootOk r.nodes z) (hrl:rs.length<=4)
 {ts:List Tr} {i:Nat} {t:Tr} (hti:ts[i]?=some t) (htv:VE r.nodes t) (htb:t.bytes<=9000) {k:List Fr} {Q:YY}
 (hQ:∀ e,Rk (S Tb) k Q .norm ([(5,.ptr A.length jb 0 0 0),(7,.ptr A.length 6 0 0 0),(8,.lit (ts.map Tr.av)),(9,.int .i64 i)]++e) ⟨A,false,LB⟩) :
 Ru (S Tb) p_quartolaw15_PlanDrops_29.loop (.blk 4::k) Q [(5,.ptr A.length jb 0 0 0),(7,.ptr A.length 6 0 0 0),(8,.lit (ts.map Tr.av)),(9,.int .i64 i),(10,.lit ((t.und r.nodes).map QI)),(13,.int .i64 0)] ⟨A,false,LB⟩:=by
 refine Zr (α:=Nat) (fun j=>[(5,.ptr A.length jb 0 0 0),(7,.ptr A.length 6 0 0 0),(8,.lit (ts.map Tr.av)),(9,.int .i64 i),(10,.lit ((t.und r.nodes).map QI)),(13,.int .i64 j)]) (fun j=>⟨A,false,LB⟩) (fun j=>j<=rs.length) (fun j=>rs.length-j) 0 rfl rfl (Nat.zero_le _) ?_
 intro j hj;replace hj:j<=rs.length:=hj;have hlen:ts.length<9223372036854775808\/True:=.inr trivial
 have qi:0<=((i:Nat):Int)/\ts[((i:Nat):Int).toNat]?=some t:=⟨by omega,by rw [show ((i:Nat):Int).toNat=i by omega];exact hti⟩
 rcases Nat.lt_or_ge j rs.length with hlt|hge
 ·obtain ⟨ro,hro⟩:∃ x,rs[j]?=some x:=⟨rs[j]'hlt,jE _⟩
  have hRt:=(hrs ro (jM hro)).rt
  rcases hrv with ⟨_,hrv⟩|⟨hrv,hkx⟩
  ·rw [hrv] at hlt;simp at hlt
  subst hrv
  have g6:(rs.map Ro.av)[0+((j:Nat):Int).toNat]?=some ro.av:=by rw [show 0+((j:Nat):Int).toNat=j by omega,jG,hro];rfl
  have hDr:=ZjY (b:=1) hN hOk.lv hOk.nz hH.rd hRt htv (by omega)
  rw [ZlU hN hOk.nz hRt htv] at hDr
  have hub:(t.und r.nodes).length<=20000:=by
   rcases htv with h|h
   ·obtain ⟨o,h',m,s,k⟩:=t
    obtain ⟨h1,h2,h3,h4,h5⟩:=h
    simp only [Tr.old,Tr.h,Tr.m,Tr.text,Tr.ks] at *
    subst h1;rw [Tr.und,if_pos rfl,Tr.undO_getD,h5,Tr.undL];simp
   ·have:=ZLb hN h;omega
  have hnl:=Zhi hN hRt
  have hWo:=fun st=>Zja (XV r.nodes ro) (t.und r.nodes) (by omega) (by omega) st
  have hol:=(ZY7 ((XV r.nodes ro).filter fun o=>decide (o∉t.und r.nodes))).2.2
  have hfl:=List.length_filter_le (fun o=>decide (o∉t.und r.nodes)) (XV r.nodes ro)
  have hEq:=fun st=>ZZH (Yg ((XV r.nodes ro).filter fun o=>decide (o∉t.und r.nodes))) (by omega) st
  by_cases h0:ro.at_=0
  ·have e0:XV r.nodes ro=[]:=by unfold XV;rw [if_pos h0]
   rw [e0] at hDr hEq
   have e1:Yg (([]:List Nat).filter fun o=>decide (o∉t.und r.nodes))=[]:=rfl
   rw [e1] at hDr hEq;simp only [List.map_nil] at hDr hEq
   generalize (t.und r.nodes).map QI=unv at *
   unfold Ro.av at *
   repeat' (first|refine ZS rfl q5 rfl rfl ?_|refine ZAw rfl rfl (by omega) hkx ?_|refine ZS rfl hkx g6 rfl ?_|refine XL (f:=Tr.av) rfl rfl qi Zv ?_|refine ZE ?_|refine ZD ?_|refine ZF rfl ?_|refine ZJ rfl rfl ?_|refine Z4 rfl ?_|refine Zk rfl rfl rfl rfl ?_|refine Z0 rfl rfl ?_|refine ZB rfl ?_|refine ZA ?_|refine QJ rfl ?_|(refine Zd rfl rfl (fun _=>?_) (fun _=>?_)<;>try (exfalso;omega))|(refine Zp rfl rfl (fun _=>?_) (fun _=>?_)<;>try (exfalso;omega))|refine ZU rfl ?_|refine ZG rfl ?_|refine Qs rfl rfl ?_|refine Zb rfl rfl (by omega) ?_|refine QD rfl (Zl _) ?_|refine ZC rfl rfl (by first|rfl|(simp only [List.nil_append,List.append_nil,List.cons_append,Zg,ZW,ZZ];first|done|rfl)) (hDr) ?_|refine ZC rfl rfl (by first|rfl|(simp only [List.nil_append,List.append_nil,List.cons_append,Zg,ZW,ZZ];first|done|rfl)) (hEq _) ?_|refine ZH ?_|refine ZI ?_|refine Zt ?_|refine Zw ?_)
   all_goals try contradiction
   all_goals try (exfalso;omega)
   exact ⟨j+1,⟨rfl,rfl⟩,by omega,by omega⟩
  ·obtain ⟨x, x1, x2, x3, x4⟩ : ∃ x, lk r.nodes ro.at_ = some x /\ NdOk x /\ x.h = ro.h /\ x.mea = ro.m := by
    rcases hRt with rfl|w
    ·exact absurd rfl h0
    ·exact w.2
   have e0:XV r.nodes ro=JB r.nodes x.h ro.at_:=by unfold XV;rw [if_neg h0,x3]
   have hUn:=ZZB hN x.h ro.at_ x x1 rfl h0 hH.rd 0 .zero [] none;rw [<- e0] at hUn;have eTr:(Tr.mk ro.at_ 0 .zero [] none).av=.agg [.int .u64 ro.at_,.int .i64 0,.int .i64 0,.int .i64 0,.int .i64 0,.str [],.nils]:=rfl;rw [eTr] at hUn
   generalize Yg ((XV r.nodes ro).filter fun o=>decide (o∉t.und r.nodes))=dl at *
   generalize XV r.nodes ro=nl at *
   generalize t.und r.nodes=un at *
   unfold Ro.av at *
   repeat' (first|refine ZS rfl q5 rfl rfl ?_|refine ZAw rfl rfl (by omega) hkx ?_|refine ZS rfl hkx g6 rfl ?_|refine XL (f:=Tr.av) rfl rfl qi Zv ?_|refine ZE ?_|refine ZD ?_|refine ZF rfl ?_|refine ZJ rfl rfl ?_|refine Z4 rfl ?_|refine Zk rfl rfl rfl rfl ?_|refine Z0 rfl rfl ?_|refine ZB rfl ?_|refine ZA ?_|refine QJ rfl ?_|(refine Zd rfl rfl (fun _=>?_) (fun _=>?_)<;>try (exfalso;omega))|(refine Zp rfl rfl (fun _=>?_) (fun _=>?_)<;>try (exfalso;omega))|refine ZU rfl ?_|refine ZG rfl ?_|refine Qs rfl rfl ?_|refine Zb rfl rfl (by omega) ?_|refine Zj rfl rfl rfl ?_|refine QD rfl (Zl _) ?_|refine ZC rfl rfl (by first|rfl|(simp only [List.nil_append,List.append_nil,List.cons_append,Zg,ZW,ZZ];first|done|rfl)) (hDr) ?_|refine ZC rfl rfl (by first|rfl|(simp only [List.nil_append,List.append_nil,List.cons_append,Zg,ZW,ZZ];first|done|rfl)) (hUn) ?_|refine ZC rfl rfl (by first|rfl|(simp only [List.nil_append,List.append_nil,List.cons_append,Zg,ZW,ZZ];first|done|rfl)) (hWo _) ?_|refine ZC rfl rfl (by first|rfl|(simp only [List.nil_append,List.append_nil,List.cons_append,Zg,ZW,ZZ];first|done|rfl)) (hEq _) ?_|refine ZH ?_|refine ZI ?_|refine Zt ?_|refine Zw ?_)
   all_goals try contradiction
   all_goals try (exfalso;omega)
   exact ⟨j+1,⟨rfl,rfl⟩,by omega,by omega⟩
 ·obtain rfl:j=rs.length:=by omega
  generalize (t.und r.nodes).map QI=unv at *
  rcases hrv with ⟨rfl,rfl⟩|⟨rfl,hkx⟩
  ·repeat' (first|refine ZS rfl q5 rfl rfl ?_|refine ZE ?_|refine ZD ?_|refine ZF rfl ?_|refine ZJ rfl rfl ?_|refine ZB rfl ?_|refine ZA ?_|refine JC rfl ?_|(refine Zd rfl rfl (fun _=>?_) (fun _=>?_)<;>try (exfalso;omega))|refine ZG rfl ?_|refine Zn ?_|refine Za ?_|refine ZX rfl ?_|refine Zf ?_)
   all_goals try (exfalso;omega)
   exact hQ _
  ·repeat' (first|refine ZS rfl q5 rfl rfl ?_|refine ZE ?_|refine ZD ?_|refine ZF rfl ?_|refine ZJ rfl rfl ?_|refine ZB rfl ?_|refine ZA ?_|refine QJ rfl ?_|(refine Zd rfl rfl (fun _=>?_) (fun _=>?_)<;>try (exfalso;omega))|refine ZG rfl ?_|refine Zn ?_|refine Za ?_|refine ZX rfl ?_|refine Zf ?_)
   all_goals try (exfalso;omega)
   exact hQ _
theorem ZiX {st:St} {A:List (Bool × List Blk)} (hA:A=st.A++[(st.ro,st.L)]) {LB:List Blk} {r:AR} (hN:GoodN r.nodes) (hH:HasR ⟨A,false,LB⟩ A.length 1 r) (hOk:AROk r) {jb kx:Nat} {y rv:AV} {rs:List Ro} (q5:LB[jb]?=some (.arr 3 0 [.agg [.ptr A.length 6 0 0 0,y,rv]]))
 (hrv:(rv=.nils/\rs=[])\/(rv=.ref A.length kx (rs.length-1) 0 rs.length/\LB[kx]?=some (.arr 5 (rs.length-1) (rs.map Ro.av)))) (hrs:∀ z∈rs,RootOk r.nodes z) (hrl:rs.length<=4)
 (ts:List Tr) (htl:ts.length<=60) (hts:∀ t∈ts,VE r.nodes t/\t.bytes<=9000) :
 Ru (S Tb) p_quartolaw15_PlanDrops_31.loop [Fr.blk 0,Fr.seq (p_quartolaw15_PlanDrops_32.seq PC.ret)] (fun x e st'=>Jv false [RV.s 4] (x,e,st')=some (AV.bool true,st))
  [(5,.ptr A.length jb 0 0 0),(7,.ptr A.length 6 0 0 0),(8,.lit (ts.map Tr.av)),(9,.int .i64 0)] ⟨A,false,LB⟩:=by
 have hWk:=fun st=>ZcG st
 refine Zr (α:=Nat) (fun i=>[(5,.ptr A.length jb 0 0 0),(7,.ptr A.length 6 0 0 0),(8,.lit (ts.map Tr.av)),(9,.int .i64 i)]) (fun i=>⟨A,false,LB⟩) (fun i=>i<=ts.length) (fun i=>ts.length-i) 0 rfl rfl (Nat.zero_le _) ?_
 intro i hi;replace hi:i<=ts.length:=hi
 rcases Nat.lt_or_ge i ts.length with hlt|hge
 ·obtain ⟨t,ht⟩:∃ x,ts[i]?=some x:=⟨ts[i]'hlt,jE _⟩
  have q:0<=((i:Nat):Int)/\ts[((i:Nat):Int).toNat]?=some t:=⟨by omega,by rw [show ((i:Nat):Int).toNat=i by omega];exact ht⟩
  obtain ⟨hv,hb⟩:=hts t (jM ht)
  have hUn:=ZlW hN hv (by omega) hH.rd
  have hKt:=fun st=>ZlK hv.pos.1 (ZeS hN hv (by omega)) st
  have hkz:=Zhk hOk.nz hv;have hkl:=Tr.kwT_len t []
  have hsz:=ZeS hN hv (by omega)
  have hkd:=ZjZ t [] (by simp)
  have hub:(t.und r.nodes).length<=20000:=by
   rcases hv with h|h
   ·obtain ⟨o,h',m,s,k⟩:=t
    obtain ⟨h1,h2,h3,h4,h5⟩:=h
    simp only [Tr.old,Tr.h,Tr.m,Tr.text,Tr.ks] at *
    subst h1;rw [Tr.und,if_pos rfl,Tr.undO_getD,h5,Tr.undL];simp
   ·have:=ZLb hN h;omega
  have hin:∀ o∈t.kwT [],o∈t.und r.nodes/\∃ x,lk r.nodes o=some x:=fun o ho=>by
   obtain ⟨_,x,hx⟩:=hkz o ho;refine ⟨?_,x,hx⟩
   rw [<- ZiW hN hOk.nz hv,ZgG hN _ (fun h hh=>(hkz h hh).2)]
   refine ⟨o,ho,?_⟩;rw [JD hx,ZnM hx (hN o x hx).1 rfl]
   simp
  have hkfew:=hOk.few hkd (fun o ho=>(hin o ho).2)
  have h1:=fun k Q hQ=>Znf (A:=A) (LB:=LB) hH hOk (v5:=.ptr A.length jb 0 0 0) (v8:=.lit (ts.map Tr.av)) (v9:=.int .i64 i) (un:=t.und r.nodes) (kl:=t.kwT []) (by omega) (by omega) hin hkd (k:=k) (Q:=Q) hQ
  have h2:=fun k Q hQ=>Zle (A:=A) (LB:=LB) hN hH hOk q5 hrv hrs hrl ht hv hb (k:=k) (Q:=Q) hQ
  generalize t.kwT []=kl at *
  generalize t.und r.nodes=un at *
  repeat' (first|refine ZBX rfl ?_|refine XL (f:=Tr.av) rfl rfl q Zv ?_|refine h1 _ _ ?_|refine h2 _ _ (fun e=>?_)|refine ZE ?_|refine ZD ?_|refine ZF rfl ?_|refine ZB rfl ?_|refine ZA ?_|(refine Zd rfl rfl (fun _=>?_) (fun _=>?_)<;>try (exfalso;omega))|refine ZU rfl ?_|refine Zb rfl rfl (by omega) ?_|refine QD rfl (Zl _) ?_|refine ZC rfl rfl (by first|rfl|(simp only [List.nil_append,List.append_nil,List.cons_append,Zg,ZW,ZZ];first|done|rfl)) (hUn) ?_|refine ZC rfl rfl (by first|rfl|(simp only [List.nil_append,List.append_nil,List.cons_append,Zg,ZW,ZZ];first|done|rfl)) (hKt _) ?_|refine ZH ?_|refine ZI ?_|refine Zt ?_|refine Zw ?_)
  all_goals try contradiction
  all_goals try (exfalso;omega)
  exact ⟨i+1,⟨rfl,rfl⟩,by omega,by omega⟩
 ·obtain rfl:i=ts.length:=by omega
  repeat' (first|refine ZBX rfl ?_|refine ZE ?_|refine ZD ?_|refine ZF rfl ?_|refine ZB rfl ?_|refine ZA ?_|(refine Zd rfl rfl (fun _=>?_) (fun _=>?_)<;>try (exfalso;omega))|refine ZG rfl ?_|refine ZC rfl rfl rfl (hWk _) ?_|refine ZP ?_|refine Zn ?_|refine ZO ?_|refine Za ?_|refine ZX rfl ?_|refine Zf ?_)
  all_goals try (exfalso;omega)
  refine Ze hA (by simp) rfl rfl rfl rfl ?_
  rfl
theorem ZgK (texts:List (List UInt8)) (l:List Stp) (hb:texts.length<9223372036854775808/\(∀ s∈texts,s.length<9223372036854775808)/\l.length<9223372036854775808/\∀ s∈l,s.text.length<9223372036854775808) (st:St) :
 S Tb YF [.lit (texts.map .str),.lit (l.map Stp.av)] st=some (.bool true,st):=by
 refine Z5 rfl (fun A hA=>?_)
 have hLo:=fun st=>ZoO texts hb.1 hb.2.1 st
 have hMa:=fun st=>ZoP l hb.2.2.1 hb.2.2.2 st
 have hWk:=fun st=>ZcG st
 by_cases hl:ZcL texts
 ·simp only [decide_eq_true hl] at hLo
  repeat' (first|refine ZE ?_|refine ZD ?_|refine ZF rfl ?_|refine JH rfl rfl ?_|refine Zk rfl rfl rfl rfl ?_|refine ZB rfl ?_|refine ZA ?_|refine ZU rfl ?_|refine ZC rfl rfl rfl (hLo _) ?_|refine ZC rfl rfl rfl (hWk _) ?_|refine ZP ?_|refine ZO ?_|refine ZY ?_)
  all_goals try contradiction
  all_goals refine Ze hA (by simp) rfl rfl rfl rfl ?_
  all_goals rfl
 simp only [decide_eq_false hl] at hLo
 by_cases hm:ZiS l
 ·simp only [decide_eq_true hm] at hMa
  repeat' (first|refine ZE ?_|refine ZD ?_|refine ZF rfl ?_|refine Z4 rfl ?_|refine Zk rfl rfl rfl rfl ?_|refine ZB rfl ?_|refine ZA ?_|refine ZU rfl ?_|refine ZC rfl rfl rfl (hLo _) ?_|refine ZC rfl rfl rfl (hMa _) ?_|refine ZC rfl rfl rfl (hWk _) ?_|refine ZP ?_|refine ZO ?_|refine ZY ?_)
  all_goals try contradiction
  all_goals refine Ze hA (by simp) rfl rfl rfl rfl ?_
  all_goals rfl
 simp only [decide_eq_false hm] at hMa;obtain ⟨t4,t9⟩:=ZgB hl;obtain ⟨l30,l200⟩:=ZlM hm;obtain ⟨LL,N,rs,kx,hS,hHas,hkx,hN,hOk,hrs,hrl⟩:=Zne texts t4 t9 A;have hNd:(X4 N).nodes=N:=rfl
 generalize X4 N=r at *
 subst hNd
 rcases rs with _|⟨r1,rs⟩
 ·have hq:(LL++[Blk.arr 3 0 [.agg [.ptr A.length 6 0 0 0,.ptr A.length 11 0 0 0,.nils]]])[LL.length]?=some (.arr 3 0 [.agg [.ptr A.length 6 0 0 0,.ptr A.length 11 0 0 0,.nils]]):=List.getElem?_concat_length ..
  have hH:=(hHas [Blk.arr 3 0 [.agg [.ptr A.length 6 0 0 0,.ptr A.length 11 0 0 0,.nils]]]).r
  obtain ⟨v,st',hR,rfl,es,ts,inv,rfl⟩:=Znw hN hH.rd (SlRo.lit []) hrs (by simp) l l30 l200
  have hlen:=inv.len
  have hLp:=ZiX hA hN hH hOk (kx:=0) hq (.inl ⟨rfl,rfl⟩) (fun z hz=>by simp at hz) (by simp) ts (by omega) (fun t ht=>⟨(inv.vb t ht).1,by have:=(inv.vb t ht).2;omega⟩)
  change S Tb JW _ _=some (.tup [.agg [.ptr A.length 6 0 0 0,.ptr A.length 11 0 0 0,.nils],.bool true],_) at hS
  repeat' (first|refine J7 rfl rfl rfl (ZSX _ (Nat.lt_succ_self _)) rfl rfl ?_|refine ZS rfl hq rfl rfl ?_|refine ZC rfl rfl Zld hR ?_|exact hLp|refine ZE ?_|refine ZD ?_|refine ZF rfl ?_|refine ZJ rfl rfl ?_|refine Z4 rfl ?_|refine Zk rfl rfl rfl rfl ?_|refine Z0 rfl rfl ?_|refine ZB rfl ?_|refine ZA ?_|refine ZG rfl ?_|refine Qs rfl rfl ?_|refine Zy rfl rfl rfl ?_|refine ZC rfl rfl rfl (hLo _) ?_|refine ZC rfl rfl rfl (hMa _) ?_|refine ZC rfl rfl rfl (hS) ?_|refine ZH ?_|refine ZI ?_)
  all_goals try contradiction
 ·have hk:=hkx (by simp)
  have hq:(LL++[Blk.arr 3 0 [.agg [.ptr A.length 6 0 0 0,.ptr A.length 11 0 0 0,.ref A.length kx rs.length 0 (rs.length+1)]]])[LL.length]?=some (.arr 3 0 [.agg [.ptr A.length 6 0 0 0,.ptr A.length 11 0 0 0,.ref A.length kx rs.length 0 (rs.length+1)]]):=List.getElem?_concat_length ..
  have hH:=(hHas [Blk.arr 3 0 [.agg [.ptr A.length 6 0 0 0,.ptr A.length 11 0 0 0,.ref A.length kx rs.length 0 (rs.length+1)]]]).r;have hk1:=hk [Blk.arr 3 0 [.agg [.ptr A.length 6 0 0 0,.ptr A.length 11 0 0 0,.ref A.length kx rs.length 0 (rs.length+1)]]]
  obtain ⟨v,st',hR,rfl,es,ts,inv,rfl⟩:=Znw hN hH.rd (SlRo.ref (rs:=r1::rs) (lv:=A.length) (ix:=kx) (ver:=rs.length) (n:=rs.length+1) (ZA0 hk1) rfl (by rw [List.take_of_length_le (by simp)])) hrs (by omega) l l30 l200
  have hlen:=inv.len
  have hLp:=ZiX hA hN hH hOk hq (.inr ⟨rfl,hk1⟩) (fun z hz=>(hrs z hz).1) hrl ts (by omega) (fun t ht=>⟨(inv.vb t ht).1,by have:=(inv.vb t ht).2;omega⟩)
  change S Tb JW _ _=some (.tup [.agg [.ptr A.length 6 0 0 0,.ptr A.length 11 0 0 0,.ref A.length kx rs.length 0 (rs.length+1)],.bool true],_) at hS
  repeat' (first|refine J7 rfl rfl rfl (ZZG _ (Nat.lt_succ_self _)) rfl rfl ?_|refine ZS rfl hq rfl rfl ?_|refine ZC rfl rfl Zld hR ?_|exact hLp|refine ZE ?_|refine ZD ?_|refine ZF rfl ?_|refine ZJ rfl rfl ?_|refine Z4 rfl ?_|refine Zk rfl rfl rfl rfl ?_|refine Z0 rfl rfl ?_|refine ZB rfl ?_|refine ZA ?_|refine ZG rfl ?_|refine Qs rfl rfl ?_|refine Zy rfl rfl rfl ?_|refine ZC rfl rfl rfl (hLo _) ?_|refine ZC rfl rfl rfl (hMa _) ?_|refine ZC rfl rfl rfl (hS) ?_|refine ZH ?_|refine ZI ?_)
  all_goals try contradiction
end Go.Q15
namespace Go.QAbs
open Go.ChangeShapes Go.WideShapes Go.RowKit Go.Deep
variable {P:Program}
def rho0:Rho:=⟨fun _ _=>⟨0,0,0⟩,fun _=>(0,[])⟩
theorem Zjf (lv ix:Nat):St.empty.get lv ix=none:=by
 unfold St.empty St.get
 split<;>simp [vis]
theorem Zlf {W:World} {b o:Nat} {v:Value} (h:W.cell? ⟨b,o,none⟩=some v):(cx .empty rho0 W 0).im b o v :=
 ⟨h,fun ⟨lv,ix,w,ver,es,hg,_⟩=>by rw [Zjf] at hg;simp at hg⟩
theorem walk_in (hm:P.follows .mixedOrders=true) {T:Tab} (hT:TabOk P T) {f:FuncId} {args:List AV} (h:∃ st',S T f args .empty=some (.bool true,st')) {W:World} {xs:List Value} (hx:RL (cx .empty rho0 W 0) args xs) :
 Calls P f xs.toArray W fun e W'=>e=.returned (.bool true)/\Below W.heap.size W W':=by
 obtain ⟨st',h⟩:=h
 refine (ZmZ hm hT h (Zi1 W) hx).mono fun e' W' ⟨x,_,he,g,hv⟩=>?_
 subst he
 exact ⟨by rw [YN hv],g.rel.below.b⟩
theorem ZiY {W:World} {b off len cap w:Nat} (es:List AV) (g:Nat->Value) (hlen:es.length=len) (hc:len<=cap) (he:∀ (i:Nat) (e:AV),es[i]?=some e->R (cx .empty rho0 W 0).pure e (g i))
 (hg:∀ i,i<len->(g i).cells.size=w/\∀ (j:Nat) (v:Value),(g i).cells[j]?=some v->W.cell? ⟨b,off+i*w+j,none⟩=some v):R (cx .empty rho0 W 0) (.lit es) (.slice (some ⟨b,off,none⟩) len cap):=by
 subst hlen
 exact .lit (w:=w) g he (fun i hi=>⟨(hg i hi).1,fun j v hv=>Zlf ((hg i hi).2 j v hv)⟩) hc
section
variable {H:Type} {enc:TypeId × Value->H}
theorem open_strs_arg {W:World} {base:Nat} {t e:TypeId} {v:Value} {d:DataW H} {ps:List MemPlace} (ht:P.underlying t=some (.slice e)) (he:P.underlying e=some .string) (hc:P.cellsOf e=1)
 (hval:Value.okWide P W .any base t v) (h:DataW.Trod enc P W 0 (fun _=>true) true t v d ps) :
 ∃ ss:List (List UInt8),(∀ s∈ss,s.length<=maxLen)/\ss.length<=maxLen/\R (cx .empty rho0 W 0) (.lit (ss.map .str)) v:=by
 obtain ⟨a0,len,cap,rfl⟩:=okWide_slice ht hval;obtain ⟨fuel,hf⟩:=h
 rcases open_strings ht he hc hf with ⟨hcs,hx⟩|⟨a,len',cap',ss,hcs,_,hl,hm,hz,hx,hcell,hsz⟩
 ·refine ⟨[],by simp,by simp,?_⟩
  have:(Value.slice a0 len cap)=.slice none 0 0:=by simpa [Value.cells] using hcs
  rw [this];exact .lit0 _ _
 ·have hv:(Value.slice a0 len cap)=.slice (some a) len' cap':=by simpa [Value.cells] using hcs
  rw [hv];simp only [if_true] at hz
  refine ⟨(ss.take len').map (fun s=>s.data.toList),?_,?_,?_⟩
  ·intro s hs
   obtain ⟨s',hs',rfl⟩:=List.mem_map.1 hs;rw [Array.length_toList];exact hsz s' (List.mem_of_mem_take hs')
  ·rw [List.length_map,List.length_take];omega
  ·cases len' with
   | zero=>exact .lit0 _ _
   | succ n =>
    obtain ⟨b,off,spot⟩:=a
    have hspot:spot=none:=by simpa [Addr.add] using World.cell?_spot (hcell 0 (by omega))
    subst hspot
    refine ZiY (w:=1) _ (fun i=>.string (ss.getD i ByteArray.empty)) (by simp;omega) hl (fun i e he=>?_) (fun i hi=>⟨rfl,fun j v hv=>?_⟩)
    ·rw [jG,jG,List.getElem?_take] at he
     by_cases hi:i<n+1
     ·rw [if_pos hi] at he
      have hs:ss[i]?=some (ss.getD i ByteArray.empty):=by
       have:i<ss.length:=by omega
       simp [List.getD,this]
      rw [hs] at he;simp only [Option.map_some,Option.some.injEq] at he;subst he;rw [Zkh (ss.getD i ByteArray.empty)];exact .str _
     ·rw [if_neg hi] at he;simp at he
    ·have hj : j = 0 := by
      have:j<(Value.string (ss.getD i ByteArray.empty)).cells.size:=(Array.getElem?_eq_some_iff.1 hv).1
      simp [Value.cells] at this;omega
     subst hj
     have hv':Value.string (ss.getD i ByteArray.empty)=v:=by simpa [Value.cells] using hv
     rw [<- hv']
     have:=hcell i (by omega)
     simpa [Addr.add_lit] using this
end
end Go.QAbs
namespace Go.QAbs
open Go.ChangeShapes Go.WideShapes Go.RowKit Go.Deep
variable {P:Program}
section
variable {H:Type} {enc:TypeId × Value->H}
theorem open_steps_arg {W:World} {base:Nat} {t e t0 t1 t2 t3:TypeId} {f0 f1 f2 f3:Field} {v:Value} {d:DataW H} {ps:List MemPlace} (ht:P.underlying t=some (.slice e)) (he:P.underlying e=some (.struct #[f0,f1,f2,f3])) (hc:P.cellsOf e=4)
 (hf0:f0.type=t0/\f0.offset=0/\P.underlying t0=some (.int .u8)/\P.cellsOf t0=1) (hf1:f1.type=t1/\f1.offset=1/\P.underlying t1=some (.int .i64)/\P.cellsOf t1=1) (hf2:f2.type=t2/\f2.offset=2/\P.underlying t2=some (.int .i64)/\P.cellsOf t2=1)
 (hf3:f3.type=t3/\f3.offset=3/\P.underlying t3=some .string/\P.cellsOf t3=1) (hval:Value.okWide P W .any base t v) (h:DataW.Trod enc P W 0 (fun _=>true) true t v d ps) :
 ∃ l:List (Nat × Int × Int × List UInt8),(∀ s∈l,s.2.2.2.length<=maxLen)/\l.length<=maxLen/\R (cx .empty rho0 W 0) (.lit (l.map fun q=>.agg [.int .u8 q.1,.int .i64 q.2.1,.int .i64 q.2.2.1,.str q.2.2.2])) v:=by
 obtain ⟨a0,len,cap,rfl⟩:=okWide_slice ht hval;obtain ⟨fuel,hf⟩:=h
 rcases open_slice ht hf with ⟨hcs,hx⟩|⟨a,len',cap',m,n,D,Pl,hcs,_,hl,hm,hmm,hx,hall⟩
 ·refine ⟨[],by simp,by simp,?_⟩
  have:(Value.slice a0 len cap)=.slice none 0 0:=by simpa [Value.cells] using hcs
  rw [this];exact .lit0 _ _
 ·have hv:(Value.slice a0 len cap)=.slice (some a) len' cap':=by simpa [Value.cells] using hcs
  rw [hv];simp only [if_true] at hmm;subst hmm;rw [hc] at hall
  have each:∀ i,i<len'->∃ q:Nat × Int × Int × List UInt8,q.2.2.2.length<=maxLen/\W.cell? (a.add (i*4))=some (.int .u8 q.1)/\W.cell? (a.add (i*4+1))=some (.int .i64 q.2.1)/\W.cell? (a.add (i*4+2))=some (.int .i64 q.2.2.1)/\W.cell? (a.add (i*4+3))=some (.string ⟨q.2.2.2.toArray⟩):=by
   intro i hi
   obtain ⟨cs',h1,h2⟩:=hall i (by omega)
   obtain ⟨_,hlen,hcell⟩:=World.cells?_some h1;obtain ⟨xs,k,_,_,_,hxl,hfs⟩:=DataW.trod_struct he h2;have g0:=hfs 0 f0 rfl;have g1:=hfs 1 f1 rfl;have g2:=hfs 2 f2 rfl;have g3:=hfs 3 f3 rfl
   match cs',hlen,xs,hxl with
   | [c0,c1,c2,c3],_,[y0,y1,y2,y3],_ =>
    simp only [hf0.1,hf0.2.1,hf0.2.2.2,hf1.1,hf1.2.1,hf1.2.2.2,hf2.1,hf2.2.1,hf2.2.2.2,hf3.1,hf3.2.1,hf3.2.2.2,List.drop,List.take,List.getElem?_cons_zero,List.getElem?_cons_succ] at g0 g1 g2 g3;obtain ⟨n0,e0,_,w0⟩:=DataW.trod_int hf0.2.2.1 g0;obtain ⟨n1,e1,_,_⟩:=DataW.trod_int hf1.2.2.1 g1;obtain ⟨n2,e2,_,_⟩:=DataW.trod_int hf2.2.2.1 g2;obtain ⟨s,e3,_,hs⟩:=DataW.trod_string hf3.2.2.1 g3;simp only [List.cons.injEq,and_true] at e0 e1 e2 e3;subst e0;subst e1;subst e2;subst e3
    have hn0:0<=n0:=by
     simp only [Lit.wf,Bool.and_eq_true,decide_eq_true_eq] at w0;exact w0.1
    refine ⟨(n0.toNat,n1,n2,s.data.toList),by simp only [Array.length_toList];exact hs,?_,?_,?_,?_⟩
    ·have:=hcell 0 (by omega)
     simp only [add_add,Nat.add_zero,List.getElem?_cons_zero] at this;rw [this];simp only [Int.toNat_of_nonneg hn0]
    ·have:=hcell 1 (by omega)
     simpa only [add_add,List.getElem?_cons_succ,List.getElem?_cons_zero] using this
    ·have:=hcell 2 (by omega)
     simpa only [add_add,List.getElem?_cons_succ,List.getElem?_cons_zero] using this
    ·have:=hcell 3 (by omega)
     simp only [add_add,List.getElem?_cons_succ,List.getElem?_cons_zero] at this;rw [this,Zkh s]
  obtain ⟨q,hq⟩:=choose_lt each
  refine ⟨(List.range len').map q,?_,by simp;omega,?_⟩
  ·intro s hs
   obtain ⟨i,hi,rfl⟩:=List.mem_map.1 hs;exact (hq i (List.mem_range.1 hi)).1
  ·cases len' with
   | zero=>exact .lit0 _ _
   | succ len' =>
    obtain ⟨b,off,spot⟩:=a
    have hspot:spot=none:=by simpa [Addr.add] using World.cell?_spot (hq 0 (by omega)).2.1
    subst hspot
    refine ZiY (w:=4) _ (fun i=>.agg #[.int .u8 (q i).1,.int .i64 (q i).2.1,.int .i64 (q i).2.2.1,.string ⟨(q i).2.2.2.toArray⟩]) (by simp) hl (fun i e he=>?_) (fun i hi=>⟨by simp [Value.cells],fun j v hv=>?_⟩)
    ·rw [jG,jG] at he
     by_cases hi:i<len'+1
     ·rw [List.getElem?_range hi] at he
      simp only [Option.map_some,Option.some.injEq] at he;subst he;have hr:=RL.cons (C:=(cx .empty rho0 W 0).pure) (.int .u8 ((q i).1:Int)) (.cons (.int .i64 (q i).2.1) (.cons (.int .i64 (q i).2.2.1) (.cons (.str (q i).2.2.2) (.nil _))));exact .agg (xs:=[_,_,_,_]) hr.1 hr.2
     ·have:(List.range (len'+1))[i]?=none:=by simp;omega
      rw [this] at he;simp at he
    ·obtain ⟨_,k0,k1,k2,k3⟩:=hq i hi
     have hj:j<4:=by
      have:=(Array.getElem?_eq_some_iff.1 hv).1
      simpa [Value.cells] using this
     simp only [Addr.add_lit] at k0 k1 k2 k3
     match j,hj with
     | 0,_ =>
      have:v=.int .u8 (q i).1:=by simpa [Value.cells] using hv.symm
      subst this;simpa using k0
     | 1,_ =>
      have:v=.int .i64 (q i).2.1:=by simpa [Value.cells] using hv.symm
      subst this;simpa [Nat.add_assoc] using k1
     | 2,_ =>
      have:v=.int .i64 (q i).2.2.1:=by simpa [Value.cells] using hv.symm
      subst this;simpa [Nat.add_assoc] using k2
     | 3,_ =>
      have:v=.string ⟨(q i).2.2.2.toArray⟩:=by simpa [Value.cells] using hv.symm
      subst this;simpa [Nat.add_assoc] using k3
end
end Go.QAbs
namespace Go.Q15
open Go Go.QAbs
set_option maxRecDepth 100000
open Go.Shelf in
def Zlg:Ren:=⟨fun|41=>107|n=>n,fun|22=>105|23=>111|n=>n,fun n=>n⟩
theorem Zlh:Go.Proofs.SlLaysE0.n41 Proofs.Tryz.prog Zlg:={
 mixed:=by kernel_rfl
 f41 := ⟨"slices.Clone[[]quarto/api.Kid,quarto/api.Kid]", by decide, Proofs.Tryz.func107.trans (congrArg some (by kernel_rfl))⟩
 t4:=Proofs.Tryz.underlying4
 a4:=Proofs.Tryz.isAgg4
 z4:=Proofs.Tryz.sizeOf4
 v4:=Proofs.Tryz.zeroValue4
 t22:=Proofs.Tryz.underlying105
 a22:=Proofs.Tryz.isAgg105
 z22:=Proofs.Tryz.sizeOf105
 v22:=Proofs.Tryz.zeroValue105 }
theorem Zli:∃ i z,Proofs.Tryz.prog.info? 111=some i/\i.zero=some z/\i.size=4/\i.bytes=32/\z.cells.size=4:=⟨_,_,rfl,rfl,rfl,rfl,rfl⟩
theorem Zhp:ZfC Proofs.Tryz.prog Z6 (.base (ZFV 4)):=by
 obtain ⟨i,z,h1,h2,h3,h4,h5⟩:=Zli
 refine Zkj (T:=111) (fun n c W=>Go.Proofs.AnyE.slices_Clone_nil Zlh n c W) fun ad n c news W hl hn hc ho=>?_
 exact Zi2 Zlh i z 4 32 h1 h2 h3 h4 h5 (by decide) Proofs.Tryz.sizeOf111 ad n c news W hl (by unfold maxLen;omega) (by omega) hc ho
theorem Zod:ZfD Proofs.Tryz.prog tl:=⟨⟨Proofs.Tryz.call107,Zhp⟩,Zmj⟩
theorem Tb_ok:TabOk Proofs.Tryz.prog Tb:=Zkg Zod
def Znx (q:Nat × Int × Int × List UInt8):Stp:=⟨q.1,q.2.1,q.2.2.1,q.2.2.2⟩
theorem planDrops_run (ss:List (List UInt8)) (l:List (Nat × Int × Int × List UInt8)) (h1:∀ s∈ss,s.length<=maxLen) (h2:ss.length<=maxLen) (h3:∀ s∈l,s.2.2.2.length<=maxLen) (h4:l.length<=maxLen) :
 ∃ st',S Tb YF [.lit (ss.map .str),.lit (l.map fun q=>.agg [.int .u8 q.1,.int .i64 q.2.1,.int .i64 q.2.2.1,.str q.2.2.2])] .empty=some (.bool true,st'):=by
 have hm:maxLen<9223372036854775808:=by decide +kernel
 have:=ZgK ss (l.map Znx) ⟨by omega,fun s hs=>by have:=h1 s hs;omega,by rw [List.length_map];omega,fun s hs=>by obtain ⟨q,hq,rfl⟩:=List.mem_map.1 hs;have:=h3 q hq;simp only [Znx];omega⟩ .empty
 rw [List.map_map] at this;exact ⟨_,this⟩
end Go.Q15
