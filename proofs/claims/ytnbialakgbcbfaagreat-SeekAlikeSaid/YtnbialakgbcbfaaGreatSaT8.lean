/- A part of the proof: RK, M52, RL, S4, S5, S6, YX, W7, RN, RO, W8, RP, SA, SC, RS, RQ, RT, RU, RV, M18, PO, RW, RX, SO, RY, SPa, SPb, SPc, W9, SPd, SQa, SQb, SQc, SQd, SKa, SKb, SKc, SXa, SQe, SB, RZ, SD, SE, SF, SG, SI, SJ, SK, SL, SN, SQf, SSa, SSb, SSc, SSd, SSe, SSf, SSg, SSh, SSi, SSj, SSk, STd. No condition. -/
import Derived.Test.YtnbialakgbcbfaaGreatSaT7
set_option linter.unusedVariables false
set_option linter.unusedSimpArgs false
namespace Go.Q15
open Go Go.QAbs
set_option maxRecDepth 100000
set_option maxHeartbeats 8000000
theorem get_appR {A:List (Bool × List Blk)} {ro:Bool} {L:List Blk} {lv ix:Nat} {b:Blk} (T:List Blk) (h:St.get ⟨A,ro,L⟩ lv ix=some b):St.get ⟨A,ro,L++T⟩ lv ix=some b:=by
 unfold St.get at h ⊢
 simp only at h ⊢
 split
 ·rename_i q
  rw [if_pos q] at h
  have h2:=(vis_noH h).1
  rw [List.getElem?_append_left (List.getElem?_eq_some_iff.1 h2).1];exact h
 ·rename_i q
  rw [if_neg q] at h;exact h
theorem HasR.app {A:List (Bool × List Blk)} {ro:Bool} {L:List Blk} {la b:Nat} {r:AR} (h:HasR ⟨A,ro,L⟩ la b r) (T:List Blk):HasR ⟨A,ro,L++T⟩ la b r :=
 ⟨get_appR T h.h0,get_appR T h.h1,get_appR T h.h2,get_appR T h.h3,get_appR T h.h4,get_appR T h.h5⟩
mutual
theorem AddT.keys:∀ {t:Tr} {rx:Nat} {its:List It} {R:List (Nat × Ro)},AddT t rx its R→rx∈R.map Prod.fst∧∀ it∈its,it.rx∈R.map Prod.fst∧∀ k∈itKs it.c,k∈R.map Prod.fst
 | _,_,_,_,.kept h0=>⟨by simp,fun it h=>by simp at h⟩
 | _,_,_,_,.leaf=>⟨by simp,fun it h=>by simp only [List.mem_singleton] at h;subst h;exact ⟨by simp,fun k hk=>by simp [itKs] at hk⟩⟩
 | _,_,_,_,.inner hl hn hx=>by
  obtain ⟨h1,h2⟩:=AddL.keys hl
  refine ⟨by simp,fun it h=>?_⟩
  rcases List.mem_append.1 h with q|q
  ·obtain ⟨a1,a2⟩:=h2 it q
   exact ⟨by rw [List.map_append];exact List.mem_append_left _ a1,fun k hk=>by rw [List.map_append];exact List.mem_append_left _ (a2 k hk)⟩
  ·simp only [List.mem_singleton] at q
   subst q
   exact ⟨by simp,fun k hk=>by rw [List.map_append];exact List.mem_append_left _ (h1 k hk)⟩
theorem AddL.keys:∀ {l:List Tr} {rs:List Nat} {its:List It} {R:List (Nat × Ro)},AddL l rs its R→(∀ r∈rs,r∈R.map Prod.fst)∧∀ it∈its,it.rx∈R.map Prod.fst∧∀ k∈itKs it.c,k∈R.map Prod.fst
 | _,_,_,_,.nil=>⟨fun r h=>by simp at h,fun it h=>by simp at h⟩
 | _,_,_,_,.cons ht hl=>by
  obtain ⟨a1,a2⟩:=ht.keys
  obtain ⟨b1,b2⟩:=hl.keys
  refine ⟨fun r h=>?_,fun it h=>?_⟩
  ·rw [List.map_append]
   rcases List.mem_cons.1 h with rfl|q
   ·exact List.mem_append_left _ a1
   ·exact List.mem_append_right _ (b1 r q)
  ·rw [List.map_append]
   rcases List.mem_append.1 h with q|q
   ·exact ⟨List.mem_append_left _ (a2 it q).1,fun k hk=>List.mem_append_left _ ((a2 it q).2 k hk)⟩
   ·exact ⟨List.mem_append_right _ (b2 it q).1,fun k hk=>List.mem_append_right _ ((b2 it q).2 k hk)⟩
end
def roOf (R:List (Nat × Ro)) (k:Nat):Ro:=((R.find? fun p=>p.1 == k).map Prod.snd).getD .zero
theorem roOf_ok:∀ {R:List (Nat × Ro)},(R.map Prod.fst).Nodup→∀ p∈R,roOf R p.1=p.2
 | [],_,p,hp=>by simp at hp
 | q::R,hn,p,hp=>by
  rw [List.map_cons,List.nodup_cons] at hn
  unfold roOf
  rw [List.find?_cons]
  rcases List.mem_cons.1 hp with rfl|w
  ·simp
  ·have:q.1≠p.1:=fun e=>hn.1 (by rw [e];exact List.mem_map.2 ⟨p,w,rfl⟩)
   rw [show (q.1 == p.1)=false by simp [this]]
   exact roOf_ok hn.2 p w
def PI (t:Tr) (its:List It) (rx:Nat) (ρ:Nat→Ro):Prop:=(IsEmpty t∧its=[]∧ρ rx=.zero)∨(∃ N,Val N t)∧∃ R,AddT t rx its R∧(∀ p∈R,ρ p.1=p.2)∧(R.map Prod.fst).Nodup
def nw (t:Tr):Nat:=if t.old=0∧t.h=0∧t.text=[] then 0 else t.cnt
theorem nw_val {N:Nodes} {t:Tr} (hv:Val N t):nw t=t.cnt:=by
 unfold nw
 cases hv with
 | kept h0=>rw [if_neg];simp [Tr.old,h0]
 | leaf h1=>rw [if_neg];rintro ⟨_,_,q⟩;simp only [Tr.text] at q;rw [q] at h1;simp at h1
 | inner=>rw [if_neg];simp [Tr.h]
structure Begun (A:List (Bool × List Blk)) (L L2:List Blk) (la b:Nat) (t:Tr) (tx ver:Nat) (cs:List AV) (its:List It) (F:List (Nat × Blk)) (keys:List Nat) (rx:Nat) (ρ:Nat→Ro):Prop where
 ps:PenS ⟨A,false,L2⟩ A.length (L.length+1) tx ver la b cs its F keys rx ρ 0
 len:L.length+2≤L2.length
 old:∀ i,i<L.length→L2[i]?=L[i]?
 klo:∀ k∈keys,L.length+2≤k
 flo:∀ p∈F,L.length+2≤p.1
 tlo:cs≠[]→L.length+2≤tx
 pi:PI t its rx ρ
theorem begin_val {N:Nodes} {A:List (Bool × List Blk)} {L:List Blk} {la b:Nat} {r:AR} (hA:HasR ⟨A,false,L⟩ la b r) (hN:r.n≤r.blk.length) (h16:r.states.length≤16384) (h6:r.n<65536) {t:Tr} (hv:Val r.nodes t) (hb:t.bytes≤65536) (hn:t.cnt≤r.n) :
 ∃ L2 tx ver cs its F keys rx ρ,S Tb F_rope_Begin [.ptr la (b+5) 0 0 0,t.av] ⟨A,false,L⟩=some (.tup [.ptr A.length (L.length+1) 0 0 0,.int .i64 0],⟨A,false,L2⟩)∧Begun A L L2 la b t tx ver cs its F keys rx ρ:=by
 have hCk:=fun T=>Check_val (hA.app T).rd hv hb
 have hNw:=fun st=>New_c hv (by omega) st
 have hSt:=fun T=>Stats_c (hA.app T) hN h16 h6
 unfold AR.statsAV at hSt
 obtain ⟨T,hT⟩:∃ T:List Blk,T=[.arr 7 0 [t.av],.arr 3 0 [.agg [.ptr la (b+5) 0 0 0,.nils,.nilptr]]]:=⟨_,rfl⟩
 have hTl:T.length=2:=by rw [hT];rfl
 have hip:(L++T)[L.length+1]?=some (.arr 3 0 [.agg [.ptr la (b+5) 0 0 0,.nils,.nilptr]]):=by rw [get_app,hT];rfl
 have hP:Pen A (L++T) (L.length+1) (.ptr la (b+5) 0 0 0) .nils []:=⟨⟨_,hip⟩,.inl ⟨rfl,rfl⟩⟩
 obtain ⟨L1,td1,rx,its,cs,R,F,hS,ha⟩:=add_c hv hb hP (by simp;omega)
 obtain ⟨⟨rp,p1⟩,p2⟩:=ha.pen
 rw [lE] at p2
 have hl1:=ha.frm.len
 rw [lL,hTl] at hl1
 have hlt1:L.length+1<L1.length:=(List.getElem?_eq_some_iff.1 p1).1
 have hkl:∀ k∈R.map Prod.fst,L.length+2≤k:=fun k hk=>by
  obtain ⟨p,hp,rfl⟩:=List.mem_map.1 hk
  have:=ha.rlo p hp
  rwa [lL,hTl] at this
 have hfl:∀ p∈F,L.length+2≤p.1:=fun p hp=>by
  have:=ha.flo p hp
  rwa [lL,hTl] at this
 have hg:∀ i,i≠L.length+1→∀ B,(L1.set (L.length+1) B)[i]?=L1[i]?:=fun i hi B=>List.getElem?_set_ne (fun q=>hi q.symm)
 obtain ⟨q1,q2⟩:=ha.tr.keys
 have hbl:la=A.length→b+5<L.length:=fun e=>by
  have:=hA.h5
  subst e
  rw [St.get_cur] at this
  exact (List.getElem?_eq_some_iff.1 (vis_noH this).1).1
 -- where the list lies
 obtain ⟨tx,ver,t1,t2,t3⟩:∃ tx ver,(cs=[]∧td1=.nils∧tx=L.length∨cs≠[]∧td1=.ref A.length tx ver 0 cs.length∧L1[tx]?=some (.arr 1 ver cs)∧L.length+2≤tx∧penX (L.length+1) td1 tx)∧tx≠L.length+1∧(∀ k,L.length+2≤k→¬ penX (L.length+1) td1 k→k≠tx):=by
  rcases p2 with ⟨e1,e2⟩|⟨tx,ver,e1,e2,e3,e4⟩
  ·exact ⟨L.length,0,.inl ⟨e2,e1,rfl⟩,by omega,fun k hk _=>by omega⟩
  ·have hX:penX (L.length+1) td1 tx:=.inr ⟨_,_,_,_,e1⟩
   refine ⟨tx,ver,.inr ⟨e4,e1,e2,?_,hX⟩,e3,fun k hk hn q=>hn (by rw [q];exact hX)⟩
   rcases ha.frm.own tx hX with w|w
   ·rcases w with w|⟨_,_,_,_,w⟩
    ·exact absurd w e3
    ·simp at w
   ·rwa [lL,hTl] at w
 refine ⟨L1.set (L.length+1) (.arr 3 0 [.agg [.ptr la (b+5) 0 0 0,td1,.ptr A.length rx 0 0 0]]),tx,ver,cs,its,F,R.map Prod.fst,rx,roOf R,s_keep rfl ?_,⟨⟨by simp [St.wr],⟨td1,by rw [St.get_cur,List.getElem?_set_self hlt1];rfl,?_⟩,ha.cl,?_,?_,q2,q1,?_,t2,?_,?_,?_,Nat.zero_le _⟩,by rw [List.length_set];omega,?_,hkl,hfl,fun hc=>(by
  rcases t1 with ⟨w,_⟩|⟨_,_,_,w,_⟩
  ·exact absurd w hc
  ·exact w),.inr ⟨⟨_,hv⟩,R,ha.tr,roOf_ok ha.nd,ha.nd⟩⟩⟩
 ·have e0:(⟨A,false,L⟩:St)=⟨A,false,L++[]⟩:=by rw [lN]
  rw [e0]
  rw [hT] at hS
  repeat' (first|refine is_boxA rfl (tr_wide _) (tr_force _) rfl rfl ?_|refine is_boxA rfl rfl rfl rfl rfl ?_|refine is_ldA rfl rfl rfl (tr_part _) ?_|refine ruS rfl ?_|refine isS rfl ?_|refine rk_seq ?_|refine is_fld (agg:=false) rfl rfl ?_|(refine is_gtr rfl rfl (fun _=>?_) (fun _=>?_)<;>try (exfalso;omega))|(refine is_neq rfl rfl (fun _=>?_) (fun _=>?_)<;>try (exfalso;omega))|refine is_buildO rfl rfl rfl ?_|refine is_callE rfl rfl (by first|rfl|(simp only [lE,lN,lC,weaks,tr_weak,forceL];first|done|rfl)) (hCk _) ?_|refine is_callE rfl rfl (by first|rfl|(simp only [lE,lN,lC,weaks,tr_weak,forceL];first|done|rfl)) (hNw _) ?_|refine is_callE rfl rfl (by first|rfl|(simp only [lE,lN,lC,weaks,tr_weak,forceL];first|done|rfl)) (hSt _) ?_|refine is_callE rfl rfl (by first|rfl|(simp only [lE,lN,lC,weaks,tr_weak,forceL];first|done|rfl)) (hS) ?_)
  all_goals try (exfalso;omega)
  refine is_stn p1 rfl rfl rfl ?_ rfl ?_
  ·simp only [sealV,deep,if_pos (Nat.lt_succ_self _)]
  repeat' (first|refine ruS rfl ?_|refine isS rfl ?_|refine rkS rfl ?_)
  refine (end_keep (.inr rfl) rfl rfl rfl rfl).trans ?_
  rfl
 ·rcases t1 with ⟨e1,e2,e3⟩|⟨e0,e1,e2,e3⟩
  ·exact .inl ⟨e1,e2⟩
  ·exact .inr ⟨e0,e1,by rw [St.get_cur,hg _ t2,e2];rfl⟩
 ·intro p hp
  obtain ⟨f1,f2⟩:=ha.fx p hp
  obtain ⟨w,v,es,f3,f4⟩:=ha.fw p hp
  have:p.1≠L.length+1:=fun q=>f2 (.inl q)
  rw [St.get_cur,hg _ this,f1,f3];rfl
 ·intro k hk
  obtain ⟨p,hp,rfl⟩:=List.mem_map.1 hk
  obtain ⟨f1,f2⟩:=ha.rts.get hp
  have:p.1≠L.length+1:=fun q=>f2 (.inl q)
  rw [St.get_cur,hg _ this,f1,roOf_ok ha.nd p hp];rfl
 ·intro k hk
  have h1:=hkl k hk
  obtain ⟨p,hp,rfl⟩:=List.mem_map.1 hk
  exact ⟨by omega,t3 _ h1 (ha.rts.get hp).2⟩
 ·intro p hp
  obtain ⟨f1,f2⟩:=ha.fx p hp
  obtain ⟨w,v,es,f3,f4⟩:=ha.fw p hp
  have h1:=hfl p hp
  refine ⟨fun q=>?_,by omega,t3 _ h1 f2⟩
  obtain ⟨u,hu,e⟩:=List.mem_map.1 q
  have f5:=(ha.rts.get hu).1
  rw [e,f1,f3] at f5
  simp only [oJ,Blk.arr.injEq] at f5
  exact f4 f5.1
 ·intro i hi ⟨e1,e2,e3⟩
  have:=hbl e1.symm
  rcases hi with rfl|⟨c1,rfl⟩|q|⟨p,hp,rfl⟩
  ·omega
  ·rcases t1 with ⟨w,_⟩|⟨_,_,_,w,_⟩
   ·exact c1 w
   ·omega
  ·have:=hkl i q;omega
  ·have:=hfl p hp;omega
 ·have h1:=ha.cl.len
  have h2:=ha.tr.cnt
  omega
 ·intro i hi
  rw [hg i (by omega),ha.frm.old i (by rw [lL];omega) (fun q=>?_),List.getElem?_append_left hi]
  rcases q with q|⟨_,_,_,_,q⟩
  ·omega
  ·simp at q
theorem get_top {A:List (Bool × List Blk)} {ro:Bool} {L:List Blk} {i:Nat} {b:Blk} (h:L[i]?=some b) (hv:vis (some b)=some b):St.get ⟨A,ro,L⟩ A.length i=some b:=by rw [St.get_cur,h,hv]
theorem New_empty {t:Tr} (ht:IsEmpty t) (st:St):S Tb F_plan_New [t.av] st=some (.int .i64 (0:Nat),st) :=
 New_leafy (c:=1) ht.ks (fun st=>kind_empty t ht st) st
theorem begin_empty {A:List (Bool × List Blk)} {L:List Blk} {la b:Nat} {r:AR} (hA:HasR ⟨A,false,L⟩ la b r) (hN:r.n≤r.blk.length) (h16:r.states.length≤16384) (h6:r.n<65536) {t:Tr} (ht:IsEmpty t) :
 ∃ L2 tx ver cs its F keys rx ρ,S Tb F_rope_Begin [.ptr la (b+5) 0 0 0,t.av] ⟨A,false,L⟩=some (.tup [.ptr A.length (L.length+1) 0 0 0,.int .i64 0],⟨A,false,L2⟩)∧Begun A L L2 la b t tx ver cs its F keys rx ρ:=by
 have hCk:=fun T=>Check_empty (st:=⟨A,false,L++T⟩) (lv:=la) (ix:=b+5) ht
 have hNw:=fun st=>New_empty ht st
 have hSt:=fun T=>Stats_c (hA.app T) hN h16 h6
 unfold AR.statsAV at hSt
 have hbl:la=A.length→b+5<L.length:=fun e=>by
  have:=hA.h5
  subst e
  rw [St.get_cur] at this
  exact (List.getElem?_eq_some_iff.1 (vis_noH this).1).1
 obtain ⟨T,hT⟩:∃ T:List Blk,T=[.arr 7 0 [t.av],.arr 3 0 [.agg [.ptr la (b+5) 0 0 0,.nils,.nilptr]]]:=⟨_,rfl⟩
 have hadd:S Tb F_rope_Pen_add [.ptr A.length (L.length+1) 0 0 0,t.av] ⟨A,false,L++T⟩=some (.ptr A.length ((L++T).length+1) 0 0 0,⟨A,false,(L++T)++[.arr 7 0 [t.av],.arr 5 0 [Ro.zero.av]]⟩):=by
  refine s_keep rfl ?_
  have e0:(⟨A,false,L++T⟩:St)=⟨A,false,(L++T)++[]⟩:=by rw [lN]
  rw [e0]
  generalize L++T=L0
  obtain ⟨o,h,m,s,k⟩:=t
  obtain ⟨h1,h2,h3,h4,h5⟩:=ht
  simp only [Tr.old,Tr.h,Tr.m,Tr.text,Tr.ks] at h1 h2 h3 h4 h5
  subst h1 h2 h3 h4
  obtain ⟨ka,hka,hka2⟩:∃ ka,Tr.avO k=ka∧(ka=.nils∨ka=.lit []):=by
   cases k with
   | none=>exact ⟨_,rfl,.inl rfl⟩
   | some l=>have:l=[]:=h5;subst this;exact ⟨_,rfl,.inr rfl⟩
  simp only [Tr.av,Mea.zero,hka] at *
  rcases hka2 with rfl|rfl
  all_goals repeat' (first|refine is_boxA rfl rfl rfl rfl rfl ?_|refine is_ldA rfl rfl rfl rfl ?_|refine ruS rfl ?_|refine isS rfl ?_|refine rkS rfl ?_|refine is_lenF rfl rfl ?_|refine is_lenN rfl ?_|(refine is_eql rfl rfl (fun _=>?_) (fun _=>?_)<;>try (exfalso;omega))|(refine is_neq rfl rfl (fun _=>?_) (fun _=>?_)<;>try (exfalso;omega))|(refine is_eqlS rfl rfl (fun _=>?_) (fun _=>?_)<;>try contradiction)|refine is_buildO rfl rfl rfl ?_)
  all_goals try contradiction
  all_goals try (exfalso;omega)
  all_goals refine (end_keep (.inr rfl) rfl rfl rfl rfl).trans ?_
  all_goals rfl
 have hTl:T.length=2:=by rw [hT];rfl
 have hl2:(L++T).length=L.length+2:=by rw [lL,hTl]
 rw [hl2] at hadd
 have p1:((L++T)++[Blk.arr 7 0 [t.av],Blk.arr 5 0 [Ro.zero.av]])[L.length+1]?=some (.arr 3 0 [.agg [.ptr la (b+5) 0 0 0,.nils,.nilptr]]):=by
  rw [List.append_assoc,get_app,hT];rfl
 refine ⟨((L++T)++[Blk.arr 7 0 [t.av],Blk.arr 5 0 [Ro.zero.av]]).set (L.length+1) (Blk.arr 3 0 [.agg [.ptr la (b+5) 0 0 0,.nils,.ptr A.length (L.length+3) 0 0 0]]),L.length,0,[],[],[],[L.length+3],L.length+3,fun _=>.zero,s_keep rfl ?_,⟨⟨by simp [St.wr],⟨.nils,?_,.inl ⟨rfl,rfl⟩⟩,.nil,fun p hp=>by simp at hp,fun k hk=>?_,fun it hi=>by simp at hi,by simp,fun k hk=>?_,by omega,fun p hp=>by simp at hp,fun i hi=>?_,by simp,Nat.zero_le _⟩,by simp,fun i hi=>?_,fun k hk=>?_,fun p hp=>by simp at hp,fun hc=>absurd rfl hc,.inl ⟨ht,rfl,rfl⟩⟩⟩
 ·have e0:(⟨A,false,L⟩:St)=⟨A,false,L++[]⟩:=by rw [lN]
  rw [e0]
  rw [hT] at hadd p1 ⊢
  repeat' (first|refine is_boxA rfl (tr_wide _) (tr_force _) rfl rfl ?_|refine is_boxA rfl rfl rfl rfl rfl ?_|refine is_ldA rfl rfl rfl (tr_part _) ?_|refine ruS rfl ?_|refine isS rfl ?_|refine rk_seq ?_|refine is_fld (agg:=false) rfl rfl ?_|(refine is_gtr rfl rfl (fun _=>?_) (fun _=>?_)<;>try (exfalso;omega))|(refine is_neq rfl rfl (fun _=>?_) (fun _=>?_)<;>try (exfalso;omega))|refine is_buildO rfl rfl rfl ?_|refine is_callE rfl rfl (by first|rfl|(simp only [lE,lN,lC,weaks,tr_weak,forceL];first|done|rfl)) (hCk _) ?_|refine is_callE rfl rfl (by first|rfl|(simp only [lE,lN,lC,weaks,tr_weak,forceL];first|done|rfl)) (hNw _) ?_|refine is_callE rfl rfl (by first|rfl|(simp only [lE,lN,lC,weaks,tr_weak,forceL];first|done|rfl)) (hSt _) ?_|refine is_callE rfl rfl (by first|rfl|(simp only [lE,lN,lC,weaks,tr_weak,forceL];first|done|rfl)) (hadd) ?_)
  all_goals try (exfalso;omega)
  refine is_stn p1 rfl rfl rfl ?_ rfl ?_
  ·simp only [sealV,deep,if_pos (Nat.lt_succ_self _)]
  repeat' (first|refine ruS rfl ?_|refine isS rfl ?_|refine rkS rfl ?_)
  refine (end_keep (.inr rfl) rfl rfl rfl rfl).trans ?_
  rfl
 ·exact get_top (List.getElem?_set_self (by simp)) rfl
 ·simp only [List.mem_singleton] at hk
  subst hk
  refine get_top ?_ rfl
  rw [List.getElem?_set_ne (by omega),show L.length+3=(L++T).length+1 by rw [hl2],get_app];rfl
 ·simp only [List.mem_singleton] at hk
  omega
 ·rintro ⟨e1,e2,e3⟩
  have:=hbl e1.symm
  rcases hi with rfl|⟨c1,rfl⟩|q|⟨p,hp,rfl⟩
  ·omega
  ·exact c1 rfl
  ·simp only [List.mem_singleton] at q;omega
  ·simp at hp
 ·rw [List.getElem?_set_ne (by omega),List.append_assoc,List.getElem?_append_left hi]
 ·simp only [List.mem_singleton] at hk
  omega
end Go.Q15
namespace Go.Q15
open Go Go.QAbs
set_option maxRecDepth 100000
set_option maxHeartbeats 8000000
def hmAV (l:List Nat):List (AV × AV):=l.map fun (h:Nat)=>(AV.int .u64 h,AV.bool true)
def hnAV (h:Nat):AV:=.int .u64 h
namespace Tr
end Tr
structure KS (st:St) (lv mb mx ob ox wb ver:Nat) (out:List Nat):Prop where
 wr:st.wr lv
 hm:st.get lv mb=some (.arr 1 0 [.map lv mx])
 hmx:st.get lv mx=some (.map (hmAV out))
 ho:st.get lv ob=some (.arr 1 0 [.ref lv ox ver 0 out.length])
 hox:st.get lv ox=some (.arr 1 ver (out.map hnAV))
 hw:st.get lv wb=some (.arr 1 0 [.func (.func F_plan_KeptC1) [] [.ptr lv mb 0 0 0,.ptr lv ob 0 0 0,.ptr lv wb 0 0 0]])
 n1:mx≠ox
 n2:mx≠ob
 n3:ox≠ob
 n4:mb≠mx∧mb≠ox∧mb≠ob
 n5:wb≠mx∧wb≠ox∧wb≠ob
def putKS (st:St) (lv mx ob ox ver:Nat) (out:List Nat):St:=((st.upd lv mx (.map (hmAV out))).upd lv ox (.arr 1 ver (out.map hnAV))).upd lv ob (.arr 1 0 [.ref lv ox ver 0 out.length])
theorem KS.get {st:St} {lv mb mx ob ox wb ver:Nat} {out:List Nat} (h:KS st lv mb mx ob ox wb ver out) (v:Nat) (t:List Nat) (l' i':Nat) :
 (putKS st lv mx ob ox v t).get l' i'=if l'=lv∧i'=ob then some (.arr 1 0 [.ref lv ox v 0 t.length]) else if l'=lv∧i'=ox then some (.arr 1 v (t.map hnAV)) else if l'=lv∧i'=mx then some (.map (hmAV t)) else st.get l' i':=by
 have g1:∀ l' i',(st.upd lv mx (.map (hmAV t))).get l' i'=if l'=lv∧i'=mx then some (.map (hmAV t)) else st.get l' i':=fun l' i'=>St.get_upd h.hmx rfl
 have b1:(st.upd lv mx (.map (hmAV t))).get lv ox=some (.arr 1 ver (out.map hnAV)):=by rw [g1,if_neg (fun q=>h.n1 q.2.symm)];exact h.hox
 have g2:∀ l' i',((st.upd lv mx (.map (hmAV t))).upd lv ox (.arr 1 v (t.map hnAV))).get l' i'=if l'=lv∧i'=ox then some (.arr 1 v (t.map hnAV)) else (st.upd lv mx (.map (hmAV t))).get l' i':=fun l' i'=>St.get_upd b1 rfl
 have b2:((st.upd lv mx (.map (hmAV t))).upd lv ox (.arr 1 v (t.map hnAV))).get lv ob=some (.arr 1 0 [.ref lv ox ver 0 out.length]):=by rw [g2,if_neg (fun q=>h.n3 q.2.symm),g1,if_neg (fun q=>h.n2 q.2.symm)];exact h.ho
 rw [putKS,St.get_upd b2 rfl,g2,g1]
theorem KS.put {st:St} {lv mb mx ob ox wb ver:Nat} {out:List Nat} (h:KS st lv mb mx ob ox wb ver out) (v:Nat) (t:List Nat):KS (putKS st lv mx ob ox v t) lv mb mx ob ox wb v t:=by
 refine ⟨St.wr_upd (St.wr_upd (St.wr_upd h.wr h.wr) (St.wr_upd h.wr h.wr)) (St.wr_upd (St.wr_upd h.wr h.wr) (St.wr_upd h.wr h.wr)),?_,?_,?_,?_,?_,h.n1,h.n2,h.n3,h.n4,h.n5⟩
 ·rw [h.get,if_neg (fun q=>h.n4.2.2 q.2),if_neg (fun q=>h.n4.2.1 q.2),if_neg (fun q=>h.n4.1 q.2)];exact h.hm
 ·rw [h.get,if_neg (fun q=>h.n2 q.2),if_neg (fun q=>h.n1 q.2),if_pos ⟨rfl,rfl⟩]
 ·rw [h.get,if_pos ⟨rfl,rfl⟩]
 ·rw [h.get,if_neg (fun q=>h.n3 q.2),if_pos ⟨rfl,rfl⟩]
 ·rw [h.get,if_neg (fun q=>h.n5.2.2 q.2),if_neg (fun q=>h.n5.2.1 q.2),if_neg (fun q=>h.n5.1 q.2)];exact h.hw
theorem KS.same {st:St} {lv mb mx ob ox wb ver:Nat} {out:List Nat} (h:KS st lv mb mx ob ox wb ver out):putKS st lv mx ob ox ver out=st:=by
 rw [putKS,upd_same h.hmx,upd_same h.hox,upd_same h.ho]
theorem KS.push {st:St} {A:List (Bool × List Blk)} {ro:Bool} {L:List Blk} (hA:A=st.A++[(st.ro,st.L)]) {lv mb mx ob ox wb ver:Nat} {out:List Nat} (h:KS st lv mb mx ob ox wb ver out):KS ⟨A,ro,L⟩ lv mb mx ob ox wb ver out :=
 ⟨wr_push hA (St.get_le h.hm) h.wr,get_old hA h.hm,get_old hA h.hmx,get_old hA h.ho,get_old hA h.hox,get_old hA h.hw,h.n1,h.n2,h.n3,h.n4,h.n5⟩
end Go.Q15
namespace Go.Q15
open Go Go.QAbs
set_option maxRecDepth 100000
set_option maxHeartbeats 8000000
def wrV (t:Tr) (r:AR):AR × Ro × List Nat:=if t.old=0∧t.h=0∧t.text=[] then (r,.zero,[]) else t.wr r
theorem wrV_val {N:Nodes} {t:Tr} (hv:Val N t) (r:AR):wrV t r=t.wr r:=by
 unfold wrV
 cases hv with
 | kept h0=>rw [if_neg];simp [Tr.old,h0]
 | leaf h1=>rw [if_neg];rintro ⟨_,_,q⟩;simp only [Tr.text] at q;rw [q] at h1;simp at h1
 | inner=>rw [if_neg];simp [Tr.h]
theorem wrV_empty {t:Tr} (h:IsEmpty t) (r:AR):wrV t r=(r,.zero,[]):=by
 unfold wrV;rw [if_pos ⟨h.old,h.h,h.text⟩]
theorem Val.not_empty {N:Nodes} {t:Tr} (hv:Val N t):¬ IsEmpty t:=fun h=>by
 have:=hv.pos.2
 have:=h.bytes
 omega
theorem PI.run {r:AR} (ho:AROk r) (hg:GoodN r.nodes) {t:Tr} (hv:VE r.nodes t) (hb:t.bytes≤65536) (hn:nw t≤r.n) {its:List It} {rx:Nat} {ρ:Nat→Ro} (h:PI t its rx ρ) :
 ∃ ρ',RunOk its r ρ (wrV t r).1 ρ' (wrV t r).2.2∧ρ' rx=(wrV t r).2.1:=by
 rcases h with ⟨h1,rfl,h2⟩|⟨⟨M,hM⟩,R,h1,h2,h3⟩
 ·rw [wrV_empty h1];exact ⟨ρ,.nil,h2⟩
 ·rcases hv with hv|hv
  ·exact absurd hv hM.not_empty
  ·rw [wrV_val hv]
   rw [nw_val hv] at hn
   obtain ⟨ρ',a1,a2,_⟩:=exec_ok hg hv hb r ho hg (.refl _) hn rx its R ρ h1 h2 h3
   exact ⟨ρ',a1,a2⟩
theorem begin_c {A:List (Bool × List Blk)} {L:List Blk} {la b:Nat} {r:AR} (hA:HasR ⟨A,false,L⟩ la b r) (hN:r.n≤r.blk.length) (h16:r.states.length≤16384) (h6:r.n<65536) {t:Tr} (hv:VE r.nodes t) (hb:t.bytes≤65536) (hn:nw t≤r.n) :
 ∃ L2 tx ver cs its F keys rx ρ,S Tb F_rope_Begin [.ptr la (b+5) 0 0 0,t.av] ⟨A,false,L⟩=some (.tup [.ptr A.length (L.length+1) 0 0 0,.int .i64 0],⟨A,false,L2⟩)∧Begun A L L2 la b t tx ver cs its F keys rx ρ:=by
 rcases hv with hv|hv
 ·exact begin_empty hA hN h16 h6 hv
 ·rw [nw_val hv] at hn
  exact begin_val (N:=r.nodes) hA hN h16 h6 hv hb hn
theorem seal_wr {A:List (Bool × List Blk)} {L:List Blk} {ix ver n:Nat} {l:List Nat} {ro:Ro} {e:Int} (hg:L[ix]?=some (.arr 1 ver (l.map hnAV))) (hn:n=l.length) :
 sealV deep A.length ⟨A,false,L⟩ (.tup [ro.av,.ref A.length ix ver 0 n,.int .i64 e])=some (.tup [ro.av,.lit (l.map hnAV),.int .i64 e],⟨A,false,L.set ix .dead⟩):=by
 subst hn
 have h1:=seal_refO (n:=4) (A:=A) (s:=0) (m:=l.length) hg (by simp) (es':=l.map hnAV) (by
  rw [List.drop_zero,List.take_of_length_le (by simp)]
  exact ints_seal (k:=.u64) (fun n:Nat=>(n:Int)) 3 0 _ l)
 show (mapSt (sealV 5 A.length) _ _).bind tupK=_
 have h2:sealV 5 A.length ⟨A,false,L⟩ ro.av=some (ro.av,⟨A,false,L⟩):=rfl
 simp only [mapSt,h2,oS,h1]
 rfl
theorem RunOk.len {its:List It} {r r':AR} {ρ ρ':Nat→Ro} {hs:List Nat} (h:RunOk its r ρ r' ρ' hs):hs.length=its.length:=by
 induction h with
 | nil=>rfl
 | cons hn hx hk h ih=>simp [ih]
theorem RunOk.inv {it:It} {its:List It} {r r':AR} {ρ ρ':Nat→Ro} {l:List Nat} (h:RunOk (it::its) r ρ r' ρ' l) :
 ∃ hs,l=r.next::hs∧0<r.n∧NdOk (ndOf ρ it.c)∧KidsIn r.nodes (ndOf ρ it.c)∧RunOk its (r.add (ndOf ρ it.c)) (rset ρ it.rx r.next) r' ρ' hs:=by
 cases h with
 | cons hn hx hk h=>exact ⟨_,rfl,hn,hx,hk,h⟩
theorem RunOk.nil_inv {r r':AR} {ρ ρ':Nat→Ro} {l:List Nat} (h:RunOk [] r ρ r' ρ' l):l=[]∧r'=r∧ρ'=ρ:=by
 cases h;exact ⟨rfl,rfl,rfl⟩
theorem step_cur {st:St} {la b:Nat} (hl:la≤st.A.length) (rj r2:AR) {n:Nat} (hn:n=st.A.length+1) (L:List Blk) (ip tx ver len rx k:Nat) (ro:Ro) (j:Nat) :
 stepSt ⟨(arSt st la b rj).ps,false,L⟩ n ip tx ver la b len rx r2 k ro j=⟨(arSt st la b r2).ps,false,(L.set k (.arr 5 0 [ro.av])).set ip (.arr 3 0 [.agg [.ptr la (b+5) 0 0 0,.ref n tx ver (j+1) (len-j-1),.ptr n rx 0 0 0]])⟩:=by
 have e1:arSt ⟨(arSt st la b rj).ps,false,L⟩ la b r2=⟨(arSt st la b r2).ps,false,L⟩:=by
  rw [arSt_push rfl (by rw [arSt_A];exact hl),arSt_arSt]
 have e2:((arSt st la b r2).ps).length=n:=by rw [hn];simp [arSt_A]
 rw [stepSt,e1]
 unfold St.upd
 simp only [e2,if_true]
theorem PenS.frm {A:List (Bool × List Blk)} {L L':List Blk} {n ip tx ver la b:Nat} {cls:List AV} {its:List It} {F:List (Nat × Blk)} {keys:List Nat} {rx:Nat} {ρ:Nat→Ro} {j:Nat} (h:PenS ⟨A,false,L⟩ n ip tx ver la b cls its F keys rx ρ j) (hn:n=A.length)
 (hg:∀ i,i=ip∨(cls≠[]∧i=tx)∨i∈keys∨(∃ p∈F,i=p.1)→L'[i]?=L[i]?):PenS ⟨A,false,L'⟩ n ip tx ver la b cls its F keys rx ρ j:=by
 subst hn
 obtain ⟨td,h1,h2⟩:=h.pen
 have hget:∀ i,(i=ip∨(cls≠[]∧i=tx)∨i∈keys∨(∃ p∈F,i=p.1))→St.get ⟨A,false,L'⟩ A.length i=St.get ⟨A,false,L⟩ A.length i:=fun i hi=>by rw [St.get_cur,St.get_cur,hg i hi]
 refine ⟨by simp [St.wr],⟨td,by rw [hget _ (.inl rfl)];exact h1,?_⟩,h.cl,fun p hp=>by rw [hget _ (.inr (.inr (.inr ⟨p,hp,rfl⟩)))];exact h.fx p hp,fun k hk=>by rw [hget _ (.inr (.inr (.inl hk)))];exact h.rts k hk,h.key,h.rk,h.s1,h.s2,h.s3,h.ar,h.len,h.jl⟩
 rcases h2 with q|⟨hc,q1,q2⟩
 ·exact .inl q
 ·exact .inr ⟨hc,q1,by rw [hget _ (.inr (.inl ⟨hc,rfl⟩))];exact q2⟩
theorem end_wr {e:Env} {A:List (Bool × List Blk)} {st:St} {L:List Blk} {x:Ex} {c4 c5 c6 j4 ix w4 v4 ver n:Nat} {l:List Nat} {ro:Ro} {z:Int} (hA:A=st.A++[(st.ro,st.L)]) (hx:x=.norm∨x=.ret) (h4:lookO e c4=some (.ptr A.length j4 v4 0 0)) (hg4:L[j4]?=some (.arr w4 v4 [ro.av]))
 (h5:lookO e c5=some (.ref A.length ix ver 0 n)) (hg5:L[ix]?=some (.arr 1 ver (l.map hnAV))) (hn:n=l.length) (h6:lookO e c6=some (.int .i64 z)):endK false [.c c4 true 5,.s c5,.s c6] (x,e,⟨A,false,L⟩)=some (.tup [ro.av,.lit (l.map hnAV),.int .i64 z],st):=by
 refine end_of (v:=.tup [ro.av,.ref A.length ix ver 0 n,.int .i64 z]) hA hx ?_ (seal_wr hg5 hn) rfl
 have h1:resV ⟨A,false,L⟩ e (.c c4 true 5)=some ro.av:=by
  simp only [resV,lookO_some h4,loadP,St.get_cur,hg4,vis,loadB,if_true,List.getElem?_cons_zero,oS]
  rfl
 simp only [result,resL,h1,oS]
 simp only [resV,lookO_some h5,lookO_some h6,oS,Option.map_some,tupOf]
theorem Write_c {st:St} {la b:Nat} {r:AR} (hA:Has st la b r) (ho:AROk r) (hg:GoodN r.nodes) {t:Tr} (hv:VE r.nodes t) (hb:t.bytes≤65536) (hn:nw t≤r.n) :
 S Tb F_rope_Write [.ptr la (b+5) 0 0 0,t.av] st=some (.tup [(wrV t r).2.1.av,.lit ((wrV t r).2.2.map hnAV),.int .i64 0],arSt st la b (wrV t r).1):=by
 refine s_ofW rfl (fun A hA'=>?_)
 obtain ⟨LB,hLB⟩:∃ LB:List Blk,LB=[.arr 7 0 [t.av],.arr 5 0 [Ro.zero.av],.arr 1 0 []]:=⟨_,rfl⟩
 have hle:=hA.le
 have hla:la<A.length:=by rw [hA'];simp;omega
 have h3:LB.length=3:=by rw [hLB];rfl
 obtain ⟨L2,tx,ver,cs,its,F,keys,rx,ρ,hS,hB⟩:=begin_c (L:=LB) (hA.push hA').r ho.nb ho.n16 (by have:=ho.nn;have:=ho.n16;omega) hv hb hn
 obtain ⟨ρ',hrun,hro⟩:=hB.pi.run ho hg hv hb hn
 generalize (wrV t r).1=r' at *
 generalize (wrV t r).2.2=hs at *
 generalize (wrV t r).2.1=ro at *
 have hcl:=hB.ps.cl.len
 have hk5:∀ k∈keys,5≤k:=fun k hk=>by have:=hB.klo k hk;omega
 have g1:L2[1]?=some (.arr 5 0 [Ro.zero.av]):=by rw [hB.old 1 (by omega),hLB];rfl
 have g2:L2[2]?=some (.arr 1 0 (([]:List Nat).map hnAV)):=by rw [hB.old 2 (by omega),hLB];rfl
 have hps:=hB.ps
 rw [h3] at hS hps
 rw [hLB] at hS
 repeat' (first|refine ruS rfl ?_|refine isS rfl ?_|refine rk_seq ?_|(refine is_neq rfl rfl (fun _=>?_) (fun _=>?_)<;>try (exfalso;omega))|refine is_box rfl rfl rfl ?_|refine is_onil rfl ?_|refine is_ldc rfl rfl rfl (tr_part _) ?_|refine is_boxG rfl (tr_wide _) (tr_force _) ?_|refine is_callE rfl rfl (by first|rfl|(simp only [lE,lN,lC,weaks,tr_weak,forceL];first|done|rfl)) (hS) ?_)
 all_goals try contradiction
 have hAn:A.length=st.A.length+1:=by rw [hA'];simp
 have hhl:=hrun.len
 refine ru_loopP (α:=Bool × Nat × AR × (Nat→Ro) × List Blk) (fun p=>match p.1 with
  | true=>[(4,.ptr A.length 1 0 0 0),(5,.ref A.length 2 p.2.1 0 p.2.1),(6,.int .i64 0),(7,.ptr A.length 4 0 0 0),(18,.bool false)]
  | false=>[(4,.ptr A.length 1 0 0 0),(5,.ref A.length 2 p.2.1 0 p.2.1),(7,.ptr A.length 4 0 0 0)])
  (fun p=>⟨(arSt st la b p.2.2.1).ps,false,p.2.2.2.2⟩)
  (fun p=>PenS ⟨(arSt st la b p.2.2.1).ps,false,p.2.2.2.2⟩ A.length 4 tx ver la b cs its F keys rx p.2.2.2.1 p.2.1∧AROk p.2.2.1∧RunOk (its.drop p.2.1) p.2.2.1 p.2.2.2.1 r' ρ' (hs.drop p.2.1)∧p.2.1≤its.length∧p.2.2.2.2[1]?=some (.arr 5 0 [Ro.zero.av])∧p.2.2.2.2[2]?=some (.arr 1 p.2.1 ((hs.take p.2.1).map hnAV)))
  (fun p=>its.length-p.2.1) (true,0,r,ρ,L2) rfl ?_ ?_ ?_
 ·simp only [hA.same,← hA']
 ·simp only [hA.same,← hA']
  exact ⟨hps,ho,hrun,Nat.zero_le _,g1,g2⟩
 rintro ⟨fst,j,rj,ρj,Lj⟩ ⟨q1,q2,q3,q4,q5,q6⟩
 simp only at q1 q2 q3 q4 q5 q6
 have hHj:Has ⟨(arSt st la b rj).ps,false,Lj⟩ la b rj:=(hA.put rj).push rfl
 obtain ⟨td,t1,t2⟩:=q1.pen
 have hAl:A.length=(arSt st la b rj).ps.length:=by rw [hAn];simp [arSt_A]
 rcases Nat.lt_or_ge j its.length with hlt|hge
 ·obtain ⟨it,hit⟩:∃ it,its[j]?=some it:=⟨its[j]'hlt,by simp [hlt]⟩
  have hd:its.drop j=it::its.drop (j+1):=by
   rw [List.drop_eq_getElem_cons hlt]
   rw [List.getElem?_eq_getElem hlt] at hit
   rw [Option.some.inj hit]
  rw [hd] at q3
  obtain ⟨hs2,e1,hn1,hx1,hk1,hr1⟩:=q3.inv
  have hdj:hs[j]?=some rj.next:=by
   have:=List.getElem?_drop (xs:=hs) (i:=j) (j:=0)
   rw [e1] at this
   simpa using this.symm
  have hd2:hs.drop (j+1)=hs2:=by
   rw [← List.drop_drop,e1];rfl
  obtain ⟨p1,p2,p3⟩:=q1.step hHj q2 hn1 hit hx1 hk1
  rw [step_cur hle rj _ hAn] at p1 p2
  have hjc:j<cs.length:=by rw [hcl];exact hlt
  have hne:cs≠[]:=fun q=>by rw [q] at hjc;simp at hjc
  rcases t2 with ⟨w,_⟩|⟨_,rfl,t3⟩
  ·exact absurd w hne
  obtain ⟨k1,_⟩:=q1.key it (List.mem_of_getElem? hit)
  have hk5':=hk5 _ k1
  have hl4:Lj[4]?=some (.arr 3 0 [.agg [.ptr la (b+5) 0 0 0,.ref A.length tx ver j (cs.length-j),.ptr A.length rx 0 0 0]]):=by
   rw [hAl] at t1
   rw [St.get_cur] at t1
   rw [hAl]
   exact (vis_noH t1).1
  obtain ⟨r2,hr2⟩:∃ r2,r2=rj.add (ndOf ρj it.c):=⟨_,rfl⟩
  rw [← hr2] at p1 p2 hr1
  have ho2:AROk r2:=by rw [hr2];exact q2.add hn1 _
  have hAl2:A.length=(arSt st la b r2).ps.length:=by rw [hAn];simp [arSt_A]
  obtain ⟨L3,hL3⟩:∃ L3,L3=(Lj.set it.rx (.arr 5 0 [((ρj it.rx).wr rj.next).av])).set 4 (.arr 3 0 [.agg [.ptr la (b+5) 0 0 0,.ref A.length tx ver (j+1) (cs.length-j-1),.ptr A.length rx 0 0 0]]):=⟨_,rfl⟩
  rw [← hL3] at p1 p2
  have h31:L3[1]?=some (.arr 5 0 [Ro.zero.av]):=by rw [hL3,List.getElem?_set_ne (by omega),List.getElem?_set_ne (by omega)];exact q5
  have h32:L3[2]?=some (.arr 1 j ((hs.take j).map hnAV)):=by rw [hL3,List.getElem?_set_ne (by omega),List.getElem?_set_ne (by omega)];exact q6
  have hj2:j=((hs.take j).map hnAV).length:=by simp;omega
  have hj3:∀ x:AV,((hs.take j).map hnAV).length+[x].length<4294967296:=fun x=>by have:=q1.len;simp;omega
  have hinv:∀ L4,L4=L3.set 2 (.arr 1 (j+1) ((hs.take j).map hnAV++[.int .u64 rj.next]))→PenS ⟨(arSt st la b r2).ps,false,L4⟩ A.length 4 tx ver la b cs its F keys rx (rset ρj it.rx rj.next) (j+1)∧AROk r2∧RunOk (its.drop (j+1)) r2 (rset ρj it.rx rj.next) r' ρ' (hs.drop (j+1))∧j+1≤its.length∧L4[1]?=some (.arr 5 0 [Ro.zero.av])∧L4[2]?=some (.arr 1 (j+1) ((hs.take (j+1)).map hnAV)):=by
   rintro L4 rfl
   refine ⟨?_,ho2,by rw [hd2];exact hr1,hlt,by rw [List.getElem?_set_ne (by omega)];exact h31,?_⟩
   ·refine p2.frm hAl2 (fun i hi=>List.getElem?_set_ne ?_)
    rcases hi with rfl|⟨hc,rfl⟩|q|⟨p,hp,rfl⟩
    ·omega
    ·have:=hB.tlo hc;omega
    ·have:=hk5 i q;omega
    ·have:=hB.flo p hp;omega
   ·rw [List.getElem?_set_self (List.getElem?_eq_some_iff.1 h32).1,take_succ_get hdj,List.map_append];rfl
  obtain ⟨A2,hA2⟩:∃ A2,A2=(arSt st la b r2).ps:=⟨_,rfl⟩
  obtain ⟨A1,hA1⟩:∃ A1,A1=(arSt st la b rj).ps:=⟨_,rfl⟩
  rw [← hA1] at p1 hAl ⊢
  rw [← hA2] at p1 hAl2
  have hA12:A1.length=A2.length:=hAl.symm.trans hAl2
  rw [hAl] at hl4 p1 hinv ⊢
  cases fst
  all_goals simp only
  all_goals repeat' (first|refine is_callE rfl rfl rfl p1 ?_|refine ruS rfl ?_|refine isS rfl ?_|refine rk_seq ?_|refine is_lenR rfl ?_|(refine is_gtr rfl rfl (fun _=>?_) (fun _=>?_)<;>try (exfalso;omega))|(refine is_neq rfl rfl (fun _=>?_) (fun _=>?_)<;>try (exfalso;omega))|refine is_bslFO rfl rfl rfl rfl ?_|refine is_ldc rfl hl4 rfl rfl ?_)
  all_goals try contradiction
  all_goals try (exfalso;omega)
  all_goals rw [hA12]
  all_goals repeat' (first|refine is_appG rfl rfl h32 hj2 rfl rfl (hj3 _) (by decide) ?_|refine isS rfl ?_|refine rkS rfl ?_)
  all_goals rw [hA12,hA2] at hinv
  all_goals rw [hA2]
  all_goals exact ⟨(false,j+1,r2,rset ρj it.rx rj.next,_),⟨rfl,rfl⟩,hinv _ rfl,by simp only;omega⟩
 ·obtain rfl:j=its.length:=by omega
  rw [List.drop_length,← hhl,List.drop_length] at q3
  obtain ⟨_,rfl,rfl⟩:=q3.nil_inv
  rw [← hhl,List.take_length] at q6
  have hRt:=Root_c q1 hcl.symm
  rw [hro] at hRt
  obtain ⟨A1,hA1⟩:∃ A1,A1=(arSt st la b r').ps:=⟨_,rfl⟩
  rw [← hA1] at hRt hAl ⊢
  have hl4:∃ w,Lj[4]?=some (.arr 3 0 [.agg [.ptr la (b+5) 0 0 0,td,w]])∧(td=.nils∨∃ v,td=.ref A.length tx v its.length 0):=by
   rw [hAl,hA1,St.get_cur] at t1
   refine ⟨_,(vis_noH t1).1,?_⟩
   rcases t2 with ⟨_,w⟩|⟨_,w,_⟩
   ·exact .inl w
   ·refine .inr ⟨ver,?_⟩
    rw [w,hcl,Nat.sub_self]
  obtain ⟨w4,hl4,htd⟩:=hl4
  rw [← hhl] at *
  have hl1:=(List.getElem?_eq_some_iff.1 q5).1
  rw [hAl] at hRt htd ⊢
  rcases htd with rfl|⟨v,rfl⟩
  all_goals cases fst
  all_goals simp only
  all_goals repeat' (first|refine is_callE rfl rfl rfl hRt ?_|refine ruS rfl ?_|refine isS rfl ?_|refine rkS rfl ?_|refine is_lenR rfl ?_|refine is_lenN rfl ?_|(refine is_gtr rfl rfl (fun _=>?_) (fun _=>?_)<;>try (exfalso;omega))|refine is_ldc rfl hl4 rfl rfl ?_)
  all_goals try (exfalso;omega)
  all_goals refine is_stn q5 rfl rfl rfl rfl rfl ?_
  all_goals repeat' (first|refine ruS rfl ?_|refine isS rfl ?_|refine rk_seq ?_|refine is_ldc rfl (List.getElem?_set_self hl1) rfl rfl ?_)
  all_goals refine is_stn (List.getElem?_set_self hl1) rfl rfl rfl rfl rfl ?_
  all_goals rw [List.set_set]
  all_goals repeat' (first|refine isS rfl ?_|refine rkS rfl ?_|refine ru_ret ?_)
  all_goals exact end_wr (ro:=ro) hA1 (.inr rfl) rfl (List.getElem?_set_self hl1) rfl ((List.getElem?_set_ne (by omega)).trans q6) (by simp) rfl
end Go.Q15
namespace Go.QAbs
end Go.QAbs
namespace Go.QAbs
end Go.QAbs
namespace Go.QAbs
end Go.QAbs
namespace Go.QAbs
end Go.QAbs
namespace Go.QAbs
end Go.QAbs
namespace Go.Q15
open Go Go.QAbs
set_option maxRecDepth 100000
set_option maxHeartbeats 8000000
def ndAt (N:Nodes) (o:Nat):Nd:=(lk N o).getD ⟨0,[],none⟩
theorem ndAt_of {N:Nodes} {o:Nat} {x:Nd} (h:lk N o=some x):ndAt N o=x:=by unfold ndAt;rw [h];rfl
def preH (N:Nodes):Nat→Nat→List Nat
 | 0,o=>[o]
 | n+1,o=>o::(ndAt N o).ks.flatMap fun k=>preH N n k.at_
theorem get_more {s:St} {l i:Nat} {b:Blk} (h:s.get l i=some b) (more:List (Bool × List Blk)) (ro:Bool) (L:List Blk):St.get ⟨s.ps++more,ro,L⟩ l i=some b:=by
 have hl:=St.get_le h
 have h1:=get_old (A:=s.ps) rfl (ro:=ro) (L:=L) h
 unfold St.get at h1 ⊢
 have e1:l≠s.ps.length:=by simp;omega
 have e2:l≠(s.ps++more).length:=by simp;omega
 simp only [if_neg e1,if_neg e2] at h1 ⊢
 rw [List.getElem?_append_left (by simp;omega)]
 exact h1
theorem Rd.more {s:St} {lv ix:Nat} {N:Nodes} (h:Rd s lv ix N) (more:List (Bool × List Blk)) (ro:Bool) (L:List Blk):Rd ⟨s.ps++more,ro,L⟩ lv ix N:=by
 obtain ⟨a0,a1,im,a3,a4,a5,h1,h2⟩:=h
 exact ⟨a0,a1,im,a3,a4,a5,get_more h1 _ _ _,get_more h2 _ _ _⟩
structure NW (σ:List Nat→St) (lv:Nat) (caps:List AV) (la b:Nat) (more:List (Bool × List Blk)) (ro:Bool) (L:List Blk) (l1 i1 l2 i2 l3 i3:Nat):Prop where
 a:∀ v,St.get ⟨(σ v).ps++more,ro,L⟩ l1 i1=some (.arr 1 0 [.ptr la (b+5) 0 0 0])
 y:∀ v,St.get ⟨(σ v).ps++more,ro,L⟩ l2 i2=some (.arr 1 0 [.func (.yield lv) [] caps])
 w:∀ v,St.get ⟨(σ v).ps++more,ro,L⟩ l3 i3=some (.arr 1 0 [.func (.func F_rope_nodesC1C1) [] [.ptr l1 i1 0 0 0,.ptr l2 i2 0 0 0,.ptr l3 i3 0 0 0]])
theorem NW.push {σ:List Nat→St} {lv:Nat} {caps:List AV} {la b:Nat} {more:List (Bool × List Blk)} {ro:Bool} {L:List Blk} {l1 i1 l2 i2 l3 i3:Nat} (h:NW σ lv caps la b more ro L l1 i1 l2 i2 l3 i3) (L':List Blk):NW σ lv caps la b (more++[(ro,L)]) false L' l1 i1 l2 i2 l3 i3 :=
 ⟨fun v=>get_old (st:=⟨(σ v).ps++more,ro,L⟩) (by rw [← List.append_assoc]) (h.a v),fun v=>get_old (st:=⟨(σ v).ps++more,ro,L⟩) (by rw [← List.append_assoc]) (h.y v),fun v=>get_old (st:=⟨(σ v).ps++more,ro,L⟩) (by rw [← List.append_assoc]) (h.w v)⟩
end Go.Q15
namespace Go.Q15
open Go Go.QAbs
set_option maxRecDepth 100000
set_option maxHeartbeats 8000000
def RtOk (N:Nodes) (r:Ro):Prop:=r=.zero∨(r.at_≠0∧∃ x,lk N r.at_=some x∧NdOk x∧x.h=r.h∧x.mea=r.m)
def nodesR (N:Nodes) (r:Ro):List Nat:=if r.at_=0 then [] else preH N r.h r.at_
theorem RtOk.h13 {N:Nodes} (hN:GoodN N) {r:Ro} (hr:RtOk N r):r.h≤13:=by
 rcases hr with rfl|⟨h0,x,h1,h2,h3,h4⟩
 ·decide
 ·have hv:Val N (.keep r):=.kept h0 h1 h2 h3 h4 rfl
  have hb:(Tr.keep r).bytes=r.m.b:=by simp [Tr.keep,Tr.bytes,Tr.bytesO]
  have:=h2.mea_pos
  exact hv.height hN (by rw [hb,← h4];omega)
def keepT (r:Ro):Tr:=if r.at_=0 then .zero else .keep r
theorem Keep_rt {st:St} {lv ix:Nat} {N:Nodes} (hr:Rd st lv ix N) {r:Ro} (h:RtOk N r):S Tb F_plan_Keep [.ptr lv ix 0 0 0,r.av] st=some (.tup [(keepT r).av,.int .i64 0],st):=by
 unfold keepT
 rcases h with rfl|⟨h0,x,h1,h2,h3,h4⟩
 ·rw [if_pos (by rfl)];exact Keep_zero
 ·rw [if_neg h0];exact Keep_c hr h1 h2 h0 h3 h4
end Go.Q15
namespace Go.QAbs
theorem get_moreG {s:St} {l i:Nat} {b:Blk} (h:s.get l i=some b) (more:List (Bool × List Blk)) (ro:Bool) (L:List Blk):St.get ⟨s.ps++more,ro,L⟩ l i=some b:=by
 have hl:=St.get_le h
 have h1:=get_old (A:=s.ps) rfl (ro:=ro) (L:=L) h
 unfold St.get at h1 ⊢
 have e1:l≠s.ps.length:=by simp;omega
 have e2:l≠(s.ps++more).length:=by simp;omega
 simp only [if_neg e1,if_neg e2] at h1 ⊢
 rw [List.getElem?_append_left (by simp;omega)]
 exact h1
theorem wr_more {s:St} {lv:Nat} (hl:lv≤s.A.length) (h:s.wr lv) (more:List (Bool × List Blk)) (ro:Bool) (L:List Blk):St.wr ⟨s.ps++more,ro,L⟩ lv:=by
 have h1:=wr_push (A:=s.ps) rfl hl h (ro:=ro) (L:=L)
 unfold St.wr at h1 ⊢
 have e1:lv≠s.ps.length:=by simp;omega
 have e2:lv≠(s.ps++more).length:=by simp;omega
 simp only [if_neg e1,if_neg e2] at h1 ⊢
 rw [List.getElem?_append_left (by simp;omega)]
 exact h1
theorem Cl.more {s:St} {ks:List (Nat × Nat)} {bs:List Blk} (h:Cl s ks bs) (more:List (Bool × List Blk)) (ro:Bool) (L:List Blk):Cl ⟨s.ps++more,ro,L⟩ ks bs :=
 ⟨h.nd,h.len,fun k hk=>wr_more (h.le k hk) (h.wr k hk) _ _ _,fun j lv ix b h1 h2=>get_moreG (h.get j lv ix b h1 h2) _ _ _⟩
end Go.QAbs
namespace Go.Q15
open Go Go.QAbs
set_option maxRecDepth 100000
set_option maxHeartbeats 8000000
def leavesOf (N:Nodes) (v:List Nat):List (List UInt8):=v.filterMap fun h=>if (ndAt N h).h=0 then some (ndAt N h).text else none
theorem strs_wide (l:List (List UInt8)):sameW 1 (l.map AV.str)=true:=by
 induction l with
 | nil=>rfl
 | cons b s ih=>rw [List.map_cons,sameW,List.all_cons];exact Bool.and_eq_true_iff.2 ⟨rfl,ih⟩
end Go.Q15
namespace Go.Q15
open Go Go.QAbs
set_option maxRecDepth 100000
set_option maxHeartbeats 8000000
end Go.Q15
namespace Go.Q15
open Go Go.QAbs
set_option maxRecDepth 100000
set_option maxHeartbeats 8000000
def liveP (r:AR) (o:Nat):Prop:=handleP o∧r.states[o % 65536]?=some 1∧r.gens[o % 65536]?=some ((o / 65536:Nat):Int)
instance (r:AR) (o:Nat):Decidable (liveP r o):=by unfold liveP;exact inferInstance
theorem AROk.live {r:AR} (h:AROk r) {o:Nat} {x:Nd} (hx:lk r.nodes o=some x):liveP r o∧o<18446744073709551616:=by
 obtain ⟨s,g,k1,k2,k3,k4⟩:=h.key o x hx
 obtain ⟨h1,h2⟩:=h.hnd hx
 have:=h.n16
 have hm:o % 65536=s:=by omega
 have hd:o / 65536=g:=by omega
 unfold liveP
 rw [hm,hd]
 refine ⟨⟨h1,k3,k4⟩,?_⟩
 unfold handleP at h1
 omega
end Go.Q15
namespace Go.Q15
open Go Go.QAbs
set_option maxRecDepth 100000
set_option maxHeartbeats 8000000
theorem cntL_le8:∀ l:List Tr,(∀ t∈l,4*(t.cnt:Int)+4≤t.bytes)→4*(Tr.cntL l:Int)+4*l.length≤Tr.bytesL l
 | [],_=>by simp [Tr.cntL,Tr.bytesL]
 | t::l,h=>by
  have h1:=h t (by simp)
  have h2:=cntL_le8 l fun u hu=>h u (by simp [hu])
  simp only [Tr.cntL,Tr.bytesL,List.length_cons]
  omega
theorem cnt_le {N:Nodes} (hN:GoodN N) {t:Tr} (hv:Val N t):(t.cnt:Int)≤t.bytes∧(Big t→4*(t.cnt:Int)+4≤t.bytes):=by
 have hsz:=hv.size hN
 have hps:=hv.pos.2
 induction hv with
 | @kept o h m k x h0 hx hok hh hm hk =>
  have ec:(Tr.mk o h m [] k).cnt=0:=by rw [Tr.cnt,Tr.cntO_getD,hk,if_neg h0];rfl
  have hl:h≤16:=by
   rcases hok with q|⟨n,ks,q⟩
   ·rw [← hh,q.h];omega
   ·have:=q.n15;have e:=q.eq;subst e;simp only at hh;omega
  rw [ec]
  refine ⟨by omega,fun q=>?_⟩
  have h1:=hsz q
  have h2:=(leastB_le hl).1
  simp only [Tr.h] at h1
  omega
 | @leaf s k h1 h2 hk =>
  have ec:(Tr.mk 0 0 .zero s k).cnt=1:=by rw [Tr.cnt,Tr.cntO_getD,hk];rfl
  rw [ec]
  refine ⟨by omega,fun q=>?_⟩
  have:=q rfl
  omega
 | @inner h l hh h2 h4 hl hb hv ih =>
  have ec:(Tr.mk 0 (h+1) .zero [] (some l)).cnt=Tr.cntL l+1:=by rw [Tr.cnt,Tr.cntO];simp;omega
  have eb:(Tr.mk 0 (h+1) .zero [] (some l)).bytes=Tr.bytesL l:=by rw [Tr.bytes,Tr.bytesO];simp [Mea.zero]
  have:=cntL_le8 l fun u hu=>(ih u hu ((hv u hu).size hN) (hv u hu).pos.2).2 (fun q=>hb u hu (by rw [← hl u hu];exact q))
  rw [ec,eb]
  exact ⟨by omega,fun _=>by omega⟩
theorem nw_le {N:Nodes} (hN:GoodN N) {t:Tr} (hv:VE N t):(nw t:Int)≤t.bytes:=by
 rcases hv with he|hv
 ·unfold nw;rw [if_pos ⟨he.old,he.h,he.text⟩,he.bytes];decide
 ·rw [nw_val hv];exact (cnt_le hN hv).1
theorem begin_full {A:List (Bool × List Blk)} {L:List Blk} {la b:Nat} {r:AR} (hA:HasR ⟨A,false,L⟩ la b r) (hN:r.n≤r.blk.length) (h16:r.states.length≤16384) (h6:r.n<65536) {t:Tr} (hg:GoodN r.nodes) (hv:VE r.nodes t) (hb:t.bytes≤65536) (hn:r.n<nw t) :
 S Tb F_rope_Begin [.ptr la (b+5) 0 0 0,t.av] ⟨A,false,L⟩=some (.tup [.nilptr,.int .i64 6],⟨A,false,L++[.arr 7 0 [t.av]]⟩):=by
 have hv:Val r.nodes t:=by
  rcases hv with he|hv
  ·unfold nw at hn;rw [if_pos ⟨he.old,he.h,he.text⟩] at hn;omega
  ·exact hv
 rw [nw_val hv] at hn
 have hcb:=(cnt_le hg hv).1
 have hCk:=fun T=>Check_val (hA.app T).rd hv hb
 have hNw:=fun st=>New_c hv (by omega) st
 have hSt:=fun T=>Stats_c (hA.app T) hN h16 h6
 unfold AR.statsAV at hSt
 refine s_keep rfl ?_
 have e0:(⟨A,false,L⟩:St)=⟨A,false,L++[]⟩:=by rw [lN]
 rw [e0]
 repeat' (first|refine is_boxA rfl (tr_wide _) (tr_force _) rfl rfl ?_|refine is_ldA rfl rfl rfl (tr_part _) ?_|refine ruS rfl ?_|refine isS rfl ?_|refine rkS rfl ?_|refine is_fld (agg:=false) rfl rfl ?_|(refine is_gtr rfl rfl (fun _=>?_) (fun _=>?_)<;>try (exfalso;omega))|(refine is_neq rfl rfl (fun _=>?_) (fun _=>?_)<;>try (exfalso;omega))|refine is_callE rfl rfl (by first|rfl|(simp only [lE,lN,lC,weaks,tr_weak,forceL];first|done|rfl)) (hCk _) ?_|refine is_callE rfl rfl (by first|rfl|(simp only [lE,lN,lC,weaks,tr_weak,forceL];first|done|rfl)) (hNw _) ?_|refine is_callE rfl rfl (by first|rfl|(simp only [lE,lN,lC,weaks,tr_weak,forceL];first|done|rfl)) (hSt _) ?_)
 all_goals try (exfalso;omega)
 refine (end_keep (.inr rfl) rfl rfl rfl rfl).trans ?_
 rfl
theorem Write_full {st:St} {la b:Nat} {r:AR} (hA:Has st la b r) (ho:AROk r) (hg:GoodN r.nodes) {t:Tr} (hv:VE r.nodes t) (hb:t.bytes≤65536) (hn:r.n<nw t) :
 S Tb F_rope_Write [.ptr la (b+5) 0 0 0,t.av] st=some (.tup [Ro.zero.av,.lit [],.int .i64 6],st):=by
 refine s_ofW rfl (fun A hA'=>?_)
 have hS:=fun L=>begin_full (L:=L) (hA.push hA').r ho.nb ho.n16 (by have:=ho.nn;have:=ho.n16;omega) hg hv hb hn
 repeat' (first|refine ruS rfl ?_|refine isS rfl ?_|refine rkS rfl ?_|(refine is_neq rfl rfl (fun _=>?_) (fun _=>?_)<;>try (exfalso;omega))|refine is_buildO rfl rfl rfl ?_|refine is_box rfl rfl rfl ?_|refine is_stb rfl rfl rfl rfl rfl rfl ?_|refine is_onil rfl ?_|refine is_ldc rfl rfl rfl (tr_part _) ?_|refine is_boxG rfl (tr_wide _) (tr_force _) ?_|refine is_callE rfl rfl (by first|rfl|(simp only [lE,lN,lC,weaks,tr_weak,forceL];first|done|rfl)) (hS _) ?_)
 all_goals try contradiction
 all_goals try (exfalso;omega)
 exact end_wr (ro:=.zero) (l:=[]) hA' (.inr rfl) rfl rfl rfl rfl rfl rfl
end Go.Q15
namespace Go.Q15
open Go Go.QAbs
set_option maxRecDepth 100000
set_option maxHeartbeats 8000000
theorem flat_get {x:List UInt8} {l:List (List UInt8)} {i:Nat} (h:l[i]?=some x):(l.take (i+1)).flatten=(l.take i).flatten++x:=by
 rw [List.take_add_one,h];simp
theorem flat_le (l:List (List UInt8)) (i:Nat):(l.take i).flatten.length≤l.flatten.length:=by
 have:=congrArg List.length (congrArg List.flatten (List.take_append_drop i l))
 rw [List.flatten_append,lL] at this
 omega
end Go.Q15
namespace Go.Q15
open Go Go.QAbs
set_option maxRecDepth 100000
set_option maxHeartbeats 8000000
theorem PI.ok {r:AR} (ho:AROk r) (hg:GoodN r.nodes) {t:Tr} (hv:VE r.nodes t) (hb:t.bytes≤65536) (hn:nw t≤r.n) {its:List It} {rx:Nat} {ρ:Nat→Ro} (h:PI t its rx ρ) :
 WrB r (nw t) (wrV t r).1 (wrV t r).2.2∧(IsEmpty t∧(wrV t r).2.1=.zero∨Val r.nodes t∧WrOk r.nodes t (wrV t r).1 (wrV t r).2.1):=by
 rcases h with ⟨h1,_,h2⟩|⟨⟨M,hM⟩,R,h1,h2,h3⟩
 ·have e:nw t=0:=by unfold nw;rw [if_pos ⟨h1.old,h1.h,h1.text⟩]
  rw [wrV_empty h1,e];exact ⟨.refl ho hg,.inl ⟨h1,rfl⟩⟩
 ·rcases hv with hv|hv
  ·exact absurd hv hM.not_empty
  ·rw [wrV_val hv,nw_val hv]
   rw [nw_val hv] at hn
   obtain ⟨ρ',a1,a2,a3,a4,a5⟩:=exec_ok hg hv hb r ho hg (.refl _) hn rx its R ρ h1 h2 h3
   exact ⟨a4,.inr ⟨hv,a5⟩⟩
theorem wr_ok {st:St} {la b:Nat} {r:AR} (hA:Has st la b r) (ho:AROk r) (hg:GoodN r.nodes) {t:Tr} (hv:VE r.nodes t) (hb:t.bytes≤65536) (hn:nw t≤r.n) :
 WrB r (nw t) (wrV t r).1 (wrV t r).2.2∧(IsEmpty t∧(wrV t r).2.1=.zero∨Val r.nodes t∧WrOk r.nodes t (wrV t r).1 (wrV t r).2.1):=by
 obtain ⟨L2,tx,ver,cs,its,F,keys,rx,ρ,hS,hB⟩:=begin_c (L:=[]) (hA.push rfl).r ho.nb ho.n16 (by have:=ho.nn;have:=ho.n16;omega) hv hb hn
 exact hB.pi.ok ho hg hv hb hn
def textR (N:Nodes) (r:Ro):List UInt8:=if r.at_=0 then [] else textH N r.h r.at_
structure Rt (N:Nodes) (r:Ro) (s:List UInt8):Prop where
 rt:RtOk N r
 tx:textR N r=s
theorem RtOk.ext {N M:Nodes} (hE:Ext N M) {r:Ro} (h:RtOk N r):RtOk M r:=h.imp id fun ⟨h0,x,h1,h2⟩=>⟨h0,x,hE _ _ h1,h2⟩
theorem Rt.ext {N M:Nodes} (hN:GoodN N) (hE:Ext N M) {r:Ro} {s:List UInt8} (h:Rt N r s):Rt M r s:=by
 refine ⟨h.rt.ext hE,?_⟩
 rw [← h.tx]
 unfold textR
 split
 ·rfl
 ·rename_i q
  rcases h.rt with e|⟨_,x,h1,_,h2,_⟩
  ·rw [e] at q;exact absurd rfl q
  ·exact textH_ext hN hE _ _ x h1 h2
theorem Rt.zero (N:Nodes):Rt N .zero []:=⟨.inl rfl,rfl⟩
theorem Rt.m {N:Nodes} (hN:GoodN N) {r:Ro} {s:List UInt8} (h:Rt N r s):r.m=meaT s:=by
 obtain ⟨h,rfl⟩:=h
 unfold textR
 rcases h with rfl|⟨h0,x,h1,h2,h3,h4⟩
 ·rfl
 ·rw [if_neg h0,textH_mea hN _ _ x h1 h3,h4]
theorem Rt.wr {r:AR} (ho:AROk r) {N:Nodes} {t:Tr} {ro:Ro} (h:WrOk N t r ro):Rt r.nodes ro (t.txt N):=by
 obtain ⟨y,h1,h2,h3,h4⟩:=h.live
 have h0:=(ho.hnd h1).2
 refine ⟨.inr ⟨h0,y,h1,h2,by rw [h3,h.rh],by rw [h4,h.rm]⟩,?_⟩
 unfold textR
 rw [if_neg h0,h.rh,h.txt]
theorem Rt.keep {N:Nodes} {r:Ro} {s:List UInt8} (h:Rt N r s):VE N (keepT r)∧(keepT r).txt N=s:=by
 obtain ⟨h,rfl⟩:=h
 unfold textR keepT
 rcases h with rfl|⟨h0,x,h1,h2,h3,h4⟩
 ·rw [if_pos (by rfl),if_pos (by rfl)];exact ⟨.inl zero_empty,rfl⟩
 ·rw [if_neg h0,if_neg h0]
  exact ⟨.inr (.kept h0 h1 h2 h3 h4 rfl),by rw [Tr.keep,Tr.txt,if_neg h0];simp [Tr.txtO]⟩
theorem Rt.b {N:Nodes} (hN:GoodN N) {r:Ro} {s:List UInt8} (h:Rt N r s):(keepT r).bytes=s.length∧r.m.b=s.length:=by
 have h1:=h.keep
 have h2:=h1.1.len hN
 rw [h1.2] at h2
 exact ⟨h2.symm,by rw [h.m hN];rfl⟩
theorem wr_rt {st:St} {la b:Nat} {r:AR} (hA:Has st la b r) (ho:AROk r) (hg:GoodN r.nodes) {t:Tr} (hv:VE r.nodes t) (hb:t.bytes≤65536) (hn:nw t≤r.n) :
 WrB r (nw t) (wrV t r).1 (wrV t r).2.2∧Rt (wrV t r).1.nodes (wrV t r).2.1 (t.txt r.nodes):=by
 obtain ⟨h1,h2⟩:=wr_ok hA ho hg hv hb hn
 refine ⟨h1,?_⟩
 rcases h2 with ⟨he,h2⟩|⟨hv,h2⟩
 ·rw [h2,he.txt];exact .zero _
 ·exact .wr h1.ok h2
theorem leavesOf_append (N:Nodes) (v w:List Nat):leavesOf N (v++w)=leavesOf N v++leavesOf N w:=by unfold leavesOf;rw [List.filterMap_append]
theorem leaves_flat {N:Nodes} (hN:GoodN N):∀ n o x,lk N o=some x→x.h=n→(leavesOf N (preH N n o)).flatten=textH N n o:=by
 intro n
 induction n with
 | zero =>
  intro o x hx hh
  rw [preH,textH,hx]
  simp [leavesOf,ndAt_of hx,hh]
 | succ n ih =>
  intro o x hx hh
  rw [preH,textH,hx,ndAt_of hx]
  have h0:leavesOf N [o]=[]:=by simp [leavesOf,ndAt_of hx];omega
  have e:=leavesOf_append N [o] (x.ks.flatMap fun k=>preH N n k.at_)
  rw [h0] at e
  simp only [Option.map_some,Option.getD_some]
  rw [show (o::x.ks.flatMap fun k=>preH N n k.at_)=[o]++x.ks.flatMap fun k=>preH N n k.at_ from rfl,e,lE]
  have hk:=(hN o x hx).2
  have key:∀ l:List Kid,(∀ k∈l,k∈x.ks)→(leavesOf N (l.flatMap fun k=>preH N n k.at_)).flatten=l.flatMap fun k=>textH N n k.at_:=by
   intro l
   induction l with
   | nil=>intro _;rfl
   | cons k l ih2 =>
    intro h
    obtain ⟨_,y,y1,y2,_⟩:=hk k (h k (by simp))
    rw [List.flatMap_cons,List.flatMap_cons,leavesOf_append,List.flatten_append,ih k.at_ y y1 (by omega),ih2 (fun q hq=>h q (by simp [hq]))]
  exact key _ fun _ h=>h
theorem Rt.leaves {N:Nodes} (hN:GoodN N) {r:Ro} {s:List UInt8} (h:Rt N r s):(leavesOf N (nodesR N r)).flatten=s:=by
 obtain ⟨h,rfl⟩:=h
 unfold textR nodesR
 split
 ·rfl
 ·rename_i q
  rcases h with rfl|⟨_,x,h1,_,h2,_⟩
  ·exact absurd rfl q
  ·exact leaves_flat hN _ _ x h1 h2
end Go.Q15
namespace Go.Q15
open Go Go.QAbs
set_option maxRecDepth 100000
set_option maxHeartbeats 8000000
theorem has_cur (A:List (Bool × List Blk)) (L0 T:List Blk) (r:AR):Has ⟨A,false,L0++(arB A.length L0.length r++T)⟩ A.length L0.length r:=by
 have h:∀ i b,(arB A.length L0.length r++T)[i]?=some b→vis (some b)=some b→St.get ⟨A,false,L0++(arB A.length L0.length r++T)⟩ A.length (L0.length+i)=some b:=by
  intro i b hb hv
  rw [St.get_cur,get_app,hb,hv]
 exact ⟨by simp [St.wr],h 0 _ rfl rfl,h 1 _ rfl rfl,h 2 _ rfl rfl,h 3 _ rfl rfl,h 4 _ rfl rfl,h 5 _ rfl rfl⟩
theorem arSt_cur (A:List (Bool × List Blk)) (L0 T:List Blk) (r r':AR):arSt ⟨A,false,L0++(arB A.length L0.length r++T)⟩ A.length L0.length r'=⟨A,false,L0++(arB A.length L0.length r'++T)⟩:=by
 have h:∀ (X:List Blk) (i:Nat) (b:Blk),St.upd ⟨A,false,L0++X⟩ A.length (L0.length+i) b=⟨A,false,L0++X.set i b⟩:=fun X i b=>by
  unfold St.upd
  simp only [if_true,set_app]
 have h0:∀ (X:List Blk) (b:Blk),St.upd ⟨A,false,L0++X⟩ A.length L0.length b=⟨A,false,L0++X.set 0 b⟩:=fun X b=>h X 0 b
 simp only [arSt,arK,arB,putC,h,h0]
 rfl
theorem end_ro {e:Env} {A:List (Bool × List Blk)} {st:St} {L:List Blk} {x:Ex} {c4 c5 j4 w4 v4:Nat} {ro:Ro} {z:Int} (hA:A=st.A++[(st.ro,st.L)]) (hx:x=.norm∨x=.ret) (h4:lookO e c4=some (.ptr A.length j4 v4 0 0)) (hg4:L[j4]?=some (.arr w4 v4 [ro.av]))
 (h6:lookO e c5=some (.int .i64 z)):endK false [.c c4 true 5,.s c5] (x,e,⟨A,false,L⟩)=some (.tup [ro.av,.int .i64 z],st):=by
 refine end_of (v:=.tup [ro.av,.int .i64 z]) hA hx ?_ (L':=L) rfl rfl
 have h1:resV ⟨A,false,L⟩ e (.c c4 true 5)=some ro.av:=by
  simp only [resV,lookO_some h4,loadP,St.get_cur,hg4,vis,loadB,if_true,List.getElem?_cons_zero,oS]
  rfl
 simp only [result,resL,h1,oS]
 simp only [resV,lookO_some h6,oS,Option.map_some,tupOf]
theorem rtNew_c {st:St} {la b:Nat} {r:AR} (hA:Has st la b r) (ho:AROk r) (hg:GoodN r.nodes) (s:List UInt8) (hs:s.length≤65536) (hn:nw (buildM s)≤r.n) :
 S Tb F_rope_New [.ptr la (b+5) 0 0 0,.str s] st=some (.tup [(wrV (buildM s) r).2.1.av,.int .i64 0],arSt st la b (wrV (buildM s) r).1):=by
 obtain ⟨b1,b2,b3⟩:=buildM_ok hg hs
 refine s_ofW rfl (fun A hA'=>?_)
 have hB:=fun L=>Build_c hg s hs ⟨A,false,L⟩
 have hle:=hA.le
 have hW:=fun L=>Write_c (st:=⟨A,false,L⟩) (hA.push hA') ho hg b1 (by rw [b3];omega) hn
 simp only [arSt_push hA' hle] at hW
 generalize (wrV (buildM s) r).1=r' at *
 generalize (wrV (buildM s) r).2.1=ro at *
 repeat' (first|refine ruS rfl ?_|refine isS rfl ?_|refine rk_seq ?_|(refine is_neq rfl rfl (fun _=>?_) (fun _=>?_)<;>try (exfalso;omega))|refine is_eqs rfl rfl rfl rfl ?_|refine is_box rfl rfl rfl ?_|refine is_ldc rfl rfl rfl (tr_part _) ?_|refine is_stb rfl rfl rfl (tr_seal _ _ _) (tr_put _ _) rfl ?_|refine is_callE rfl rfl (by first|rfl|(simp only [lE,lN,lC,weaks,tr_weak,forceL];first|done|rfl)) (hB _) ?_)
 all_goals try contradiction
 all_goals try (exfalso;omega)
 obtain ⟨A2,hA2⟩:∃ A2,A2=(arSt st la b r').ps:=⟨_,rfl⟩
 simp only [← hA2] at hW
 have hAl:A.length=A2.length:=by rw [hA',hA2];simp [St.ps,arSt_A]
 refine is_callE rfl rfl (wkPT0 rfl _) (hW _) ?_
 rw [hAl]
 repeat' (first|refine is_stn rfl rfl rfl rfl rfl rfl ?_|refine is_ldc rfl rfl rfl rfl ?_|refine ruS rfl ?_|refine isS rfl ?_|refine rkS rfl ?_|refine is_box rfl rfl rfl ?_)
 exact end_ro hA2 (.inr rfl) rfl rfl rfl
end Go.Q15
namespace Go.Q15
open Go Go.QAbs
set_option maxRecDepth 100000
set_option maxHeartbeats 8000000
theorem newAR_ok (n g:Nat) (hn:n≤16384) (hg:1≤g∧g≤4294967295):AROk (newAR n g):=by
 have hb:∀ i,i<n→(newAR n g).blk[i]?=some ((n:Int)-1-i):=fun i hi=>by simp [newAR,hi]
 refine ⟨by simp [newAR],by simp [newAR];exact hn,by simp [newAR],by simp [newAR],fun i hi=>⟨n-1-i,?_,?_,?_⟩,fun i j hi hj q=>?_,fun s hs=>⟨1,?_,by omega,?_⟩,?_,fun h x hx=>?_,?_,?_,?_⟩
 ·have hi':i<n:=hi
  rw [hb i hi'];congr 1
  show (n:Int)-1-i=((n-1-i:Nat):Int)
  omega
 ·have hi':i<n:=hi
  show n-1-i<(List.replicate n (0:Int)).length
  rw [List.length_replicate];omega
 ·have hi':i<n:=hi
  show (List.replicate n (0:Int))[n-1-i]?=some 0
  rw [List.getElem?_replicate,if_pos (by omega)]
 ·have hi':i<n:=hi
  have hj':j<n:=hj
  rw [hb i hi',hb j hj'] at q
  have:=Option.some.inj q
  omega
 ·have hs':s<n:=by simpa [newAR] using hs
  simp [newAR,hs']
 ·show ((1:Nat):Int)≤(g:Int);omega
 ·show (g:Int)≤_;omega
 ·simp [newAR,lk] at hx
 ·simp [newAR]
 ·simp [newAR]
 ·simp [newAR];omega
noncomputable def laidF (p:AR × List Ro) (s:List UInt8):AR × List Ro:=((wrV (buildM s) p.1).1,p.2++[(wrV (buildM s) p.1).2.1])
noncomputable def laidV (texts:List (List UInt8)):AR × List Ro:=texts.foldl laidF (newAR 1500 3,[])
theorem laidV_snoc (l:List (List UInt8)) (s:List UInt8):laidV (l++[s])=laidF (laidV l) s:=by unfold laidV;rw [List.foldl_append];rfl
def Rts (N:Nodes) (ros:List Ro) (ss:List (List UInt8)):Prop:=ros.length=ss.length∧∀ (i:Nat) (ro:Ro) (s:List UInt8),ros[i]?=some ro→ss[i]?=some s→Rt N ro s
theorem Rts.ext {N M:Nodes} (hN:GoodN N) (hE:Ext N M) {ros:List Ro} {ss:List (List UInt8)} (h:Rts N ros ss):Rts M ros ss:=⟨h.1,fun i ro s h1 h2=>(h.2 i ro s h1 h2).ext hN hE⟩
theorem Rts.snoc {N:Nodes} {ros:List Ro} {ss:List (List UInt8)} (h:Rts N ros ss) {ro:Ro} {s:List UInt8} (g:Rt N ro s):Rts N (ros++[ro]) (ss++[s]):=by
 refine ⟨by simp [h.1],fun i r t h1 h2=>?_⟩
 rcases Nat.lt_or_ge i ros.length with q|q
 ·rw [List.getElem?_append_left q] at h1
  rw [List.getElem?_append_left (by rw [← h.1];exact q)] at h2
  exact h.2 i r t h1 h2
 ·rw [List.getElem?_append_right q] at h1
  rw [List.getElem?_append_right (by rw [← h.1];exact q)] at h2
  rw [← h.1] at h2
  match hk:i-ros.length with
  | 0=>rw [hk] at h1 h2;obtain rfl:=Option.some.inj h1;obtain rfl:=Option.some.inj h2;exact g
  | n+1=>rw [hk] at h1;simp at h1
structure LaidOk (texts:List (List UInt8)) (p:AR × List Ro):Prop where
 ok:AROk p.1
 good:GoodN p.1.nodes
 rts:Rts p.1.nodes p.2 texts
 room:1500≤p.1.n+texts.flatten.length
theorem laidF_ok {l:List (List UInt8)} {p:AR × List Ro} {s:List UInt8} (h:LaidOk l p) (hl:(l++[s]).flatten.length≤900):nw (buildM s)≤p.1.n∧LaidOk (l++[s]) (laidF p s):=by
 have hfl:(l++[s]).flatten.length=l.flatten.length+s.length:=by simp
 have hr:=h.room
 have hs:s.length≤65536:=by omega
 obtain ⟨b1,b2,b3⟩:=buildM_ok h.good hs
 have hw:=nw_le h.good b1
 rw [b3] at hw
 have hn:nw (buildM s)≤p.1.n:=by omega
 obtain ⟨w1,w2⟩:=wr_rt (has_cur [] [] [] p.1) h.ok h.good b1 (by rw [b3];omega) hn
 rw [b2] at w2
 refine ⟨hn,w1.ok,w1.good,(h.rts.ext h.good w1.ext).snoc w2,?_⟩
 have:=w1.n
 show 1500≤(wrV (buildM s) p.1).1.n+_
 omega
theorem laidV_ok (texts:List (List UInt8)) (hl:texts.flatten.length≤900):∀ i,i≤texts.length→LaidOk (texts.take i) (laidV (texts.take i)):=by
 intro i
 induction i with
 | zero=>intro _;exact ⟨newAR_ok 1500 3 (by omega) (by omega),good_nil,⟨rfl,fun i ro s h=>by simp [laidV] at h⟩,by simp [laidV,newAR]⟩
 | succ i ih =>
  intro hi
  obtain ⟨s,hs⟩:∃ s,texts[i]?=some s:=⟨texts[i]'(by omega),by simp [show i<texts.length by omega]⟩
  rw [take_succ_get hs,laidV_snoc]
  refine (laidF_ok (ih (by omega)) ?_).2
  rw [← take_succ_get hs]
  have:=flat_le texts (i+1)
  omega
def boxesR (l:List Ro):List Blk:=l.map fun r=>Blk.arr 5 0 [r.av]
theorem laid_c (texts:List (List UInt8)) (hl:texts.flatten.length≤900) (h4:texts.length≤4) (A:List (Bool × List Blk)) (L0:List Blk) :
 S Tb F_quartolaw16_laid [.lit (texts.map .str)] ⟨A,false,L0⟩=some (.tup [.ptr A.length (L0.length+5) 0 0 0,.ref A.length (L0.length+6) texts.length 0 texts.length,.bool true],⟨A,false,L0++(arB A.length L0.length (laidV texts).1++(.arr 5 texts.length ((laidV texts).2.map Ro.av)::boxesR (laidV texts).2))⟩):=by
 refine s_keep rfl ?_
 have hN:=arNew_c 1500 3 (by omega) (by omega) A L0
 repeat' (first|refine is_onilG ?_|refine ruS rfl ?_|refine isS rfl ?_|refine rk_seq ?_|(refine is_neq rfl rfl (fun _=>?_) (fun _=>?_)<;>try (exfalso;omega))|refine is_eqs rfl rfl rfl rfl ?_|refine is_callE rfl rfl rfl (hN) ?_)
 all_goals try contradiction
 have e7:(L0++[(newAR 1500 3).b0,(newAR 1500 3).b1,(newAR 1500 3).b2,(newAR 1500 3).b3 A.length L0.length,(newAR 1500 3).b4,(newAR 1500 3).b5 A.length L0.length]).length=L0.length+6:=by simp
 rw [e7]
 refine ru_loopP (α:=Nat) (fun i=>[(0,.lit (texts.map .str)),(5,.ptr A.length (L0.length+5) 0 0 0),(7,.ref A.length (L0.length+6) i 0 i),(8,.int .i64 i)])
  (fun i=>⟨A,false,L0++(arB A.length L0.length (laidV (texts.take i)).1++(.arr 5 i ((laidV (texts.take i)).2.map Ro.av)::boxesR (laidV (texts.take i)).2))⟩) (fun i=>i≤texts.length) (fun i=>texts.length-i) 0 rfl ?_ (by simp) ?_
 ·rw [List.append_assoc];rfl
 rintro i hi
 have hok:=laidV_ok texts hl i hi
 rcases Nat.lt_or_ge i texts.length with hlt|hge
 ·obtain ⟨s,hs⟩:∃ s,texts[i]?=some s:=⟨texts[i]'(by omega),by simp [show i<texts.length by omega]⟩
  have hfl:=flat_le texts (i+1)
  have htk:(texts.take i++[s]).flatten.length≤900:=by rw [← take_succ_get hs];omega
  obtain ⟨hn,hok2⟩:=laidF_ok hok htk
  have h1:=rtNew_c (has_cur A L0 (.arr 5 i ((laidV (texts.take i)).2.map Ro.av)::boxesR (laidV (texts.take i)).2) (laidV (texts.take i)).1) hok.ok hok.good s (by simp at htk;omega) hn
  rw [arSt_cur] at h1
  have hV:laidV (texts.take (i+1))=laidF (laidV (texts.take i)) s:=by rw [take_succ_get hs,laidV_snoc]
  unfold laidF at hV
  have hri:=hok.rts.1
  rw [List.length_take,Nat.min_eq_left hi] at hri
  generalize laidV (texts.take i)=V at *
  generalize wrV (buildM s) V.1=W at *
  have hx:0≤((i:Nat):Int)∧texts[((i:Nat):Int).toNat]?=some s:=⟨by omega,by rw [show ((i:Nat):Int).toNat=i by omega];exact hs⟩
  obtain ⟨L1,hL1⟩:∃ L1,L1=L0++(arB A.length L0.length W.1++Blk.arr 5 i (List.map Ro.av V.2)::boxesR V.2):=⟨_,rfl⟩
  rw [← hL1] at h1
  have g6:L1[L0.length+6]?=some (.arr 5 i (V.2.map Ro.av)):=by rw [hL1,get_app];rfl
  repeat' (first|refine is_ixKn rfl rfl hx (fun _=>rfl) ?_|refine ruS rfl ?_|refine isS rfl ?_|refine rk_seq ?_|refine is_lenM rfl ?_|refine is_ldT rfl rfl rfl ?_|refine is_ldl rfl rfl ?_|(refine is_lss rfl rfl (fun _=>?_) (fun _=>?_)<;>try (exfalso;omega))|(refine is_neq rfl rfl (fun _=>?_) (fun _=>?_)<;>try (exfalso;omega))|refine is_boxG rfl rfl rfl ?_|refine is_stT rfl rfl rfl rfl rfl rfl ?_|refine is_bslFO rfl rfl rfl rfl ?_|refine is_callE rfl rfl rfl (h1) ?_)
  all_goals try contradiction
  all_goals try (exfalso;omega)
  have h6l:L0.length+6<L1.length:=(List.getElem?_eq_some_iff.1 g6).1
  refine is_appG (es:=V.2.map Ro.av) (ys:=[W.2.1.av]) rfl rfl (get_left g6) (by rw [List.length_map];omega) rfl rfl (by rw [List.length_map,List.length_singleton];omega) (by decide) ?_
  repeat' (first|refine ru_reg ?_|refine isS rfl ?_|refine rkS rfl ?_|refine is_addS rfl rfl (by omega) ?_)
  refine ⟨i+1,⟨rfl,?_⟩,by omega,by omega⟩
  simp only [hV]
  rw [hL1,List.append_assoc,set_app]
  have e8:((V.2++[W.2.1]).map Ro.av)=V.2.map Ro.av++[W.2.1.av]:=by rw [List.map_append];rfl
  have e9:boxesR (V.2++[W.2.1])=boxesR V.2++[.arr 5 0 [W.2.1.av]]:=by unfold boxesR;rw [List.map_append];rfl
  rw [e8,e9]
  rfl
 ·obtain rfl:i=texts.length:=by omega
  rw [List.take_length]
  repeat' (first|refine ruS rfl ?_|refine isS rfl ?_|refine rkS rfl ?_|refine is_lenM rfl ?_|(refine is_lss rfl rfl (fun _=>?_) (fun _=>?_)<;>try (exfalso;omega)))
  refine (end_keep (.inr rfl) rfl rfl rfl rfl).trans ?_
  rfl
end Go.Q15
namespace Go.Q15
open Go Go.QAbs
set_option maxRecDepth 100000
set_option maxHeartbeats 8000000
def pickM (x n:Int):Int:=(x % 18446744073709551616) % (n+1)
theorem pickM_bounds {x n:Int} (h:0≤n):0≤pickM x n∧pickM x n≤n:=by
 unfold pickM
 have:=Int.emod_nonneg (x % 18446744073709551616) (show n+1≠0 by omega)
 have:=Int.emod_lt_of_pos (x % 18446744073709551616) (show 0<n+1 by omega)
 omega
theorem wrapU (x:Int):IntKind.u64.wrap x=x % 18446744073709551616:=by
 have e1:IntKind.u64.signed=false:=rfl
 have e2:IntKind.u64.bits=64:=rfl
 simp only [IntKind.wrap,e1,e2,Bool.false_and,if_false,Bool.false_eq_true]
 rfl
end Go.Q15
namespace Go.Q15
open Go Go.QAbs
set_option maxRecDepth 100000
set_option maxHeartbeats 1000000
theorem ownO_getD (k:Option (List Tr)):(Tr.ownO k).getD []=(k.getD []).map Tr.own:=by
 cases k with
 | none=>rfl
 | some l=>simp [Tr.ownO,Tr.ownL_map]
theorem own_h (t:Tr):t.own.h=t.h:=by cases t;rfl
theorem own_bytes (t:Tr):t.own.bytes=t.bytes:=by
 induction t using Tr.ind with
 | step o h m s k ih =>
  rw [Tr.own,Tr.bytes,Tr.bytes,Tr.bytesO_getD,Tr.bytesO_getD,ownO_getD]
  generalize k.getD []=l at ih
  congr 1
  induction l with
  | nil=>rfl
  | cons a l ih2=>rw [List.map_cons,Tr.bytesL,Tr.bytesL,ih a (by simp),ih2 (fun t ht=>ih t (by simp [ht]))]
theorem own_txt (N:Nodes) (t:Tr):t.own.txt N=t.txt N:=by
 induction t using Tr.ind with
 | step o h m s k ih =>
  rw [Tr.own,Tr.txt,Tr.txt,Tr.txtO_getD,Tr.txtO_getD,ownO_getD]
  generalize k.getD []=l at ih
  congr 1
  induction l with
  | nil=>rfl
  | cons a l ih2=>rw [List.map_cons,Tr.txtL,Tr.txtL,ih a (by simp),ih2 (fun t ht=>ih t (by simp [ht]))]
theorem own_val {N:Nodes} {t:Tr} (hv:Val N t):Val N t.own:=by
 induction hv with
 | kept h0 hx hok hh hm hk =>
  rw [Tr.own]
  exact .kept h0 hx hok hh hm (by rw [ownO_getD,hk];rfl)
 | leaf h1 h2 hk =>
  rw [Tr.own]
  exact .leaf h1 h2 (by rw [ownO_getD,hk];rfl)
 | inner hh h2 h4 hl hb hv ih =>
  rename_i h l
  rw [Tr.own,Tr.ownO,Tr.ownL_map]
  refine .inner hh (by rw [List.length_map];exact h2) (by rw [List.length_map];exact h4) ?_ ?_ ?_
  ·intro t ht
   obtain ⟨u,hu,rfl⟩:=List.mem_map.1 ht
   rw [own_h];exact hl u hu
  ·intro t ht q
   obtain ⟨u,hu,rfl⟩:=List.mem_map.1 ht
   rw [own_bytes];exact hb u hu q
  ·intro t ht
   obtain ⟨u,hu,rfl⟩:=List.mem_map.1 ht
   exact ih u hu
theorem own_ve {N:Nodes} {t:Tr} (h:VE N t):VE N t.own:=by
 rcases h with h|h
 ·obtain ⟨o,h',m,s,k⟩:=t
  obtain ⟨h1,h2,h3,h4,h5⟩:=h
  exact .inl ⟨h1,h2,h3,h4,by show (Tr.ownO k).getD []=[];rw [ownO_getD];simp only [Tr.ks] at h5;rw [h5];rfl⟩
 ·exact .inr (own_val h)
end Go.Q15
namespace Go.Q15
open Go Go.QAbs
set_option maxRecDepth 100000
set_option maxHeartbeats 8000000
theorem pick_c (x n:Int) (h0:0≤n) (h1:n<4611686018427387904) (st:St):S Tb F_quartolaw16_pick [.int .i64 x,.int .i64 n] st=some (.int .i64 (pickM x n),st):=by
 have hp:=pickM_bounds (x:=x) h0
 have hw:IntKind.u64.wrap (n+1)=n+1:=by rw [wrapU];omega
 have hx:=Int.emod_nonneg x (show (18446744073709551616:Int)≠0 by decide)
 have hrem:binV .rem (.int .u64 (IntKind.u64.wrap x)) (.int .u64 (n+1))=some (.int .u64 (pickM x n)):=by
  rw [wrapU]
  show (if n+1=0 then none else some (AV.int .u64 ((x % 18446744073709551616).tmod (n+1))))=_
  rw [if_neg (by omega),Int.tmod_eq_emod_of_nonneg hx];rfl
 refine s_of rfl (fun A hA=>?_)
 repeat' (first|refine ruS rfl ?_|refine isS rfl ?_|refine rk_seq ?_)
 refine is_cint rfl ?_
 repeat' (first|refine is_mv rfl ?_|refine is_addS rfl rfl (by omega) ?_)
 refine is_cintW rfl hw ?_
 refine is_bin rfl rfl hrem ?_
 refine is_cintW rfl (wrap64 (by omega) (by omega)) ?_
 repeat' (first|refine isS rfl ?_|refine rkS rfl ?_|refine ru_ret ?_)
 refine end_st hA (by first|exact .inl rfl|exact .inr rfl) rfl rfl rfl rfl ?_
 rfl
structure Ed where
 what:Nat
 n:Int
 at_:Int
 len:Int
 text:List UInt8
def Ed.av (y:Ed):AV:=.agg [.int .u8 y.what,.int .i64 y.n,.int .i64 y.at_,.int .i64 y.len,.str y.text]
def pickR (ros:List Ro) (x:Int):Option Ro:=ros[(pickM x ((ros.length:Int)-1)).toNat]?
noncomputable def planV (N:Nodes) (ros:List Ro) (y:Ed):Tr :=
 match pickR ros y.n with
 | none=>buildM y.text
 | some r=>(replM N (keepT r) (pickM y.at_ r.m.b) (pickM y.len (r.m.b-pickM y.at_ r.m.b)) y.text).own
theorem pickR_lt {ros:List Ro} {x:Int} (h:ros≠[]):∃ r,pickR ros x=some r∧r∈ros∧(pickM x ((ros.length:Int)-1)).toNat<ros.length:=by
 have hl:0<ros.length:=List.length_pos_iff.2 h
 have:=pickM_bounds (x:=x) (n:=(ros.length:Int)-1) (by omega)
 have hlt:(pickM x ((ros.length:Int)-1)).toNat<ros.length:=by omega
 exact ⟨ros[(pickM x ((ros.length:Int)-1)).toNat]'hlt,by unfold pickR;rw [List.getElem?_eq_getElem hlt],List.getElem_mem _,hlt⟩
theorem ro_part (r:Ro):partOf r.av true 0 5=some r.av:=by cases r;rfl
theorem len1L {O:Orc} {k:List Fr} {Q:Post} {e:Env} {st:St} {keep:List Nat} {is:List QAbs.PI} {d:Nat} {α:Type} {f:α→AV} {x:Opd} {l:List α} (hx:opdO e x=some (.lit (l.map f))) (h:Is O is keep k Q ((d,.int .i64 l.length)::e) st):Is O (⟨some d,none,false,.len 1 x⟩::is) keep k Q e st:=by
 refine is_lenL hx ?_
 rw [List.length_map];exact h
theorem wkPTIIS {lv ix:Nat} {t:Tr} {n m:Int} {s:List UInt8}:forceL (weaks ([]++[.ptr lv ix 0 0 0,t.av,.int .i64 n,.int .i64 m,.str s]++[]))=some [.ptr lv ix 0 0 0,t.av,.int .i64 n,.int .i64 m,.str s]:=by
 simp only [lE,lN,lC,weaks,tr_weak,forceL];rfl
structure PlanOk (N:Nodes) (ros:List Ro):Prop where
 rt:∀ r∈ros,RtOk N r∧(keepT r).bytes=r.m.b∧0≤r.m.b∧r.m.b≤60000
 len:ros.length<65536
theorem Rts.plan {N:Nodes} (hN:GoodN N) {ros:List Ro} {ss:List (List UInt8)} (h:Rts N ros ss) (hl:ros.length<65536) (hs:∀ s∈ss,s.length≤60000):PlanOk N ros:=by
 refine ⟨fun r hr=>?_,hl⟩
 obtain ⟨i,hi,rfl⟩:=List.getElem_of_mem hr
 have hi2:i<ss.length:=by rw [← h.1];exact hi
 have g:=h.2 i _ _ (List.getElem?_eq_getElem hi) (List.getElem?_eq_getElem hi2)
 obtain ⟨b1,b2⟩:=g.b hN
 have:=hs _ (List.getElem_mem hi2)
 exact ⟨g.rt,by rw [b1,b2],by omega,by omega⟩
theorem RtOk.keep {N:Nodes} {r:Ro} (h:RtOk N r):VE N (keepT r):=(Rt.keep ⟨h,rfl⟩).1
theorem planV_ok {N:Nodes} (hN:GoodN N) {ros:List Ro} (h:PlanOk N ros) {y:Ed} (hy:y.text.length≤200):VE N (planV N ros y)∧(planV N ros y).bytes≤60200:=by
 unfold planV
 match hq:pickR ros y.n with
 | none =>
  obtain ⟨b1,b2,b3⟩:=buildM_ok hN (s:=y.text) (by omega)
  exact ⟨b1,by show (buildM y.text).bytes≤_;omega⟩
 | some r =>
  obtain ⟨h1,h2,h3,h4⟩:=h.rt r (List.mem_of_getElem? (show ros[_]?=some r from hq))
  have p1:=pickM_bounds (x:=y.at_) h3
  have p2:=pickM_bounds (x:=y.len) (n:=r.m.b-pickM y.at_ r.m.b) (by omega)
  have:=replM_ok hN (s:=y.text) h1.keep (a:=pickM y.at_ r.m.b) (n:=pickM y.len (r.m.b-pickM y.at_ r.m.b)) p1.1 p2.1 (by omega) (by omega) (by omega)
  refine ⟨own_ve this.ve,?_⟩
  show (Tr.own _).bytes≤_
  rw [own_bytes,this.bytes];omega
theorem plans_c {st:St} {la b:Nat} {N:Nodes} (hN:GoodN N) (hR:Rd st la (b+5) N) {kx lv ver:Nat} {ros:List Ro} (hg:st.get lv kx=some (.arr 5 ver (ros.map Ro.av))) (hP:PlanOk N ros) {ys:List Ed} (hyl:ys.length<65536) (hy:∀ y∈ys,y.text.length≤200) :
 S Tb F_quartolaw16_plans [.ptr la (b+5) 0 0 0,.ref lv kx ver 0 ros.length,.lit (ys.map Ed.av)] st=some (.tup [.lit ((ys.map (planV N ros)).map Tr.av),.bool true],st):=by
 refine s_of rfl (fun A hA=>?_)
 have hr:=fun L=>hR.push hA (ro:=false) (L:=L)
 have gr:=fun L=>get_old hA (ro:=false) (L:=L) hg
 have hwi:∀ L,wIs 5 ver (St.get ⟨A,false,L⟩ lv kx)=true:=fun L=>by rw [gr];simp [wIs]
 have hpl:=hP.len
 repeat' (first|refine ruS rfl ?_|refine isS rfl ?_|refine rk_seq ?_|refine is_onil rfl ?_)
 refine ru_loopP (α:=Nat × List Blk) (fun q=>[(0,.ptr la (b+5) 0 0 0),(1,.ref lv kx ver 0 ros.length),(2,.lit (ys.map Ed.av)),(8,.ref A.length 0 q.1 0 q.1),(9,.int .i64 q.1)])
  (fun q=>⟨A,false,.arr 7 q.1 (((ys.take q.1).map (planV N ros)).map Tr.av)::q.2⟩) (fun q=>q.1≤ys.length) (fun q=>ys.length-q.1) (0,[]) rfl rfl (Nat.zero_le _) ?_
 rintro ⟨i,G⟩ hi
 simp only at hi ⊢
 rcases Nat.lt_or_ge i ys.length with hlt|hge
 ·obtain ⟨y,hyi⟩:∃ y,ys[i]?=some y:=⟨ys[i]'(by omega),by simp [hlt]⟩
  have hy1:=hy y (List.mem_of_getElem? hyi)
  have hx:0≤((i:Nat):Int)∧ys[((i:Nat):Int).toNat]?=some y:=⟨by omega,by rw [show ((i:Nat):Int).toNat=i by omega];exact hyi⟩
  have hes:(((ys.take i).map (planV N ros)).map Tr.av).length=i:=by simp;omega
  have hfin:∀ c,planV N ros y=c→((ys.take (i+1)).map (planV N ros)).map Tr.av=((ys.take i).map (planV N ros)).map Tr.av++[c.av]:=fun c hc=>by
   rw [take_succ_get hyi,List.map_append,List.map_append,← hc];rfl
  generalize hES:((ys.take i).map (planV N ros)).map Tr.av=es at *
  have e0:(⟨A,false,.arr 7 i es::G⟩:St)=⟨A,false,(.arr 7 i es::G)++[]⟩:=by rw [lN]
  rw [e0]
  by_cases hros:ros=[]
  ·have hc:=hfin (buildM y.text) (by unfold planV;rw [show pickR ros y.n=none by subst hros;rfl])
   have h0:(ros.length:Int)=0:=by rw [hros];rfl
   have hBu:=fun st=>Build_c hN y.text (by omega) st
   generalize buildM y.text=c at *
   repeat' (first|refine len1L rfl ?_|refine is_lenR rfl ?_|refine is_ixKn rfl rfl hx (fun _=>rfl) ?_|refine is_boxA rfl rfl rfl rfl rfl ?_|refine is_ldA rfl rfl rfl (tr_part _) ?_|refine is_stA rfl rfl rfl rfl (tr_seal _ _ _) (tr_put _ _) rfl ?_|refine is_bslTr1 rfl ?_|refine ruS rfl ?_|refine isS rfl ?_|refine rk_seq ?_|refine is_ldl rfl rfl ?_|(refine is_lss rfl rfl (fun _=>?_) (fun _=>?_)<;>try (exfalso;omega))|(refine is_eql rfl rfl (fun _=>?_) (fun _=>?_)<;>try (exfalso;omega))|(refine is_neq rfl rfl (fun _=>?_) (fun _=>?_)<;>try (exfalso;omega))|refine is_callE rfl rfl (by first|rfl|(simp only [lE,lN,lC,weaks,tr_weak,forceL];first|done|rfl)) (hBu _) ?_)
   all_goals try contradiction
   all_goals try (exfalso;omega)
   refine is_appG (es:=es) (ys:=[c].map Tr.av) rfl rfl rfl hes.symm (trs_wide _) (trs_seal _ _ _) (by rw [hes,List.length_map,List.length_singleton];omega) (by decide) ?_
   repeat' (first|refine ruS rfl ?_|refine isS rfl ?_|refine rkS rfl ?_|refine is_addS rfl rfl (by omega) ?_)
   refine ⟨(i+1,G++[.arr 7 0 [c.av]]),⟨rfl,?_⟩,by simp only;omega,by simp only;omega⟩
   simp only [hc]
   rfl
  ·obtain ⟨r,hr1,hr2,hr3⟩:=pickR_lt (x:=y.n) hros
   have hc:=hfin (replM N (keepT r) (pickM y.at_ r.m.b) (pickM y.len (r.m.b-pickM y.at_ r.m.b)) y.text).own (by unfold planV;rw [hr1])
   obtain ⟨h1,h2,h3,h4⟩:=hP.rt r hr2
   have hl0:0<ros.length:=List.length_pos_iff.2 hros
   have pn:=pickM_bounds (x:=y.n) (n:=(ros.length:Int)-1) (by omega)
   have p1:=pickM_bounds (x:=y.at_) h3
   have p2:=pickM_bounds (x:=y.len) (n:=r.m.b-pickM y.at_ r.m.b) (by omega)
   have hN1:=fun st=>pick_c y.n ((ros.length:Int)-1) (by omega) (by omega) st
   have hN2:=fun st=>pick_c y.at_ r.m.b (by omega) (by omega) st
   have hN3:=fun st=>pick_c y.len (r.m.b-pickM y.at_ r.m.b) (by omega) (by omega) st
   have hK:=fun L=>Keep_rt (hr L) h1
   have hRe:=fun L=>Replace_c hN (hr L) (s:=y.text) h1.keep (a:=pickM y.at_ r.m.b) (n:=pickM y.len (r.m.b-pickM y.at_ r.m.b)) p1.1 p2.1 (by omega) (by omega) (by omega)
   have gr2:(ros.map Ro.av)[0+(pickM y.n ((ros.length:Int)-1)).toNat]?=some r.av:=by
    rw [Nat.zero_add,List.getElem?_map,show ros[(pickM y.n ((ros.length:Int)-1)).toNat]?=some r from hr1];rfl
   generalize (replM N (keepT r) (pickM y.at_ r.m.b) (pickM y.len (r.m.b-pickM y.at_ r.m.b)) y.text).own=c at *
   generalize keepT r=kt at *
   repeat' (first|refine len1L rfl ?_|refine is_lenR rfl ?_|refine is_ixKn rfl rfl hx (fun _=>rfl) ?_|refine is_ixR rfl rfl (by omega) (hwi _) ?_|refine is_ld rfl (gr _) gr2 (ro_part _) ?_|refine is_boxA rfl rfl rfl rfl rfl ?_|refine is_ldA rfl rfl rfl rfl ?_|refine is_ldA rfl rfl rfl (tr_part _) ?_|refine is_stA rfl rfl rfl rfl (tr_seal _ _ _) (tr_put _ _) rfl ?_|refine is_stA rfl rfl rfl rfl rfl rfl rfl ?_|refine is_bslTr1 rfl ?_|refine ruS rfl ?_|refine isS rfl ?_|refine rk_seq ?_|refine is_ldl rfl rfl ?_|(refine is_lss rfl rfl (fun _=>?_) (fun _=>?_)<;>try (exfalso;omega))|(refine is_eql rfl rfl (fun _=>?_) (fun _=>?_)<;>try (exfalso;omega))|(refine is_neq rfl rfl (fun _=>?_) (fun _=>?_)<;>try (exfalso;omega))|refine is_subS rfl rfl (by omega) ?_|refine is_callE rfl rfl (by first|rfl|(simp only [lE,lN,lC,weaks,tr_weak,forceL];first|done|rfl)) (hN1 _) ?_|refine is_callE rfl rfl (by first|rfl|(simp only [lE,lN,lC,weaks,tr_weak,forceL];first|done|rfl)) (hN2 _) ?_|refine is_callP rfl rfl rfl (hN3 _) ?_|refine is_callE rfl rfl (by first|rfl|(simp only [lE,lN,lC,weaks,tr_weak,forceL];first|done|rfl)) (hK _) ?_|refine is_callE rfl rfl wkPTIIS (hRe _) ?_)
   all_goals try contradiction
   all_goals try (exfalso;omega)
   refine is_appG (es:=es) (ys:=[c].map Tr.av) rfl rfl rfl hes.symm (trs_wide _) (trs_seal _ _ _) (by rw [hes,List.length_map,List.length_singleton];omega) (by decide) ?_
   repeat' (first|refine ru_reg ?_|refine isS rfl ?_|refine rkS rfl ?_|refine is_addS rfl rfl (by omega) ?_)
   refine ⟨(i+1,G++[.arr 5 0 [r.av],.arr 7 0 [c.av]]),⟨rfl,?_⟩,by simp only;omega,by simp only;omega⟩
   simp only [hc]
   rfl
 ·obtain rfl:i=ys.length:=by omega
  rw [List.take_length]
  repeat' (first|refine len1L rfl ?_|refine ruS rfl ?_|refine isS rfl ?_|refine rkS rfl ?_|(refine is_lss rfl rfl (fun _=>?_) (fun _=>?_)<;>try (exfalso;omega)))
  all_goals try (exfalso;omega)
  exact end_ref1 hA (.inr rfl) rfl rfl (by simp) (fun v hv=>by obtain ⟨x,_,rfl⟩:=List.mem_map.1 hv;exact tr_imm 2 x) rfl rfl
end Go.Q15
namespace Go.Q15
open Go Go.QAbs
set_option maxRecDepth 100000
set_option maxHeartbeats 8000000
def longF:Nat→List (List UInt8)→Nat
 | n,[]=>n
 | n,t::ts=>if n≤900 then longF (n+min t.length 1000) ts else n
def longP (l:List (List UInt8)):Prop:=4<l.length∨900<longF 0 l
instance (l:List (List UInt8)):Decidable (longP l):=by unfold longP;infer_instance
theorem longF_ge:∀ (l:List (List UInt8)) (n:Nat),n≤longF n l
 | [],n=>by simp [longF]
 | t::ts,n=>by
  rw [longF]
  by_cases h:n≤900
  ·rw [if_pos h];have:=longF_ge ts (n+min t.length 1000);omega
  ·rw [if_neg h];exact Nat.le_refl _
theorem longF_sum:∀ (l:List (List UInt8)) (n:Nat),longF n l≤900→n+(l.map List.length).sum≤900
 | [],n,h=>by simpa [longF] using h
 | t::ts,n,h=>by
  rw [longF] at h
  by_cases hn:n≤900
  ·rw [if_pos hn] at h
   have h1:=longF_ge ts (n+min t.length 1000)
   have h2:=longF_sum ts _ h
   rw [List.map_cons,List.sum_cons];omega
  ·rw [if_neg hn] at h;omega
theorem drop_cons {α:Type} {l:List α} {i:Nat} {a:α} (h:l[i]?=some a):l.drop i=a::l.drop (i+1):=by
 obtain ⟨h1,h2⟩:=List.getElem?_eq_some_iff.1 h
 subst h2
 exact List.drop_eq_getElem_cons h1
theorem long_c (l:List (List UInt8)) (hb:l.length<9223372036854775808) (hs:∀ s∈l,s.length<9223372036854775808) (st:St):S Tb F_quartolaw15_Long [.lit (l.map .str)] st=some (.bool (decide (longP l)),st):=by
 refine s_of rfl (fun A hA=>?_)
 repeat' (first|refine ruS rfl ?_|refine isS rfl ?_|refine rk_seq ?_)
 refine ru_loopP (α:=Nat × Nat) (fun p=>[(0,.lit (l.map .str)),(3,.int .i64 p.2),(4,.int .i64 p.1)]) (fun p=>⟨A,false,[]⟩) (fun p=>p.1≤l.length∧p.2≤1900∧longF p.2 (l.drop p.1)=longF 0 l) (fun p=>l.length-p.1) (0,0) rfl rfl ⟨Nat.zero_le _,Nat.zero_le _,rfl⟩ ?_
 rintro ⟨i,n⟩ ⟨h1,h2,h3⟩
 simp only at h1 h2 h3 ⊢
 repeat' (first|refine ruS rfl ?_|refine isS rfl ?_|refine rkS rfl ?_|refine is_lenS rfl ?_|refine is_lenM rfl ?_|refine is_ldl rfl rfl ?_|refine is_ixM rfl rfl (by omega) (fun _=>rfl) (fun _ _=>?_)|(refine is_lss rfl rfl (fun _=>?_) (fun _=>?_)<;>try (exfalso;omega))|(refine is_leq rfl rfl (fun _=>?_) (fun _=>?_)<;>try (exfalso;omega))|(refine is_gtr rfl rfl (fun _=>?_) (fun _=>?_)<;>try (exfalso;omega))|refine is_mnx rfl rfl ?_)
 ·rename_i hlt hn x hx
  have hx':l[i]?=some x:=by rw [show i=((i:Nat):Int).toNat by omega];exact hx
  have hxl:=hs x (List.mem_of_getElem? hx')
  have e1:(if false=true then max (x.length:Int) 1000 else min (x.length:Int) 1000)=((min x.length 1000:Nat):Int):=by
   simp only [Bool.false_eq_true,if_false];omega
  rw [e1]
  refine is_addS rfl rfl (by omega) ?_
  rw [show (n:Int)+((min x.length 1000:Nat):Int)=((n+min x.length 1000:Nat):Int) by omega]
  repeat' (first|refine ru_reg ?_|refine isS rfl ?_|refine rkS rfl ?_|refine is_addS rfl rfl (by omega) ?_)
  refine ⟨(i+1,n+min x.length 1000),⟨rfl,rfl⟩,⟨by simp only;omega,by simp only;omega,?_⟩,by simp only;omega⟩
  rw [← h3,drop_cons hx',longF,if_pos (by omega)]
 ·refine end_ofB hA (by first|exact .inl rfl|exact .inr rfl) rfl rfl ?_
  exact (decide_eq_true (.inl (by omega))).symm
 ·refine end_ofB hA (by first|exact .inl rfl|exact .inr rfl) rfl rfl ?_
  refine (decide_eq_true (.inr ?_)).symm
  have:=longF_ge (l.drop i) n
  omega
 ·refine end_ofB hA (by first|exact .inl rfl|exact .inr rfl) rfl rfl ?_
  exact (decide_eq_true (.inl (by omega))).symm
 ·refine end_ofB hA (by first|exact .inl rfl|exact .inr rfl) rfl rfl ?_
  refine (decide_eq_true (.inr ?_)).symm
  have:=longF_ge (l.drop i) n
  omega
 ·refine end_ofB hA (by first|exact .inl rfl|exact .inr rfl) rfl rfl ?_
  refine (decide_eq_false ?_).symm
  have:l.drop i=[]:=List.drop_eq_nil_of_le (by omega)
  rw [this,longF] at h3
  rintro (h|h)<;>omega
def manyQ (l:List Ed):Prop:=(∃ s∈l.take 100,200<s.text.length)∨60<l.length
open Classical in
noncomputable instance (l:List Ed):Decidable (manyQ l):=Classical.propDecidable _
theorem many16_c (l:List Ed) (hb:l.length<9223372036854775808) (hs:∀ s∈l,s.text.length<9223372036854775808) (st:St):S Tb F_quartolaw16_Many [.lit (l.map Ed.av)] st=some (.bool (decide (manyQ l)),st):=by
 refine s_of rfl (fun A hA=>?_)
 repeat' (first|refine ruS rfl ?_|refine isS rfl ?_|refine rk_seq ?_)
 refine ru_loopP (α:=Nat) (fun i=>[(0,.lit (l.map Ed.av)),(3,.int .i64 i)]) (fun p=>⟨A,false,[]⟩) (fun i=>i≤l.length∧i≤100∧∀ j s,j<i→l[j]?=some s→s.text.length≤200) (fun i=>l.length-i) 0 rfl rfl ⟨Nat.zero_le _,Nat.zero_le _,fun j s h=>by omega⟩ ?_
 rintro i ⟨h1,h2,h3⟩
 have key:∀ {j:Nat} {s:Ed},(l.length:Int)≤i∨100≤(i:Int)→s∈l.take 100→s.text.length≤200:=by
  intro j s hi hm
  obtain ⟨j,hj⟩:=List.mem_iff_getElem?.1 hm
  have hj1:=(List.getElem?_eq_some_iff.1 hj).1
  rw [List.length_take] at hj1
  rw [List.getElem?_take,if_pos (by omega)] at hj
  exact h3 j s (by omega) hj
 repeat' (first|refine ruS rfl ?_|refine isS rfl ?_|refine rkS rfl ?_|refine is_lenS rfl ?_|refine is_lenM rfl ?_|refine is_ldl rfl rfl ?_|refine is_ixM rfl rfl (by omega) (fun _=>rfl) (fun _ _=>?_)|(refine is_lss rfl rfl (fun _=>?_) (fun _=>?_)<;>try (exfalso;omega))|(refine is_gtr rfl rfl (fun _=>?_) (fun _=>?_)<;>try (exfalso;omega))|refine is_addS rfl rfl (by omega) ?_)
 ·rename_i hlt hn s hs' hbig
  have hs1:l[i]?=some s:=by rw [show i=((i:Nat):Int).toNat by omega];exact hs'
  refine end_ofB hA (by first|exact .inl rfl|exact .inr rfl) rfl rfl ?_
  refine (decide_eq_true (.inl ⟨s,?_,by omega⟩)).symm
  refine List.mem_iff_getElem?.2 ⟨i,?_⟩
  rw [List.getElem?_take,if_pos (by omega)];exact hs1
 ·rename_i hlt hn s hs' hbig
  have hs1:l[i]?=some s:=by rw [show i=((i:Nat):Int).toNat by omega];exact hs'
  refine ⟨i+1,⟨rfl,rfl⟩,⟨by omega,by omega,fun j s2 hj h=>?_⟩,by omega⟩
  rcases Nat.lt_or_ge j i with q|q
  ·exact h3 j s2 q h
  ·obtain rfl:j=i:=by omega
   rw [hs1] at h
   have:=Option.some.inj h
   subst this
   omega
 ·refine end_ofB hA (by first|exact .inl rfl|exact .inr rfl) rfl rfl ?_
  exact (decide_eq_true (.inr (by omega))).symm
 ·refine end_ofB hA (by first|exact .inl rfl|exact .inr rfl) rfl rfl ?_
  exact (decide_eq_true (.inr (by omega))).symm
 ·refine end_ofB hA (by first|exact .inl rfl|exact .inr rfl) rfl rfl ?_
  refine (decide_eq_false ?_).symm
  rintro (⟨s,h,hh⟩|h)
  ·have:=key (j:=0) (s:=s) (.inl (by omega)) h
   omega
  ·omega
theorem manyQ_no {l:List Ed} (h:¬ manyQ l):l.length≤60∧∀ s∈l,s.text.length≤200:=by
 have h1:l.length≤60:=by
  rcases Nat.lt_or_ge 60 l.length with q|q
  ·exact absurd (.inr q) h
  ·exact q
 refine ⟨h1,fun s hs=>?_⟩
 rcases Nat.lt_or_ge 200 s.text.length with q|q
 ·refine absurd (.inl ⟨s,?_,q⟩) h
  rw [List.take_of_length_le (by omega)];exact hs
 ·exact q
theorem longP_no {l:List (List UInt8)} (h:¬ longP l):l.length≤4∧(l.map List.length).sum≤900:=by
 have h1:¬ 4<l.length:=fun q=>h (.inl q)
 have h2:¬ 900<longF 0 l:=fun q=>h (.inr q)
 have:=longF_sum l 0 (by omega)
 exact ⟨by omega,by omega⟩
end Go.Q15
namespace Go.Q15
open Go Go.QAbs
set_option maxRecDepth 100000
set_option maxHeartbeats 8000000
structure Comp (p:Mea→Int):Prop where
 zero:p .zero=0
 add:∀ x y:Mea,p (x.add y)=p x+p y
 fit:∀ (x:Mea) n,x.Fit n→0≤p x∧p x≤n
theorem comp_b:Comp Mea.b:=⟨rfl,fun _ _=>rfl,fun _ _ h=>⟨h.1,h.2⟩⟩
theorem comp_r:Comp Mea.r:=⟨rfl,fun _ _=>rfl,fun _ _ h=>⟨h.3,h.4⟩⟩
theorem comp_l:Comp Mea.l:=⟨rfl,fun _ _=>rfl,fun _ _ h=>⟨h.5,h.6⟩⟩
def skipK (p:Mea→Int):List Kid→Int→Nat × Int
 | [],a=>(0,a)
 | k::l,a=>if a<p k.m then (0,a) else ((skipK p l (a-p k.m)).1+1,(skipK p l (a-p k.m)).2)
def sumK (p:Mea→Int) (ks:List Kid) (i:Nat):Int:=p (sumM ((ks.take i).map Kid.m))
theorem sumK_succ {p:Mea→Int} (hp:Comp p) {ks:List Kid} {i:Nat} {k:Kid} (h:ks[i]?=some k):sumK p ks (i+1)=sumK p ks i+p k.m:=by
 unfold sumK
 rw [take_succ_get h,List.map_append,sumM_append,hp.add]
 simp [sumM,hp.add,hp.zero]
theorem skipK_ok {p:Mea→Int} (hp:Comp p):∀ (ks:List Kid) (a:Int),(∀ k∈ks,k.m.Fit 65536)→0≤a→a<p (sumM (ks.map Kid.m)) →
 (skipK p ks a).1<ks.length∧(skipK p ks a).2=a-sumK p ks (skipK p ks a).1∧0≤(skipK p ks a).2∧∀ k,ks[(skipK p ks a).1]?=some k→(skipK p ks a).2<p k.m:=by
 intro ks
 induction ks with
 | nil=>intro a _ h0 h1;simp only [List.map_nil,sumM,hp.zero] at h1;omega
 | cons k l ih =>
  intro a hf h0 h1
  simp only [List.map_cons,sumM,hp.add] at h1
  rw [skipK]
  by_cases q:a<p k.m
  ·rw [if_pos q]
   refine ⟨by simp,by simp [sumK,sumM,hp.zero],h0,fun z hz=>?_⟩
   simp at hz;subst hz;exact q
  ·rw [if_neg q]
   obtain ⟨i1,i2,i3,i4⟩:=ih (a-p k.m) (fun z hz=>hf z (List.mem_cons_of_mem _ hz)) (by omega) (by omega)
   refine ⟨by simp;omega,?_,i3,fun z hz=>i4 z (by simpa using hz)⟩
   simp only
   rw [i2]
   show _=a-p (sumM (((k::l).take (_+1)).map Kid.m))
   rw [List.take_succ_cons,List.map_cons,sumM,hp.add]
   unfold sumK
   omega
theorem skipK_drop {p:Mea→Int} {ks:List Kid} {i:Nat} {k:Kid} (h:ks[i]?=some k) (a:Int):skipK p (ks.drop i) a=if a<p k.m then (0,a) else ((skipK p (ks.drop (i+1)) (a-p k.m)).1+1,(skipK p (ks.drop (i+1)) (a-p k.m)).2):=by
 rw [drop_cons h,skipK]
def TellsM (g:FuncId) (p:Mea→Int):Prop:=∀ m st,S Tb g [Mea.av m] st=some (.int .i64 (p m),st)
theorem choose_c {g:FuncId} {p:Mea→Int} (hg:TellsM g p) (hp:Comp p) (n:Nat) (ks:List Kid) (hx:NdOk ⟨n+1,[],some ks⟩) (a:Int) (h0:0≤a) (h1:a<p (sumM (ks.map Kid.m))) (hb:a≤1000000) (st:St) :
 S Tb F_node_choose [Nd.av ⟨n+1,[],some ks⟩,.int .i64 a,.func (.func g) [] []] st=some (.tup [.int .i64 (skipK p ks a).1,.int .i64 (skipK p ks a).2,.int .i64 0],st):=by
 refine s_of rfl (fun A hA=>?_)
 have hCk:=fun st=>nCheck_c ⟨n+1,[],some ks⟩ hx st
 have hin:(∀ k∈ks,k.m.Fit 65536)∧ks.length≤4∧n≤15:=by
  rcases hx with q|⟨m,l,q⟩
  ·have:=q.h;simp at this
  ·have e:=q.eq
   simp only [Nd.mk.injEq,true_and,oJ] at e
   obtain ⟨e1,e2⟩:=e
   subst e2
   have:=q.n15
   exact ⟨fun k hk=>(q.kid k hk).fit,q.hi,by omega⟩
 obtain ⟨hf,hl4,hn15⟩:=hin
 obtain ⟨s1,s2,s3,s4⟩:=skipK_ok hp ks a hf h0 h1
 simp only [Nd.av,slV] at hCk ⊢
 repeat' (first|refine ruS rfl ?_|refine isS rfl ?_|refine is_ldc rfl rfl rfl rfl ?_|refine rk_seq ?_|refine is_lenM rfl ?_|(refine is_lss rfl rfl (fun _=>?_) (fun _=>?_)<;>try (exfalso;omega))|(refine is_eql rfl rfl (fun _=>?_) (fun _=>?_)<;>try (exfalso;omega))|(refine is_neq rfl rfl (fun _=>?_) (fun _=>?_)<;>try (exfalso;omega))|refine is_box rfl rfl rfl ?_|refine is_callE rfl rfl rfl (hCk _) ?_)
 all_goals try contradiction
 all_goals try (exfalso;omega)
 refine ru_loopP (α:=Nat × Int × List Blk) (fun q=>[(1,.int .i64 q.2.1),(2,.func (.func g) [] []),(23,.lit (ks.map Kid.av)),(24,.int .i64 ks.length),(25,.int .i64 q.1)])
  (fun q=>⟨A,false,.arr 3 0 [.agg [.int .i64 ((n+1:Nat):Int),.str [],.lit (ks.map Kid.av)]]::q.2.2⟩) (fun q=>q.1≤ks.length∧0≤q.2.1∧q.2.1≤a∧q.1≤(skipK p ks a).1∧skipK p ks a=((skipK p (ks.drop q.1) q.2.1).1+q.1,(skipK p (ks.drop q.1) q.2.1).2)) (fun q=>ks.length-q.1) (0,a,[]) rfl rfl ⟨Nat.zero_le _,h0,Int.le_refl _,Nat.zero_le _,rfl⟩ ?_
 rintro ⟨i,b,G⟩ ⟨hi,hb0,hba,hle,he⟩
 simp only at hi hb0 hba hle he ⊢
 rcases Nat.lt_or_ge i ks.length with hlt|hge
 ·obtain ⟨k,hk⟩:∃ k,ks[i]?=some k:=⟨ks[i]'hlt,List.getElem?_eq_getElem _⟩
  have q:0≤((i:Nat):Int)∧ks[((i:Nat):Int).toNat]?=some k:=⟨by omega,by rw [show ((i:Nat):Int).toNat=i by omega];exact hk⟩
  have hgm:=fun st=>hg k.m st
  obtain ⟨f1,f2⟩:=hp.fit k.m _ (hf k (List.mem_of_getElem? hk))
  have hd:=skipK_drop (p:=p) hk b
  obtain ⟨ka,km⟩:=k
  simp only at hgm f1 f2 hd
  unfold Mea.av at hgm
  generalize hpm:p km=z at *
  simp only [Kid.av] at *
  rcases Int.lt_or_le b z with hz|hz
  ·rw [if_pos hz] at hd
   rw [hd] at he
   rw [he]
   have e1:(((0+i:Nat)):Int)=i:=by omega
   simp only [e1]
   repeat' (first|refine is_ixKn (f:=Kid.av) rfl rfl q (fun _=>rfl) ?_|refine ruS rfl ?_|refine isS rfl ?_|refine rkS rfl ?_|refine is_ldT rfl rfl rfl ?_|refine is_ldl rfl rfl ?_|(refine is_lss rfl rfl (fun _=>?_) (fun _=>?_)<;>try (exfalso;omega))|refine is_boxG rfl rfl rfl ?_|refine is_stT rfl rfl rfl rfl rfl rfl ?_|refine is_callE rfl rfl rfl (hgm _) ?_)
   all_goals try contradiction
   all_goals try (exfalso;omega)
   refine end_st hA (by first|exact .inl rfl|exact .inr rfl) rfl rfl rfl rfl ?_
   rfl
  ·rw [if_neg (by omega)] at hd
   repeat' (first|refine is_ixKn (f:=Kid.av) rfl rfl q (fun _=>rfl) ?_|refine ruS rfl ?_|refine isS rfl ?_|refine rkS rfl ?_|refine is_ldT rfl rfl rfl ?_|refine is_ldl rfl rfl ?_|(refine is_lss rfl rfl (fun _=>?_) (fun _=>?_)<;>try (exfalso;omega))|refine is_addS rfl rfl (by omega) ?_|refine is_subS rfl rfl (by omega) ?_|refine is_boxG rfl rfl rfl ?_|refine is_stT rfl rfl rfl rfl rfl rfl ?_|refine is_callE rfl rfl rfl (hgm _) ?_)
   all_goals try contradiction
   all_goals try (exfalso;omega)
   refine ⟨(i+1,b-z,G++[.arr 4 0 [Kid.av ⟨ka,km⟩]]),⟨rfl,rfl⟩,⟨by simp only;omega,by simp only;omega,by simp only;omega,?_,?_⟩,by simp only;omega⟩
   ·simp only;rw [he,hd];simp only;omega
   ·simp only;rw [he,hd];simp only;congr 1;omega
 ·exfalso
  omega
end Go.Q15
namespace Go.Q15
open Go Go.QAbs
set_option maxRecDepth 100000
set_option maxHeartbeats 8000000
end Go.Q15
namespace Go.Q15
open Go Go.QAbs
set_option maxRecDepth 100000
set_option maxHeartbeats 8000000
theorem eqvRo (a b c d f x y z u v:Int):eqV [(0,0),(1,0),(2,0),(3,0),(4,0)] 0 (.agg [.int .u64 a,.int .i64 b,.int .i64 c,.int .i64 d,.int .i64 f]) (.agg [.int .u64 x,.int .i64 y,.int .i64 z,.int .i64 u,.int .i64 v])=some (decide (a=x∧b=y∧c=z∧d=u∧f=v)):=by
 show (if decide (a=x)=true then (if decide (b=y)=true then (if decide (c=z)=true then (if decide (d=u)=true then (if decide (f=v)=true then some true else some false) else some false) else some false) else some false) else some false)=_
 by_cases h1:a=x<;>by_cases h2:b=y<;>by_cases h3:c=z<;>by_cases h4:d=u<;>by_cases h5:f=v<;>simp [h1,h2,h3,h4,h5]
theorem sCheck_c {st:St} {la b:Nat} {N:Nodes} (hR:Rd st la (b+5) N) {r:Ro} (hr:RtOk N r):S Tb F_seek_check [.ptr la (b+5) 0 0 0,r.av] st=some (.int .i64 0,st):=by
 refine s_of rfl (fun A hA=>?_)
 rcases hr with rfl|⟨h0,x,h1,h2,h3,h4⟩
 ·repeat' (first|refine ruS rfl ?_|refine isS rfl ?_|refine is_ldc rfl rfl rfl rfl ?_|refine rkS rfl ?_|refine is_buildO rfl rfl rfl ?_|refine is_eqs rfl rfl rfl rfl ?_|refine is_box rfl rfl rfl ?_)
  all_goals try contradiction
  all_goals refine end_st hA (by first|exact .inl rfl|exact .inr rfl) rfl rfl rfl rfl ?_
  all_goals rfl
 ·have hG:=fun L=>Get_c (hR.push hA (ro:=false) (L:=L)) h1 h2.len
  have hok:NdOk x.copy:=by
   rcases h2 with q|⟨n,ks,q⟩
   ·left;exact ⟨q.h,q.lo,q.hi,q.ks⟩
   ·right;have e:=q.eq;subst e;exact ⟨n,ks,q⟩
  have hMe:=fun st=>nMeasure_c x.copy hok st
  have hm:x.copy.mea=x.mea:=rfl
  have hh:x.copy.h=x.h:=rfl
  rw [hm,h4] at hMe
  have h0i:((r.at_:Nat):Int)≠0:=by omega
  have hne:¬ ((r.at_:Int)=0∧(r.h:Int)=0∧r.m.b=0∧r.m.r=0∧r.m.l=0):=fun q=>h0i q.1
  obtain ⟨ra,rh,rm⟩:=r
  simp only at h0 h1 h3 h4 hMe h0i hne
  have hcp:x.copy.av=.agg [.int .i64 x.h,.str x.text,.lit (x.ks.map Kid.av)]:=rfl
  rw [hcp] at hG hMe
  generalize x.ks=yk at *
  obtain rfl:x.h=rh:=h3
  unfold Ro.av Mea.av at *
  simp only at *
  repeat' (first|refine ruS rfl ?_|refine isS rfl ?_|refine is_ldc rfl rfl rfl rfl ?_|refine rkS rfl ?_|(refine is_eql rfl rfl (fun _=>?_) (fun _=>?_)<;>try (exfalso;omega))|(refine is_neq rfl rfl (fun _=>?_) (fun _=>?_)<;>try (exfalso;omega))|refine is_buildO rfl rfl rfl ?_|refine is_eqs rfl rfl rfl rfl ?_|refine is_box rfl rfl rfl ?_|refine is_stb rfl rfl rfl rfl rfl rfl ?_|refine is_callE rfl rfl rfl (hG _) ?_|refine is_callE rfl rfl rfl (hMe _) ?_|(refine is_eqsB rfl rfl (eqv3 _ _ _ _ _ _) (fun _=>?_) (fun _=>?_))|(refine is_eqsB rfl rfl (eqvRo _ _ _ _ _ _ _ _ _ _) (fun _=>?_) (fun _=>?_)))
  all_goals try contradiction
  all_goals try (exfalso;omega)
  all_goals first|exact absurd ‹_› hne|(refine end_st hA (by first|exact .inl rfl|exact .inr rfl) rfl rfl rfl rfl ?_;rfl)|exact absurd (And.intro rfl (And.intro rfl rfl)) ‹_›
theorem childC1_c:TellsM F_node_ChildC1 Mea.b:=fun m st=>by
 refine s_of rfl (fun A hA=>?_)
 unfold Mea.av
 repeat' (first|refine ruS rfl ?_|refine isS rfl ?_|refine is_ldc rfl rfl rfl rfl ?_|refine rkS rfl ?_|refine is_box rfl rfl rfl ?_)
 refine end_st hA (by first|exact .inl rfl|exact .inr rfl) rfl rfl rfl rfl ?_
 rfl
theorem Child_c (n:Nat) (ks:List Kid) (hx:NdOk ⟨n+1,[],some ks⟩) (a:Int) (h0:0≤a) (h1:a<(sumM (ks.map Kid.m)).b) (hb:a≤1000000) (st:St) :
 S Tb F_node_Child [Nd.av ⟨n+1,[],some ks⟩,.int .i64 a] st=some (.tup [.int .i64 (skipK Mea.b ks a).1,.int .i64 (skipK Mea.b ks a).2,.int .i64 0],st):=by
 refine s_of rfl (fun A hA=>?_)
 have hC:=fun st=>choose_c childC1_c comp_b n ks hx a h0 h1 hb st
 unfold Nd.av at *
 simp only [slV] at *
 repeat' (first|refine ruS rfl ?_|refine isS rfl ?_|refine is_ldc rfl rfl rfl rfl ?_|refine rkS rfl ?_|refine is_box rfl rfl rfl ?_|refine is_callE rfl rfl rfl (hC _) ?_)
 refine end_st hA (by first|exact .inl rfl|exact .inr rfl) rfl rfl rfl rfl ?_
 rfl
end Go.Q15
namespace Go.Q15
open Go Go.QAbs
set_option maxRecDepth 100000
set_option maxHeartbeats 8000000
structure Pass (σ:Int→St) (q:Mea→Int) (g:FuncId) (caps:List AV) (N:Nat):Prop where
 comp:Comp q
 len:∀ s,(σ s).ps.length=N
 call:∀ s m L,0≤s→s≤1000000000→m.Fit 65536→∃ v,S Tb g ([Mea.av m]++caps) ⟨(σ s).ps,false,L⟩=some (v,⟨(σ (s+q m)).ps,false,L⟩)
 wk:∀ m,forceL (weaks ([]++[Mea.av m]++caps))=some ([Mea.av m]++caps)
theorem is_kslc {O:Orc} {k:List Fr} {Q:Post} {e:Env} {st:St} {keep:List Nat} {is:List QAbs.PI} {d:Nat} {x b:Opd} {ks:List Kid} {i:Nat} (hx:opdO e x=some (.lit (ks.map Kid.av))) (hb:opdO e b=some (.int .i64 i)) (hi:i≤ks.length)
 (h:Is O is keep k Q ((d,.lit ((ks.take i).map Kid.av))::e) st):Is O (⟨some d,none,false,.slc 4 x none (some b)⟩::is) keep k Q e st:=by
 refine is_slcL_hi hx hb ⟨by omega,by simp;omega⟩ (kids_wide _) ?_
 rw [show ((i:Nat):Int).toNat=i by omega,← List.map_take]
 exact h
theorem pass_loop {σ:Int→St} {q:Mea→Int} {g:FuncId} {caps:List AV} {N:Nat} (hp:Pass σ q g caps N) {ks:List Kid} {L:List Blk} {v0 v3 v10 v12 v14 v16 v17:AV} (s0:Int) {A0:List (Bool × List Blk)} (hA0:A0=(σ s0).ps) {k:List Fr} {Q:Post}
 (hQ:∀ G,Rk (S Tb) k Q .norm [(0,v0),(3,v3),(4,.func (.func g) [] caps),(10,v10),(12,v12),(14,v14),(16,v16),(17,v17),(63,.lit (ks.map Kid.av)),(64,.int .i64 ks.length),(65,.int .i64 ks.length),(66,.bool false)] ⟨(σ (s0+q (sumM (ks.map Kid.m)))).ps,false,L++G⟩) (hl:ks.length<100) (hs0:0≤s0∧s0≤900000000) (hfit:∀ k∈ks,k.m.Fit 65536) :
 Ru (S Tb) p_seek_walk_18.loop (.blk 2::k) Q [(0,v0),(3,v3),(4,.func (.func g) [] caps),(10,v10),(12,v12),(14,v14),(16,v16),(17,v17),(63,.lit (ks.map Kid.av)),(64,.int .i64 ks.length),(65,.int .i64 0)] ⟨A0,false,L⟩:=by
 subst hA0
 refine ru_loopP (α:=Nat × List Blk) (fun p=>[(0,v0),(3,v3),(4,.func (.func g) [] caps),(10,v10),(12,v12),(14,v14),(16,v16),(17,v17),(63,.lit (ks.map Kid.av)),(64,.int .i64 ks.length),(65,.int .i64 p.1)])
  (fun p=>⟨(σ (s0+sumK q ks p.1)).ps,false,L++p.2⟩) (fun p=>p.1≤ks.length) (fun p=>ks.length-p.1) (0,[]) rfl (by simp [sumK,sumM,hp.comp.zero]) (Nat.zero_le _) ?_
 rintro ⟨i,G⟩ hi
 simp only at hi ⊢
 rcases Nat.lt_or_ge i ks.length with hlt|hge
 ·obtain ⟨kd,hk⟩:∃ k,ks[i]?=some k:=⟨ks[i]'hlt,List.getElem?_eq_getElem _⟩
  have qk:0≤((i:Nat):Int)∧ks[((i:Nat):Int).toNat]?=some kd:=⟨by omega,by rw [show ((i:Nat):Int).toNat=i by omega];exact hk⟩
  have hsu:=sumK_succ hp.comp hk
  have hsf:=hp.comp.fit _ _ (sumM_fit (l:=(ks.take i).map Kid.m) (fun m hm=>by obtain ⟨z,hz,rfl⟩:=List.mem_map.1 hm;exact hfit z (List.mem_of_mem_take hz)))
  rw [List.length_map,List.length_take,Nat.min_eq_left hi] at hsf
  change 0≤sumK q ks i∧sumK q ks i≤_ at hsf
  obtain ⟨v,hc⟩:=hp.call (s0+sumK q ks i) kd.m (L++G++[.arr 4 0 [kd.av]]) (by omega) (by omega) (hfit kd (List.mem_of_getElem? hk))
  have hwk:=hp.wk kd.m
  have hG:L++G++[.arr 4 0 [kd.av]]=L++(G++[.arr 4 0 [kd.av]]):=List.append_assoc ..
  rw [show s0+sumK q ks i+q kd.m=s0+sumK q ks (i+1) by omega] at hc
  generalize hG3:L++(G++[.arr 4 0 [kd.av]])=L3 at *
  generalize hA1:(σ (s0+sumK q ks i)).ps=A1 at *
  obtain ⟨ka,km⟩:=kd
  unfold Kid.av Mea.av at *
  simp only at *
  repeat' (first|refine is_ixKn (f:=Kid.av) rfl rfl qk (fun _=>rfl) ?_|refine is_callE rfl rfl hwk hc ?_|refine ruS rfl ?_|refine isS rfl ?_|refine rkS rfl ?_|refine is_ldT rfl rfl rfl ?_|refine is_ldl rfl rfl ?_|(refine is_lss rfl rfl (fun _=>?_) (fun _=>?_)<;>try (exfalso;omega))|refine is_addS rfl rfl (by omega) ?_|refine is_boxG rfl rfl rfl ?_|refine is_stT rfl rfl rfl rfl rfl rfl ?_)
  all_goals try contradiction
  all_goals try (exfalso;omega)
  refine ⟨(i+1,G++[.arr 4 0 [Kid.av ⟨ka,km⟩]]),⟨rfl,?_⟩,by simp only;omega,by simp only;omega⟩
  simp only
  rw [← hG3] at hG
  exact congrArg (St.mk _ false) hG
 ·obtain rfl:i=ks.length:=by omega
  repeat' (first|refine ruS rfl ?_|refine is_nil rfl ?_|refine rkS rfl ?_|(refine is_lss rfl rfl (fun _=>?_) (fun _=>?_)<;>try (exfalso;omega)))
  all_goals try (exfalso;omega)
  unfold sumK
  rw [List.take_length]
  exact hQ G
end Go.Q15
namespace Go.Q15
open Go Go.QAbs
set_option maxRecDepth 100000
set_option maxHeartbeats 8000000
theorem is_hideIx {O:Orc} {k:List Fr} {Q:Post} {e:Env} {st:St} {keep:List Nat} {is:List QAbs.PI} {d:Nat} {α:Type} {f:α→AV} {l:List α} {w:Nat} {x i:Opd} {bs:List Opd} {n:Int} {a:α} (hx:opdO e x=some (.lit (l.map f))) (hi:opdO e i=some (.int .i64 n)) (ha:0≤n∧l[n.toNat]?=some a) (hw:(f a).wide=some w)
 (h:Is O is keep k Q ((d,.lptr (f a) 0)::e) st):Is O (⟨some d,none,false,.w (.hide bs) (.ixS w x i)⟩::is) keep k Q e st:=by
 have hlt:=(List.getElem?_eq_some_iff.1 ha.2).1
 have hn:0≤n∧n<((l.map f).length:Nat):=by rw [List.length_map];omega
 have hv:(l.map f)[n.toNat]?=some (f a):=by rw [List.getElem?_map,ha.2];rfl
 exact is_w (st':=st) (by simp only [evalW,PO.reads,if_true,evalPO,opdO_some hx,opdO_some hi,ixSV,indexOf,if_pos hn,hv,if_pos hw,oS,ret1,pureK]) h
theorem is_hideLdl {O:Orc} {k:List Fr} {Q:Post} {e:Env} {st:St} {keep:List Nat} {is:List QAbs.PI} {d:Nat} {n:Nat} {a:Opd} {bs:List Opd} {x:AV} {o:Nat} {v:AV} {agg:Bool} (ha:opdO e a=some (.lptr x o)) (hv:partOf x agg o n=some v) (h:Is O is keep k Q ((d,v)::e) st):Is O (⟨some d,none,false,.w (.hide bs) (.ld agg n a)⟩::is) keep k Q e st :=
 is_w (st':=st) (by simp only [evalW,PO.reads,if_true,evalPO,opdO_some ha,loadP,hv,oS,ret1,pureK]) h
def PathOk (M:Nat) (G:List Blk) (pv:AV) (path:List Nat):Prop:=(path=[]∧pv=.nils)∨∃ j ver,pv=.ref M (j+3) ver 0 path.length∧G[j]?=some (.arr 1 ver (path.map hnAV))
theorem walk_path {A:List (Bool × List Blk)} {b0 b1 box:Blk} {s:List UInt8} {z:Int} {pv v0 v3 v4 v10 v14 v15 v31:AV} {path:List Nat} {o:Nat} {G:List Blk} {k:List Fr} {Q:Post} (hP:PathOk A.length G pv path) (hl:path.length<100)
 (h:∀ G' pv',PathOk A.length G' pv' (path++[o])→G'[G.length]?=some box→Rk (S Tb) k Q .norm [(0,v0),(3,v3),(4,v4),(10,v10),(12,.ptr A.length 2 0 0 0),(14,v14)] ⟨A,false,b0::b1::.arr 3 0 [.agg [.str s,.int .i64 z,pv']]::G'⟩) :
 Ru (S Tb) p_seek_walk_6 k Q [(0,v0),(3,v3),(4,v4),(10,v10),(12,.ptr A.length 2 0 0 0),(13,.int .u64 o),(14,v14),(15,v15),(31,v31)] ⟨A,false,b0::b1::.arr 3 0 [.agg [.str s,.int .i64 z,pv]]::(G++[box])⟩:=by
 rcases hP with ⟨rfl,rfl⟩|⟨j,ver,rfl,hg⟩
 ·repeat' (first|refine ru_reg ?_|refine isS rfl ?_|refine is_ldc rfl rfl rfl rfl ?_|refine is_bslFO rfl rfl rfl rfl ?_)
  refine is_appNilG (vx:=.lit [.int .u64 o]) (ys:=[.int .u64 o]) (bytes:=8) rfl rfl rfl (by simp) (by decide) rfl ?_
  repeat' (first|refine isS rfl ?_|refine is_stn rfl rfl rfl rfl (seal_refL _ (Nat.lt_succ_self _)) rfl ?_)
  refine h (G++[box]++[.arr 1 0 [.int .u64 o]]) _ (.inr ⟨(G++[box]).length,0,?_,List.getElem?_concat_length ..⟩) ?_
  ·rfl
  ·rw [List.getElem?_append_left (by simp)];exact List.getElem?_concat_length ..
 ·have hj:=(List.getElem?_eq_some_iff.1 hg).1
  have hg2:(b0::b1::Blk.arr 3 0 [.agg [.str s,.int .i64 z,.ref A.length (j+3) ver 0 path.length]]::(G++[box]))[j+3]?=some (.arr 1 ver (path.map hnAV)):=by
   show (G++[box])[j]?=_
   rw [List.getElem?_append_left hj];exact hg
  repeat' (first|refine ru_reg ?_|refine isS rfl ?_|refine is_ldc rfl rfl rfl rfl ?_|refine is_bslFO rfl rfl rfl rfl ?_)
  refine is_appG (es:=path.map hnAV) (ys:=[.int .u64 o]) rfl rfl hg2 (by rw [List.length_map]) rfl rfl (by simp;omega) (by decide) ?_
  repeat' (first|refine isS rfl ?_|refine is_stn rfl rfl rfl rfl (seal_refL _ (Nat.lt_succ_self _)) rfl ?_)
  refine h ((G++[box]).set j (.arr 1 (ver+1) (path.map hnAV++[.int .u64 o]))) (.ref A.length (j+3) (ver+1) 0 (path.length+1)) (.inr ⟨j,ver+1,by simp,?_⟩) ?_
  ·rw [List.getElem?_set_self (by simp;omega),List.map_append];rfl
  ·rw [List.getElem?_set_ne (by omega)];exact List.getElem?_concat_length ..
theorem seal_sir {b lv ix ver q n:Nat} {z:Int} {s:List UInt8} (st:St) (hl:lv<b):sealV deep b st (.agg [.str s,.int .i64 z,.ref lv ix ver q n])=some (.agg [.str s,.int .i64 z,.ref lv ix ver q n],st):=by
 show (mapSt (keepN (sealV 5 b)) _ _).bind aggK=_
 simp only [mapSt,keepN,isNils,Bool.false_eq_true,if_false,sealV,oS,if_pos hl,consK,aggK]
theorem seal_sk {A:List (Bool × List Blk)} {L:List Blk} {ix ver n:Nat} {s:List UInt8} {z z2:Int} {l:List Nat} (hg:L[ix]?=some (.arr 1 ver (l.map hnAV))) (hn:n=l.length) :
 sealV deep A.length ⟨A,false,L⟩ (.tup [.agg [.str s,.int .i64 z,.ref A.length ix ver 0 n],.int .i64 z2])=some (.tup [.agg [.str s,.int .i64 z,.lit (l.map hnAV)],.int .i64 z2],⟨A,false,L.set ix .dead⟩):=by
 subst hn
 have h1:=seal_refO (n:=3) (A:=A) (s:=0) (m:=l.length) hg (by simp) (es':=l.map hnAV) (by
  rw [List.drop_zero,List.take_of_length_le (by simp)]
  exact ints_seal (k:=.u64) (fun n:Nat=>(n:Int)) 2 0 _ l)
 show (mapSt (sealV 5 A.length) _ _).bind tupK=_
 have h2:sealV 5 A.length ⟨A,false,L⟩ (.agg [.str s,.int .i64 z,.ref A.length ix ver 0 l.length])=some (.agg [.str s,.int .i64 z,.lit (l.map hnAV)],⟨A,false,L.set ix .dead⟩):=by
  show (mapSt (keepN (sealV 4 A.length)) _ _).bind aggK=_
  simp only [mapSt,keepN,isNils,Bool.false_eq_true,if_false,oS]
  simp only [sealV,oS] at h1 ⊢
  simp only [h1,oS,consK,aggK]
 simp only [mapSt,h2,oS]
 rfl
theorem end_sk {e:Env} {A:List (Bool × List Blk)} {st:St} {L:List Blk} {x:Ex} {c4 c5 j4 w4 v4 ix ver n:Nat} {s:List UInt8} {z z2:Int} {l:List Nat} (hA:A=st.A++[(st.ro,st.L)]) (hx:x=.norm∨x=.ret) (h4:lookO e c4=some (.ptr A.length j4 v4 0 0)) (hg4:L[j4]?=some (.arr w4 v4 [.agg [.str s,.int .i64 z,.ref A.length ix ver 0 n]]))
 (hg:L[ix]?=some (.arr 1 ver (l.map hnAV))) (hn:n=l.length) (h5:lookO e c5=some (.int .i64 z2)):endK false [.c c4 true 3,.s c5] (x,e,⟨A,false,L⟩)=some (.tup [.agg [.str s,.int .i64 z,.lit (l.map hnAV)],.int .i64 z2],st):=by
 refine end_of (v:=.tup [.agg [.str s,.int .i64 z,.ref A.length ix ver 0 n],.int .i64 z2]) hA hx ?_ (seal_sk hg hn) rfl
 have h1:resV ⟨A,false,L⟩ e (.c c4 true 3)=some (.agg [.str s,.int .i64 z,.ref A.length ix ver 0 n]):=by
  simp only [resV,lookO_some h4,loadP,St.get_cur,hg4,vis,loadB,if_true,List.getElem?_cons_zero,oS]
  rfl
 simp only [result,resL,h1,oS]
 simp only [resV,lookO_some h5,oS,Option.map_some,tupOf]
end Go.Q15
namespace Go.QAbs
section
variable {O:Orc} {k:List Fr} {Q:Post} {e:Env} {A:List (Bool × List Blk)} {L:List Blk} {keep:List Nat} {is:List PI} {d:Nat} {st:St}
theorem is_plain {a x b:Opd} {n lv ix v1 i1 o1 v2 i2 o2:Nat} {vx:AV} (ha:opdO e a=some (.ptr lv ix v1 i1 o1)) (hb:opdO e b=some (.ptr lv ix v2 i2 o2)) (hx:opdO e x=some vx) (hi:imm 6 vx=true)
 (h:Is O (⟨none,none,false,.st n a x⟩::is) keep k Q e st):Is O (⟨none,none,false,.w (.plain b) (.st n a x)⟩::is) keep k Q e st:=by
 refine is_same ?_ h
 have hs:sameBlk (.ptr lv ix v1 i1 o1) (.ptr lv ix v2 i2 o2)=true:=by simp [sameBlk]
 simp only [evalPI,evalW,plainW,opdO_some ha,opdO_some hb,opdO_some hx,hs,hi,and_self,if_true]
end
end Go.QAbs
namespace Go.Q15
open Go Go.QAbs
set_option maxRecDepth 100000
set_option maxHeartbeats 8000000
structure NextOk (f:FuncId) (ch:List Kid→Int→Nat × Int) (D:Mea→Int→Prop):Prop where
 call:∀ n ks,NdOk ⟨n+1,[],some ks⟩→∀ a,D (sumM (ks.map Kid.m)) a→∀ st,S Tb f [Nd.av ⟨n+1,[],some ks⟩,.int .i64 a] st=some (.tup [.int .i64 (ch ks a).1,.int .i64 (ch ks a).2,.int .i64 0],st)
 ok:∀ ks a,(∀ k∈ks,k.m.Fit 65536)→D (sumM (ks.map Kid.m)) a→(ch ks a).1<ks.length∧∀ k,ks[(ch ks a).1]?=some k→D k.m (ch ks a).2
theorem child_ok:NextOk F_node_Child (skipK Mea.b) (fun m a=>0≤a∧a<m.b∧m.b≤1000000) where
 call n ks hx a ha st:=Child_c n ks hx a ha.1 ha.2.1 (by omega) st
 ok ks a hf ha:=by
  obtain ⟨h1,h2,h3,h4⟩:=skipK_ok comp_b ks a hf ha.1 ha.2.1
  exact ⟨h1,fun k hk=>⟨h3,h4 k hk,by have:=(hf k (List.mem_of_getElem? hk)).2;omega⟩⟩
def seekF (ch:List Kid→Int→Nat × Int) (q:Mea→Int) (N:Nodes):Nat→Nat→Int→(List UInt8 × Int) × List Nat × Int
 | 0,o,a=>(((ndAt N o).text,a),[o],0)
 | n+1,o,a =>
  let c:=ch (ndAt N o).ks a
  let r:=seekF ch q N n (((ndAt N o).ks[c.1]?.map Kid.at_).getD 0) c.2
  (r.1,o::r.2.1,sumK q (ndAt N o).ks c.1+r.2.2)
structure WkS where
 n:Nat
 o:Nat
 a:Int
 s:Int
 path:List Nat
 pv:AV
 G:List Blk
structure WkInv (N:Nodes) (D:Mea→Int→Prop) (M:Nat) (p:WkS) (ch:List Kid→Int→Nat × Int) (q:Mea→Int) (s0:Int) (R:(List UInt8 × Int) × List Nat × Int):Prop where
 nd:∃ x,lk N p.o=some x∧NdOk x∧x.h=p.n∧D x.mea p.a
 path:PathOk M p.G p.pv p.path
 len:p.path.length+p.n<100
 sb:0≤p.s∧p.s≤1000+300000*p.path.length
 res:R=((seekF ch q N p.n p.o p.a).1,p.path++(seekF ch q N p.n p.o p.a).2.1,p.s-s0+(seekF ch q N p.n p.o p.a).2.2)
theorem skWalk_c {σ:Int→St} {q:Mea→Int} {g f:FuncId} {caps:List AV} {M:Nat} (hp:Pass σ q g caps M) {ch:List Kid→Int→Nat × Int} {D:Mea→Int→Prop} (hf:NextOk f ch D) {N:Nodes} (hN:GoodN N) {la b:Nat} (hR:∀ s,Rd (σ s) la (b+5) N) {r:Ro} (hr:RtOk N r) (h0:r.at_≠0) (a:Int) (ha:D r.m a) (s0:Int) (hs0:0≤s0∧s0≤1000) :
 S Tb F_seek_walk [.ptr la (b+5) 0 0 0,r.av,.int .i64 a,.func (.func f) [] [],.func (.func g) [] caps] (σ s0)=some (.tup [.agg [.str (seekF ch q N r.h r.at_ a).1.1,.int .i64 (seekF ch q N r.h r.at_ a).1.2,.lit ((seekF ch q N r.h r.at_ a).2.1.map hnAV)],.int .i64 0],σ (s0+(seekF ch q N r.h r.at_ a).2.2)):=by
 refine s_ofW rfl (fun A hA=>?_)
 obtain ⟨x0,x1,x2,x3,x4⟩:∃ x,lk N r.at_=some x∧NdOk x∧x.h=r.h∧x.mea=r.m:=by
  rcases hr with rfl|w
  ·exact absurd rfl h0
  ·exact w.2
 have h13:=hr.h13 hN
 have hM:=hp.len s0
 obtain ⟨R,hRes⟩:∃ R,R=seekF ch q N r.h r.at_ a:=⟨_,rfl⟩
 rw [← hRes]
 have hA':A=(σ s0).ps:=hA
 have hAM:A.length=M:=by rw [hA'];exact hM
 unfold Ro.av
 repeat' (first|refine is_boxG rfl rfl rfl ?_|refine ruS rfl ?_|refine isS rfl ?_|refine is_ldc rfl rfl rfl rfl ?_|refine rk_seq ?_|refine is_buildO rfl rfl rfl ?_|refine is_stT rfl rfl rfl rfl rfl rfl ?_)
 rw [hAM,hA']
 refine ru_loopP (α:=WkS) (fun p=>[(0,.ptr la (b+5) 0 0 0),(3,.func (.func f) [] []),(4,.func (.func g) [] caps),(10,.ptr M 1 0 0 0),(12,.ptr M 2 0 0 0),(13,.int .u64 p.o)])
  (fun p=>⟨(σ p.s).ps,false,.arr 5 0 [r.av]::.arr 3 0 [.agg [.str [],.int .i64 0,.nils]]::.arr 3 0 [.agg [.str [],.int .i64 p.a,p.pv]]::p.G⟩)
  (fun p=>WkInv N D M p ch q s0 R) (fun p=>p.n) ⟨r.h,r.at_,a,s0,[],.nils,[]⟩ rfl rfl ⟨⟨x0,x1,x2,x3,by rw [x4];exact ha⟩,.inl ⟨rfl,rfl⟩,by simp only [List.length_nil];omega,by simp only [List.length_nil];omega,by rw [hRes];simp⟩ ?_
 rintro ⟨n,o,a,s,path,pv,G⟩ hI
 obtain ⟨⟨x,y1,y2,y3,y4⟩,hPa,hln,hsb,hres⟩:=hI
 simp only at y1 y3 y4 hPa hln hsb hres ⊢
 have hG:=fun L=>Get_c ((hR s).push rfl (ro:=false) (L:=L)) y1 y2.len
 have hcp:x.copy.av=.agg [.int .i64 x.h,.str x.text,.lit (x.ks.map Kid.av)]:=rfl
 rw [hcp,y3] at hG
 have hlA:=hp.len s
 obtain ⟨A1,hA1⟩:∃ A1,A1=(σ s).ps:=⟨_,rfl⟩
 have e1:M=A1.length:=by rw [hA1];exact hlA.symm
 have hpl:=fun s'=>hp.len s'
 simp only [show (σ s).A++[((σ s).ro,(σ s).L)]=(σ s).ps from rfl,← hA1] at hG
 rw [← hA1]
 clear hlA
 subst e1
 have hpath:=fun (v0 v3 v4 v10 v14 v15 v31:AV) (box b0 b1:Blk) (k:List Fr) (Q:Post)=>walk_path (A:=A1) (b0:=b0) (b1:=b1) (box:=box) (s:=[]) (z:=a) (v0:=v0) (v3:=v3) (v4:=v4) (v10:=v10) (v14:=v14) (v15:=v15) (v31:=v31) (o:=o) (k:=k) (Q:=Q) hPa (by omega)
 have hnd:=ndAt_of y1
 cases n with
 | zero =>
  repeat' (first|refine hpath _ _ _ _ _ _ _ _ _ _ _ _ (fun G' pv' hP' hb=>?_)|refine ruS rfl ?_|refine isS rfl ?_|refine rk_seq ?_|(refine is_neq rfl rfl (fun _=>?_) (fun _=>?_)<;>try (exfalso;omega))|refine is_boxG rfl rfl rfl ?_|refine is_stT rfl rfl rfl rfl rfl rfl ?_|refine is_callE rfl rfl rfl (hG _) ?_)
  all_goals try contradiction
  rcases hP' with ⟨w,_⟩|⟨j,ver,rfl,hg⟩
  ·exact absurd w (by simp)
  have hg3:∀ b0 b1 b2:Blk,(b0::b1::b2::G')[j+3]?=some (.arr 1 ver ((path++[o]).map hnAV)):=fun _ _ _=>hg
  repeat' (first|refine is_ldc rfl hb rfl rfl ?_|refine is_stn rfl rfl rfl rfl (seal_sir _ (Nat.lt_succ_self _)) rfl ?_|refine ruS rfl ?_|refine isS rfl ?_|refine is_ldc rfl rfl rfl rfl ?_|refine rkS rfl ?_|(refine is_eql rfl rfl (fun _=>?_) (fun _=>?_)<;>try (exfalso;omega))|refine is_stn rfl rfl rfl rfl rfl rfl ?_)
  all_goals try contradiction
  refine (end_sk (st:=σ s) hA1 (.inr rfl) rfl rfl (hg3 _ _ _) rfl rfl).trans ?_
  rw [hres]
  simp only [seekF,hnd,Int.add_zero]
  rw [show s0+(s-s0)=s by omega]
 | succ n =>
  obtain ⟨ks,hi⟩:∃ ks,InnerOk x n ks:=by
   rcases y2 with w|⟨m,ks,w⟩
   ·have:=w.h;omega
   ·have e:=w.eq
    have:m=n:=by rw [e] at y3;simpa using y3
    exact ⟨ks,this▸w⟩
  have e:=hi.eq
  have hkids:=(hN o x y1).2
  have hfit:∀ k∈ks,k.m.Fit 65536:=fun k hk=>(hi.kid k hk).fit
  subst e
  have hks:Nd.ks ⟨n+1,[],some ks⟩=ks:=rfl
  rw [hks] at hG
  have hD:D (sumM (ks.map Kid.m)) a:=y4
  have hCl:=fun st=>hf.call n ks y2 a hD st
  obtain ⟨c1,c2⟩:=hf.ok ks a hfit hD
  obtain ⟨k,hk⟩:∃ k,ks[(ch ks a).1]?=some k:=⟨_,List.getElem?_eq_getElem c1⟩
  have c3:=c2 k hk
  have hseek:seekF ch q N (n+1) o a=((seekF ch q N n k.at_ (ch ks a).2).1,o::(seekF ch q N n k.at_ (ch ks a).2).2.1,sumK q ks (ch ks a).1+(seekF ch q N n k.at_ (ch ks a).2).2.2):=by
   rw [seekF,hnd]
   simp only [hks,hk,Option.map_some,Option.getD_some]
  have hi2:=hi.hi
  have qk:0≤(((ch ks a).1:Nat):Int)∧ks[(((ch ks a).1:Nat):Int).toNat]?=some k:=⟨by omega,by rw [show (((ch ks a).1:Nat):Int).toNat=(ch ks a).1 by omega];exact hk⟩
  have hsf:=hp.comp.fit _ _ (sumM_fit (l:=(ks.take (ch ks a).1).map Kid.m) (fun m hm=>by obtain ⟨z,hz,rfl⟩:=List.mem_map.1 hm;exact hfit z (List.mem_of_mem_take hz)))
  rw [List.length_map,List.length_take,Nat.min_eq_left (Nat.le_of_lt c1)] at hsf
  change 0≤sumK q ks (ch ks a).1∧sumK q ks (ch ks a).1≤_ at hsf
  have hsumK:q (sumM ((ks.take (ch ks a).1).map Kid.m))=sumK q ks (ch ks a).1:=rfl
  generalize (ch ks a).1=ci at *
  generalize (ch ks a).2=cr at *
  unfold Nd.av at hCl
  simp only [slV] at hCl
  have hlt:(ks.take ci).length=ci:=by simp;omega
  repeat' (first|refine hpath _ _ _ _ _ _ _ _ _ _ _ _ (fun G' pv' hP' hb=>?_)|refine ruS rfl ?_|refine isS rfl ?_|refine rk_seq ?_|(refine is_neq rfl rfl (fun _=>?_) (fun _=>?_)<;>try (exfalso;omega))|refine is_boxG rfl rfl rfl ?_|refine is_stT rfl rfl rfl rfl rfl rfl ?_|refine is_callE rfl rfl rfl (hG _) ?_)
  all_goals try contradiction
  repeat' (first|refine is_ldc rfl hb rfl rfl ?_|refine is_kslc rfl rfl (Nat.le_of_lt c1) ?_|refine len1L rfl ?_|refine ruS rfl ?_|refine isS rfl ?_|refine is_ldc rfl rfl rfl rfl ?_|refine rk_seq ?_|(refine is_eql rfl rfl (fun _=>?_) (fun _=>?_)<;>try (exfalso;omega))|(refine is_neq rfl rfl (fun _=>?_) (fun _=>?_)<;>try (exfalso;omega))|refine is_callE rfl rfl rfl (hCl _) ?_)
  all_goals try contradiction
  all_goals try (exfalso;omega)
  refine pass_loop hp s hA1 (fun G2=>?_) (by omega) (by omega) (fun z hz=>hfit z (List.mem_of_mem_take hz))
  rw [hsumK]
  obtain ⟨A2,hA2⟩:∃ A2,A2=(σ (s+sumK q ks ci)).ps:=⟨_,rfl⟩
  have e2:A1.length=A2.length:=by rw [hA2];exact (hpl _).symm
  rw [← hA2,e2]
  rw [e2] at hP'
  have hb2:=hb.symm▸List.getElem?_append_left (l₂:=G2) (List.getElem?_eq_some_iff.1 hb).1
  have hb3:∀ b0 b1 b2:Blk,(b0::b1::b2::G'++G2)[G.length+1+1+1]?=_:=fun _ _ _=>hb2
  rcases hP' with ⟨w,_⟩|⟨j,ver,rfl,hg⟩
  ·exact absurd w (by simp)
  repeat' (first|refine is_hideLd rfl rfl rfl (hb3 _ _ _) rfl rfl ?_|refine is_hideIx (f:=Kid.av) rfl rfl qk rfl ?_|refine is_hideLdl rfl rfl ?_|refine is_plain rfl rfl rfl rfl ?_|refine is_stn rfl rfl rfl rfl rfl rfl ?_|refine ru_reg ?_|refine isS rfl ?_|refine rkS rfl ?_)
  all_goals try contradiction
  obtain ⟨_,y,z1,z2,z3⟩:=hkids k (List.mem_of_getElem? hk)
  rw [hA2]
  refine ⟨⟨n,k.at_,cr,s+sumK q ks ci,path++[o],.ref (σ (s+sumK q ks ci)).ps.length (j+3) ver 0 (path++[o]).length,G'++G2⟩,⟨rfl,rfl⟩,⟨⟨y,z1,(hN _ y z1).1,by simp only at z2 ⊢;omega,by rw [z3];exact c3⟩,.inr ⟨j,ver,rfl,?_⟩,by simp only [lL,List.length_singleton];omega,by simp only [lL,List.length_singleton];omega,?_⟩,Nat.lt_succ_self _⟩
  ·show (G'++G2)[j]?=_
   rw [List.getElem?_append_left (List.getElem?_eq_some_iff.1 hg).1];exact hg
  ·rw [hres,hseek]
   simp only [List.append_assoc,List.singleton_append]
   congr 2
   omega
end Go.Q15
namespace Go.Q15
open Go Go.QAbs
set_option maxRecDepth 100000
set_option maxHeartbeats 8000000
theorem kids_mea {N:Nodes} {n:Nat}:∀ {ks:List Kid},(∀ k∈ks,meaT (textH N n k.at_)=k.m)→meaT (ks.flatMap fun k=>textH N n k.at_)=sumM (ks.map Kid.m):=by
 intro ks
 induction ks with
 | nil=>intro _;rfl
 | cons k l ih =>
  intro h
  rw [List.flatMap_cons,meaT_append,h k (by simp),ih (fun z hz=>h z (List.mem_cons_of_mem _ hz)),List.map_cons,sumM]
theorem NdOk.ksFit {x:Nd} (h:NdOk x):∀ k∈x.ks,k.m.Fit 65536:=by
 rcases h with q|⟨n,ks,q⟩
 ·rw [q.ks];intro k hk;simp at hk
 ·have e:=q.eq;subst e;exact fun k hk=>(q.kid k hk).fit
theorem seek_text {p q:Mea→Int} (hp:Comp p) (hq:Comp q) {N:Nodes} (hN:GoodN N):∀ (n o:Nat) (x:Nd) (a:Int),lk N o=some x→x.h=n→0≤a→a<p x.mea →
 ∃ pre leaf post,textH N n o=pre++leaf++post∧(seekF (skipK p) q N n o a).1=(leaf,a-p (meaT pre))∧0≤a-p (meaT pre)∧a-p (meaT pre)<p (meaT leaf)∧(seekF (skipK p) q N n o a).2.2=q (meaT pre):=by
 intro n
 induction n with
 | zero =>
  intro o x a hx hh h0 h1
  have hm:x.mea=meaT x.text:=by unfold Nd.mea;rw [if_pos hh]
  have e:p (meaT [])=0:=by rw [meaT_nil];exact hp.zero
  have e2:q (meaT [])=0:=by rw [meaT_nil];exact hq.zero
  refine ⟨[],x.text,[],?_,?_,by rw [e];omega,by rw [e,← hm];omega,by rw [e2];rfl⟩
  ·rw [textH,hx];simp
  ·rw [seekF,ndAt_of hx,e];simp
 | succ n ih =>
  intro o x a hx hh h0 h1
  obtain ⟨hok,hkids⟩:=hN o x hx
  have hm:x.mea=sumM (x.ks.map Kid.m):=by unfold Nd.mea;rw [if_neg (by omega)]
  rw [hm] at h1
  obtain ⟨c1,c2,c3,c4⟩:=skipK_ok hp x.ks a hok.ksFit h0 h1
  obtain ⟨k,hk⟩:∃ k,x.ks[(skipK p x.ks a).1]?=some k:=⟨_,List.getElem?_eq_getElem c1⟩
  have c5:=c4 k hk
  obtain ⟨_,y,y1,y2,y3⟩:=hkids k (List.mem_of_getElem? hk)
  have hmk:∀ k∈x.ks,meaT (textH N n k.at_)=k.m:=fun k hk=>by
   obtain ⟨_,y,y1,y2,y3⟩:=hkids k hk
   rw [textH_mea hN n k.at_ y y1 (by omega),y3]
  obtain ⟨pre,leaf,post,t1,t2,t3,t4,t5⟩:=ih k.at_ y (skipK p x.ks a).2 y1 (by omega) c3 (by rw [y3];exact c5)
  have hseek:seekF (skipK p) q N (n+1) o a=((seekF (skipK p) q N n k.at_ (skipK p x.ks a).2).1,o::(seekF (skipK p) q N n k.at_ (skipK p x.ks a).2).2.1,sumK q x.ks (skipK p x.ks a).1+(seekF (skipK p) q N n k.at_ (skipK p x.ks a).2).2.2):=by
   rw [seekF,ndAt_of hx]
   simp only [hk,Option.map_some,Option.getD_some]
  rw [hseek,c2] at *
  generalize hci:(skipK p x.ks a).1=ci at *
  have hsplit:x.ks=x.ks.take ci++k::x.ks.drop (ci+1):=by
   have:=List.take_append_drop ci x.ks
   rw [drop_cons hk] at this
   exact this.symm
  have hpm:meaT ((x.ks.take ci).flatMap fun k=>textH N n k.at_)=sumM ((x.ks.take ci).map Kid.m):=kids_mea (fun z hz=>hmk z (List.mem_of_mem_take hz))
  have e3:p (meaT ((x.ks.take ci).flatMap (fun k=>textH N n k.at_)++pre))=sumK p x.ks ci+p (meaT pre):=by
   rw [meaT_append,hp.add,hpm];rfl
  have e4:q (meaT ((x.ks.take ci).flatMap (fun k=>textH N n k.at_)++pre))=sumK q x.ks ci+q (meaT pre):=by
   rw [meaT_append,hq.add,hpm];rfl
  refine ⟨(x.ks.take ci).flatMap (fun k=>textH N n k.at_)++pre,leaf,post++(x.ks.drop (ci+1)).flatMap (fun k=>textH N n k.at_),?_,?_,?_,?_,?_⟩
  ·rw [textH,hx]
   simp only [Option.map_some,Option.getD_some]
   rw [hsplit,List.flatMap_append,List.flatMap_cons,t1]
   have e:((x.ks.take ci++k::x.ks.drop (ci+1)).take ci)=x.ks.take ci:=by rw [← hsplit]
   have e':((x.ks.take ci++k::x.ks.drop (ci+1)).drop (ci+1))=x.ks.drop (ci+1):=by rw [← hsplit]
   rw [e,e']
   simp only [List.append_assoc]
  ·simp only
   rw [t2,e3]
   congr 1
   omega
  ·rw [e3];omega
  ·rw [e3];omega
  ·simp only
   rw [t5,e4]
end Go.Q15
namespace Go.Q15
open Go Go.QAbs
set_option maxRecDepth 100000
set_option maxHeartbeats 8000000
theorem leafC1_c (m:Mea) (st:St):S Tb F_seek_LeafC1 [m.av] st=some (.tup [],st):=by
 refine s_of rfl (fun A hA=>?_)
 unfold Mea.av
 repeat' (first|refine ru_reg ?_|refine is_nil rfl ?_|refine is_box rfl rfl rfl ?_|refine rk_nil ?_)
 refine end_st hA (by first|exact .inl rfl|exact .inr rfl) rfl rfl rfl rfl ?_
 rfl
theorem leaf_pass (st:St):Pass (fun _=>st) Mea.b F_seek_LeafC1 [] st.ps.length :=
 ⟨comp_b,fun _=>rfl,fun s m L _ _ _=>⟨_,leafC1_c m _⟩,fun m=>rfl⟩
abbrev seekB (N:Nodes) (r:Ro) (a:Int):(List UInt8 × Int) × List Nat × Int:=seekF (skipK Mea.b) Mea.b N r.h r.at_ a
theorem RtOk.nz {N:Nodes} {r:Ro} (h:RtOk N r) (hb:0<r.m.b):r.at_≠0∧∃ x,lk N r.at_=some x∧NdOk x∧x.h=r.h∧x.mea=r.m:=by
 rcases h with rfl|w
 ·simp [Ro.zero,Mea.zero] at hb
 ·exact w
theorem RtOk.mb {N:Nodes} (hN:GoodN N) {r:Ro} (h:RtOk N r):0≤r.m.b:=by
 rcases h with rfl|⟨h0,x,h1,h2,h3,h4⟩
 ·simp [Ro.zero,Mea.zero]
 ·rw [← h4,← textH_mea hN _ _ x h1 rfl];simp [meaT]
theorem Leaf_c {st:St} {la b:Nat} {N:Nodes} (hN:GoodN N) (hR:Rd st la (b+5) N) {r:Ro} (hr:RtOk N r) (a:Int) (h0:0≤a) (h1:a<r.m.b) (hb:r.m.b≤1000000) :
 S Tb F_seek_Leaf [.ptr la (b+5) 0 0 0,r.av,.int .i64 a] st=some (.tup [.str (seekB N r a).1.1,.int .i64 (seekB N r a).1.2,.lit ((seekB N r a).2.1.map hnAV),.int .i64 0],st):=by
 refine s_of rfl (fun A hA=>?_)
 have hC:=fun L=>sCheck_c (hR.push hA (ro:=false) (L:=L)) hr
 have hW:=fun L=>skWalk_c (leaf_pass ⟨A,false,L⟩) child_ok hN (fun _=>hR.push hA (ro:=false) (L:=L)) hr (hr.nz (by omega)).1 a ⟨h0,h1,hb⟩ 0 ⟨by decide,by decide⟩
 unfold seekB
 generalize seekF (skipK Mea.b) Mea.b N r.h r.at_ a=R at *
 unfold Ro.av at *
 repeat' (first|refine ruS rfl ?_|refine isS rfl ?_|refine is_ldc rfl rfl rfl rfl ?_|refine rkS rfl ?_|(refine is_lss rfl rfl (fun _=>?_) (fun _=>?_)<;>try (exfalso;omega))|(refine is_geq rfl rfl (fun _=>?_) (fun _=>?_)<;>try (exfalso;omega))|(refine is_neq rfl rfl (fun _=>?_) (fun _=>?_)<;>try (exfalso;omega))|refine is_box rfl rfl rfl ?_|refine is_stb rfl rfl rfl rfl rfl rfl ?_|refine is_callE rfl rfl rfl (hC _) ?_|refine is_callE rfl rfl rfl (hW _) ?_)
 all_goals try contradiction
 all_goals try (exfalso;omega)
 refine end_st hA (by first|exact .inl rfl|exact .inr rfl) rfl rfl rfl rfl ?_
 rfl
theorem Leaf_no {st:St} {la b:Nat} {N:Nodes} (hR:Rd st la (b+5) N) {r:Ro} (hr:RtOk N r) (a:Int) (h0:a<0∨r.m.b≤a) :
 S Tb F_seek_Leaf [.ptr la (b+5) 0 0 0,r.av,.int .i64 a] st=some (.tup [.str [],.int .i64 0,.lit [],.int .i64 3],st):=by
 refine s_of rfl (fun A hA=>?_)
 have hC:=fun L=>sCheck_c (hR.push hA (ro:=false) (L:=L)) hr
 unfold Ro.av at *
 repeat' (first|refine ruS rfl ?_|refine isS rfl ?_|refine is_ldc rfl rfl rfl rfl ?_|refine rkS rfl ?_|(refine is_lss rfl rfl (fun _=>?_) (fun _=>?_)<;>try (exfalso;omega))|(refine is_geq rfl rfl (fun _=>?_) (fun _=>?_)<;>try (exfalso;omega))|(refine is_neq rfl rfl (fun _=>?_) (fun _=>?_)<;>try (exfalso;omega))|refine is_box rfl rfl rfl ?_|refine is_callE rfl rfl rfl (hC _) ?_)
 all_goals try contradiction
 all_goals try (exfalso;omega)
 all_goals refine end_st hA (by first|exact .inl rfl|exact .inr rfl) rfl rfl rfl rfl ?_
 all_goals rfl
theorem Byte_c {st:St} {la b:Nat} {N:Nodes} (hN:GoodN N) (hR:Rd st la (b+5) N) {r:Ro} (hr:RtOk N r) (a:Int) (h0:0≤a) (h1:a<r.m.b) (hb:r.m.b≤1000000) {c:UInt8} (hc:0≤(seekB N r a).1.2∧(seekB N r a).1.2<(seekB N r a).1.1.length∧(seekB N r a).1.1[(seekB N r a).1.2.toNat]?=some c) :
 S Tb F_seek_Byte [.ptr la (b+5) 0 0 0,r.av,.int .i64 a] st=some (.tup [.int .u8 c.toNat,.int .i64 0],st):=by
 refine s_of rfl (fun A hA=>?_)
 have hL:=fun L=>Leaf_c hN (hR.push hA (ro:=false) (L:=L)) hr a h0 h1 hb
 generalize seekB N r a=R at *
 obtain ⟨c1,c2,c3⟩:=hc
 unfold Ro.av at *
 repeat' (first|refine ruS rfl ?_|refine isS rfl ?_|refine is_ldc rfl rfl rfl rfl ?_|refine rkS rfl ?_|refine is_lenS rfl ?_|(refine is_lss rfl rfl (fun _=>?_) (fun _=>?_)<;>try (exfalso;omega))|(refine is_geq rfl rfl (fun _=>?_) (fun _=>?_)<;>try (exfalso;omega))|(refine is_neq rfl rfl (fun _=>?_) (fun _=>?_)<;>try (exfalso;omega))|refine is_box rfl rfl rfl ?_|refine is_callE rfl rfl rfl (hL _) ?_|refine is_ixStr rfl rfl ⟨c1,c2⟩ c3 ?_)
 all_goals try contradiction
 all_goals try (exfalso;omega)
 refine end_st hA (by first|exact .inl rfl|exact .inr rfl) rfl rfl rfl rfl ?_
 rfl
theorem Byte_no {st:St} {la b:Nat} {N:Nodes} (hR:Rd st la (b+5) N) {r:Ro} (hr:RtOk N r) (a:Int) (h0:a<0∨r.m.b≤a) :
 S Tb F_seek_Byte [.ptr la (b+5) 0 0 0,r.av,.int .i64 a] st=some (.tup [.int .u8 0,.int .i64 3],st):=by
 refine s_of rfl (fun A hA=>?_)
 have hL:=fun L=>Leaf_no (hR.push hA (ro:=false) (L:=L)) hr a h0
 unfold Ro.av at *
 repeat' (first|refine ruS rfl ?_|refine isS rfl ?_|refine is_ldc rfl rfl rfl rfl ?_|refine rkS rfl ?_|(refine is_neq rfl rfl (fun _=>?_) (fun _=>?_)<;>try (exfalso;omega))|refine is_box rfl rfl rfl ?_|refine is_callE rfl rfl rfl (hL _) ?_)
 all_goals try contradiction
 refine end_st hA (by first|exact .inl rfl|exact .inr rfl) rfl rfl rfl rfl ?_
 rfl
theorem seekB_text {N:Nodes} (hN:GoodN N) {r:Ro} {s:List UInt8} (h:Rt N r s) {a:Int} (h0:0≤a) (h1:a<s.length) :
 ∃ pre leaf post,s=pre++leaf++post∧(seekB N r a).1=(leaf,a-pre.length)∧(pre.length:Int)≤a∧a-pre.length<leaf.length:=by
 have hb:=(h.b hN).2
 obtain ⟨hz,x,x1,x2,x3,x4⟩:=h.rt.nz (by omega)
 have hs:textR N r=s:=h.tx
 unfold textR at hs
 rw [if_neg hz] at hs
 obtain ⟨pre,leaf,post,t1,t2,t3,t4,t5⟩:=seek_text comp_b comp_b hN r.h r.at_ x a x1 x3 h0 (by rw [x4];omega)
 have e:∀ l:List UInt8,(meaT l).b=l.length:=fun l=>rfl
 rw [e] at t2 t3 t4
 rw [e] at t4
 exact ⟨pre,leaf,post,by rw [← hs,t1],t2,by omega,t4⟩
end Go.Q15
namespace Go.Q15
open Go Go.QAbs
set_option maxRecDepth 100000
set_option maxHeartbeats 8000000
theorem count_le_take {p:UInt8→Bool} {s:List UInt8} {i j:Nat} (h:i≤j):(s.take i).countP p≤(s.take j).countP p:=by
 have:s.take i=(s.take j).take i:=by rw [List.take_take,Nat.min_eq_left h]
 rw [this]
 exact List.Sublist.countP_le (List.take_sublist ..)
theorem count_take_succ {p:UInt8→Bool} {s:List UInt8} {i:Nat} {c:UInt8} (h:s[i]?=some c):(s.take (i+1)).countP p=(s.take i).countP p+if p c=true then 1 else 0:=by
 rw [take_succ_get h,List.countP_append,List.countP_singleton]
structure NthB (p:UInt8→Bool) (s:List UInt8) (n:Nat) (i:Nat) (c:UInt8):Prop where
 get:s[i]?=some c
 is:p c=true
 cnt:(s.take i).countP p=n
theorem NthB.inner {p:UInt8→Bool} {pre leaf post:List UInt8} {n i:Nat} {c:UInt8} (h:NthB p (pre++leaf++post) n i c) (h1:pre.countP p≤n) (h2:n<(pre++leaf).countP p) :
 ∃ i',i=pre.length+i'∧NthB p leaf (n-pre.countP p) i' c:=by
 obtain ⟨g,g2,g3⟩:=h
 have hs:=count_take_succ (p:=p) g
 rw [if_pos g2,g3] at hs
 have a1:pre.length≤i:=by
  rcases Nat.lt_or_ge i pre.length with q|q
  ·have:=count_le_take (p:=p) (s:=pre++leaf++post) (i:=i+1) (j:=pre.length) (by omega)
   rw [hs,List.append_assoc,List.take_left] at this
   omega
  ·exact q
 have a2:i<pre.length+leaf.length:=by
  rcases Nat.lt_or_ge i (pre.length+leaf.length) with q|q
  ·exact q
  ·have:=count_le_take (p:=p) (s:=pre++leaf++post) (i:=(pre++leaf).length) (j:=i) (by rw [lL];omega)
   rw [g3,List.take_left] at this
   omega
 obtain ⟨i',rfl⟩:∃ i',i=pre.length+i':=⟨i-pre.length,by omega⟩
 have e:(pre++leaf++post).take (pre.length+i')=pre++leaf.take i':=by
  rw [List.append_assoc,List.take_length_add_append,List.take_append_of_le_length (by omega)]
 refine ⟨i',rfl,?_,g2,?_⟩
 ·rw [List.append_assoc,List.getElem?_append_right (by omega),List.getElem?_append_left (by omega)] at g
  rw [show pre.length+i'-pre.length=i' by omega] at g
  exact g
 ·rw [e,List.countP_append] at g3;omega
theorem findK_c {f:FuncId} {p:UInt8→Bool} (hf:Tells f p) {s:List UInt8} {n i:Nat} {c:UInt8} (h:NthB p s n i c) (hs:s.length<4294967296) (st:St) :
 S Tb F_measure_find [.str s,.func (.func f) [] [],.int .i64 n] st=some (.tup [.int .i64 i,.bool true],st):=by
 refine s_of rfl (fun A hA=>?_)
 obtain ⟨g,g2,g3⟩:=h
 have hi:=(List.getElem?_eq_some_iff.1 g).1
 have hn:n≤s.length:=by rw [← g3];have:=List.countP_le_length (p:=p) (l:=s.take i);rw [List.length_take] at this;omega
 repeat' (first|refine ruS rfl ?_|refine isS rfl ?_|refine rk_seq ?_|refine is_lenS rfl ?_)
 refine ru_loopP (α:=Nat) (fun j=>[(0,.str s),(1,.func (.func f) [] []),(2,.int .i64 ((n:Int)-(s.take j).countP p)),(10,.int .i64 s.length),(11,.int .i64 j)]) (fun j=>⟨A,false,[]⟩) (fun j=>j≤i) (fun j=>s.length-j) 0 (by simp) rfl (Nat.zero_le _) ?_
 intro j hj
 replace hj:j≤i:=hj
 obtain ⟨d,hd⟩:∃ d,s[j]?=some d:=⟨_,List.getElem?_eq_getElem (by omega)⟩
 have hb:=fun st=>hf d st
 have hb2:s[((j:Nat):Int).toNat]?=some d:=by rw [show ((j:Nat):Int).toNat=j by omega];exact hd
 have hc:=count_take_succ (p:=p) hd
 have hle:=count_le_take (p:=p) (s:=s) hj
 rcases Nat.lt_or_ge j i with hlt|hge
 ·have hle2:=count_le_take (p:=p) (s:=s) (i:=j+1) (j:=i) (by omega)
  by_cases hp:p d=true
  ·rw [if_pos hp] at hc
   rw [hp] at hb
   repeat' (first|refine ruS rfl ?_|refine isS rfl ?_|refine rkS rfl ?_|(refine is_lss rfl rfl (fun _=>?_) (fun _=>?_)<;>try (exfalso;omega))|(refine is_eql rfl rfl (fun _=>?_) (fun _=>?_)<;>try (exfalso;omega))|refine is_addS rfl rfl (by omega) ?_|refine is_subS rfl rfl (by omega) ?_|refine is_callE rfl rfl rfl (hb _) ?_|refine is_ixStr rfl rfl (by omega) hb2 ?_)
   all_goals try contradiction
   all_goals try (exfalso;omega)
   refine ⟨j+1,⟨?_,rfl⟩,by omega,by omega⟩
   rw [hc,show (n:Int)-((List.countP p (s.take j)+1:Nat):Int)=(n:Int)-(List.countP p (s.take j):Nat)-1 by omega]
   rfl
  ·rw [if_neg hp] at hc
   have hp2:p d=false:=by simpa using hp
   rw [hp2] at hb
   repeat' (first|refine ruS rfl ?_|refine isS rfl ?_|refine rkS rfl ?_|(refine is_lss rfl rfl (fun _=>?_) (fun _=>?_)<;>try (exfalso;omega))|refine is_addS rfl rfl (by omega) ?_|refine is_callE rfl rfl rfl (hb _) ?_|refine is_ixStr rfl rfl (by omega) hb2 ?_)
   all_goals try contradiction
   all_goals try (exfalso;omega)
   refine ⟨j+1,⟨?_,rfl⟩,by omega,by omega⟩
   rw [hc];rfl
 ·obtain rfl:j=i:=by omega
  rw [hd] at g
  obtain rfl:=Option.some.inj g
  rw [g2] at hb
  repeat' (first|refine ruS rfl ?_|refine isS rfl ?_|refine rkS rfl ?_|(refine is_lss rfl rfl (fun _=>?_) (fun _=>?_)<;>try (exfalso;omega))|(refine is_eql rfl rfl (fun _=>?_) (fun _=>?_)<;>try (exfalso;omega))|refine is_callE rfl rfl rfl (hb _) ?_|refine is_ixStr rfl rfl (by omega) hb2 ?_)
  all_goals try contradiction
  all_goals try (exfalso;omega)
  refine end_st hA (by first|exact .inl rfl|exact .inr rfl) rfl rfl rfl rfl ?_
  rfl
theorem mRune_c {s:List UInt8} {n i:Nat} {c:UInt8} (h:NthB beginsB s n i c) (hs:s.length<4294967296) (st:St) :
 S Tb F_measure_Rune [.str s,.int .i64 n] st=some (.tup [.int .i64 i,.int .i64 0],st):=by
 refine s_of rfl (fun A hA=>?_)
 have hF:=fun st=>findK_c begins_c h hs st
 repeat' (first|refine ruS rfl ?_|refine isS rfl ?_|refine rkS rfl ?_|(refine is_lss rfl rfl (fun _=>?_) (fun _=>?_)<;>try (exfalso;omega))|refine is_callE rfl rfl rfl (hF _) ?_)
 all_goals try contradiction
 all_goals try (exfalso;omega)
 refine end_st hA (by first|exact .inl rfl|exact .inr rfl) rfl rfl rfl rfl ?_
 rfl
theorem runeC1_c:TellsM F_node_RuneC1 Mea.r:=fun m st=>by
 refine s_of rfl (fun A hA=>?_)
 unfold Mea.av
 repeat' (first|refine ruS rfl ?_|refine isS rfl ?_|refine is_ldc rfl rfl rfl rfl ?_|refine rkS rfl ?_|refine is_box rfl rfl rfl ?_)
 refine end_st hA (by first|exact .inl rfl|exact .inr rfl) rfl rfl rfl rfl ?_
 rfl
theorem nRune_c (n:Nat) (ks:List Kid) (hx:NdOk ⟨n+1,[],some ks⟩) (a:Int) (h0:0≤a) (h1:a<(sumM (ks.map Kid.m)).r) (hb:a≤1000000) (st:St) :
 S Tb F_node_Rune [Nd.av ⟨n+1,[],some ks⟩,.int .i64 a] st=some (.tup [.int .i64 (skipK Mea.r ks a).1,.int .i64 (skipK Mea.r ks a).2,.int .i64 0],st):=by
 refine s_of rfl (fun A hA=>?_)
 have hC:=fun st=>choose_c runeC1_c comp_r n ks hx a h0 h1 hb st
 unfold Nd.av at *
 simp only [slV] at *
 repeat' (first|refine ruS rfl ?_|refine isS rfl ?_|refine is_ldc rfl rfl rfl rfl ?_|refine rkS rfl ?_|refine is_box rfl rfl rfl ?_|refine is_callE rfl rfl rfl (hC _) ?_)
 refine end_st hA (by first|exact .inl rfl|exact .inr rfl) rfl rfl rfl rfl ?_
 rfl
theorem rune_ok:NextOk F_node_Rune (skipK Mea.r) (fun m a=>0≤a∧a<m.r∧m.r≤1000000) where
 call n ks hx a ha st:=nRune_c n ks hx a ha.1 ha.2.1 (by omega) st
 ok ks a hf ha:=by
  obtain ⟨h1,h2,h3,h4⟩:=skipK_ok comp_r ks a hf ha.1 ha.2.1
  exact ⟨h1,fun k hk=>⟨h3,h4 k hk,by have:=(hf k (List.mem_of_getElem? hk)).4;omega⟩⟩
end Go.Q15
namespace Go.Q15
open Go Go.QAbs
set_option maxRecDepth 100000
set_option maxHeartbeats 8000000
def offS (A:List (Bool × List Blk)) (r:Ro) (s:Int):St:=⟨A,false,[.arr 5 0 [r.av],.arr 1 0 [.int .i64 s]]⟩
theorem off_cl (A:List (Bool × List Blk)) (r:Ro) (s:Int):Cl (offS A r s) [(A.length,1)] [.arr 1 0 [.int .i64 s]]:=by
 refine ⟨by simp,rfl,fun k hk=>?_,fun j lv ix b h1 h2=>?_⟩
 ·simp only [List.mem_singleton] at hk
  subst hk;simp [St.wr,offS]
 ·match j,h1,h2 with
  | 0,h1,h2=>obtain ⟨rfl,rfl⟩:=Prod.mk.inj (Option.some.inj h1);obtain rfl:=Option.some.inj h2;exact St.get_cur ..
  | n+1,h1,h2=>simp at h1
theorem off_put (A:List (Bool × List Blk)) (r:Ro) (s t:Int):putC (offS A r s) [(A.length,1)] [.arr 1 0 [.int .i64 t]]=offS A r t:=by
 simp [putC,St.upd,offS]
theorem offC1_c (A:List (Bool × List Blk)) (r:Ro) (s:Int) (m:Mea) (L:List Blk) (h0:0≤s) (h1:s≤1000000000) (hf:m.Fit 65536) :
 S Tb F_seek_offsetC1 [m.av,.ptr A.length 1 0 0 0] ⟨(offS A r s).ps,false,L⟩=some (.tup [],⟨(offS A r (s+m.b)).ps,false,L⟩):=by
 have H:=(off_cl A r s).push (A:=(offS A r s).ps) (ro:=false) (L:=L) rfl
 have e:putC ⟨(offS A r s).ps,false,L⟩ [(A.length,1)] [.arr 1 0 [.int .i64 (s+m.b)]]=⟨(offS A r (s+m.b)).ps,false,L⟩:=by
  rw [putC_push rfl (fun k hk=>by simp only [List.mem_singleton] at hk;subst hk;exact Nat.le_refl _),off_put]
 obtain ⟨f1,f2,_⟩:=hf
 rw [← e]
 refine s_ofW rfl (fun A1 hA=>?_)
 have hA':A1=(putC ⟨(offS A r s).ps,false,L⟩ [(A.length,1)] [.arr 1 0 [.int .i64 s]]).ps:=by rw [H.same];exact hA
 have g:=fun L'=>H.old hA' rfl rfl (ro:=false) (L:=L') (j:=0) rfl rfl
 unfold Mea.av
 repeat' (first|refine ruS rfl ?_|refine isS rfl ?_|refine is_ldc rfl rfl rfl rfl ?_|refine rk_seq ?_|refine is_addS rfl rfl (by omega) ?_|refine is_box rfl rfl rfl ?_|refine is_ld rfl (g _) rfl rfl ?_)
 refine is_stC H hA' rfl rfl (j:=0) rfl rfl rfl rfl rfl rfl rfl (fun A2 hA2 _=>?_)
 repeat' (first|refine is_nil rfl ?_|refine rk_nil ?_)
 refine end_st hA2 (.inl rfl) rfl rfl rfl rfl ?_
 rfl
theorem off_pass (A:List (Bool × List Blk)) (r:Ro):Pass (offS A r) Mea.b F_seek_offsetC1 [.ptr A.length 1 0 0 0] (A.length+1) :=
 ⟨comp_b,fun _=>by simp [offS],fun s m L h0 h1 hf=>⟨_,offC1_c A r s m L h0 h1 hf⟩,fun m=>rfl⟩
theorem offset_c {f:FuncId} {ch:List Kid→Int→Nat × Int} {D:Mea→Int→Prop} (hf:NextOk f ch D) {g:FuncId} {st:St} {la b:Nat} {N:Nodes} (hN:GoodN N) (hR:Rd st la (b+5) N) {r:Ro} (hr:RtOk N r) (h0:r.at_≠0) (a:Int) (ha:D r.m a)
 {t:Int} (hg:∀ st,S Tb g [.str (seekF ch Mea.b N r.h r.at_ a).1.1,.int .i64 (seekF ch Mea.b N r.h r.at_ a).1.2] st=some (.tup [.int .i64 t,.int .i64 0],st)) (hb:0≤(seekF ch Mea.b N r.h r.at_ a).2.2∧(seekF ch Mea.b N r.h r.at_ a).2.2≤1000000∧0≤t∧t≤1000000) :
 S Tb F_seek_offset [.ptr la (b+5) 0 0 0,r.av,.int .i64 a,.func (.func f) [] [],.func (.func g) [] []] st=some (.tup [.int .i64 ((seekF ch Mea.b N r.h r.at_ a).2.2+t),.int .i64 0],st):=by
 refine s_of rfl (fun A hA=>?_)
 have hW:=skWalk_c (off_pass A r) hf hN (fun s=>hR.push hA (ro:=false) (L:=[.arr 5 0 [r.av],.arr 1 0 [.int .i64 s]])) hr h0 a ha 0 ⟨by decide,by decide⟩
 rw [Int.zero_add] at hW
 generalize seekF ch Mea.b N r.h r.at_ a=R at *
 unfold offS at hW
 unfold Ro.av at *
 repeat' (first|refine ruS rfl ?_|refine isS rfl ?_|refine is_ldc rfl rfl rfl rfl ?_|refine rkS rfl ?_|(refine is_neq rfl rfl (fun _=>?_) (fun _=>?_)<;>try (exfalso;omega))|refine is_addS rfl rfl (by omega) ?_|refine is_mkf rfl rfl ?_|refine is_box rfl rfl rfl ?_|refine is_stb rfl rfl rfl rfl rfl rfl ?_|refine is_callE rfl rfl rfl (hW) ?_|refine is_callE rfl rfl rfl (hg _) ?_)
 all_goals try contradiction
 all_goals try (exfalso;omega)
 refine end_st hA (by first|exact .inl rfl|exact .inr rfl) rfl rfl rfl rfl ?_
 rfl
theorem Rune_c {st:St} {la b:Nat} {N:Nodes} (hN:GoodN N) (hR:Rd st la (b+5) N) {r:Ro} {s:List UInt8} (h:Rt N r s) {n i:Nat} {c:UInt8} (hi:NthB beginsB s n i c) (hs:s.length≤100000) :
 S Tb F_seek_Rune [.ptr la (b+5) 0 0 0,r.av,.int .i64 n] st=some (.tup [.int .i64 i,.int .i64 0],st):=by
 have hm:=h.m hN
 have hil:=(List.getElem?_eq_some_iff.1 hi.get).1
 have hcnt:=count_take_succ (p:=beginsB) hi.get
 rw [if_pos hi.is,hi.cnt] at hcnt
 have hct:=count_le_take (p:=beginsB) (s:=s) (i:=i+1) (j:=s.length) hil
 rw [hcnt,List.take_length] at hct
 have hcl:=List.countP_le_length (p:=beginsB) (l:=s)
 have hmr:r.m.r=s.countP beginsB:=by rw [hm];rfl
 have hmb:r.m.b=s.length:=by rw [hm];rfl
 obtain ⟨hz,x,x1,x2,x3,x4⟩:=h.rt.nz (by rw [hmb];omega)
 have htx:textR N r=s:=h.tx
 unfold textR at htx
 rw [if_neg hz] at htx
 obtain ⟨pre,leaf,post,t1,t2,t3,t4,t5⟩:=seek_text comp_r comp_b hN r.h r.at_ x (n:Int) x1 x3 (by omega) (by rw [x4,hmr];omega)
 rw [htx] at t1
 have ep:∀ l:List UInt8,(meaT l).r=l.countP beginsB:=fun l=>rfl
 have el:∀ l:List UInt8,(meaT l).b=l.length:=fun l=>rfl
 rw [ep] at t2 t3 t4
 rw [ep] at t4
 rw [el] at t5
 subst t1
 have hlen:(pre++leaf++post).length=pre.length+leaf.length+post.length:=by simp [Nat.add_assoc]
 obtain ⟨i',rfl,hi'⟩:=hi.inner (by omega) (by rw [List.countP_append];omega)
 have hil':=(List.getElem?_eq_some_iff.1 hi'.get).1
 have hg:=fun st=>mRune_c hi' (by omega) st
 rw [show ((n-List.countP beginsB pre:Nat):Int)=(n:Int)-List.countP beginsB pre by omega] at hg
 refine s_of rfl (fun A hA=>?_)
 have hC:=fun L=>sCheck_c (hR.push hA (ro:=false) (L:=L)) h.rt
 have hO:=fun L=>offset_c (g:=F_measure_Rune) (t:=i') rune_ok hN (hR.push hA (ro:=false) (L:=L)) h.rt hz (n:Int) ⟨by omega,by omega,by omega⟩ (by rw [t2];exact hg) (by rw [t5];omega)
 rw [t5] at hO
 have hn1:(n:Int)<r.m.r:=by omega
 unfold Ro.av at *
 repeat' (first|refine ruS rfl ?_|refine isS rfl ?_|refine is_ldc rfl rfl rfl rfl ?_|refine rkS rfl ?_|(refine is_lss rfl rfl (fun _=>?_) (fun _=>?_)<;>try (exfalso;omega))|(refine is_gtr rfl rfl (fun _=>?_) (fun _=>?_)<;>try (exfalso;omega))|(refine is_eql rfl rfl (fun _=>?_) (fun _=>?_)<;>try (exfalso;omega))|(refine is_neq rfl rfl (fun _=>?_) (fun _=>?_)<;>try (exfalso;omega))|refine is_box rfl rfl rfl ?_|refine is_callE rfl rfl rfl (hC _) ?_|refine is_callE rfl rfl rfl (hO _) ?_)
 all_goals try contradiction
 all_goals try (exfalso;omega)
 refine end_st hA (by first|exact .inl rfl|exact .inr rfl) rfl rfl rfl rfl ?_
 rw [show ((pre.length+i':Nat):Int)=(pre.length:Int)+i' by omega]
theorem Byte_t {st:St} {la b:Nat} {N:Nodes} (hN:GoodN N) (hR:Rd st la (b+5) N) {r:Ro} {s:List UInt8} (h:Rt N r s) {i:Nat} {c:UInt8} (hi:s[i]?=some c) (hs:s.length≤100000) :
 S Tb F_seek_Byte [.ptr la (b+5) 0 0 0,r.av,.int .i64 i] st=some (.tup [.int .u8 c.toNat,.int .i64 0],st):=by
 have hil:=(List.getElem?_eq_some_iff.1 hi).1
 have hmb:=(h.b hN).2
 obtain ⟨pre,leaf,post,t1,t2,t3,t4⟩:=seekB_text hN h (a:=(i:Int)) (by omega) (by omega)
 refine Byte_c hN hR h.rt (i:Int) (by omega) (by omega) (by omega) ?_
 rw [t2]
 refine ⟨by simp only;omega,by simp only;omega,?_⟩
 simp only
 rw [t1,List.append_assoc,List.getElem?_append_right (by omega),List.getElem?_append_left (by omega)] at hi
 rw [show ((i:Int)-pre.length).toNat=i-pre.length by omega]
 exact hi
end Go.Q15
namespace Go.Q15
open Go Go.QAbs
set_option maxRecDepth 100000
set_option maxHeartbeats 8000000
theorem mLine_c {s:List UInt8} {n i:Nat} {c:UInt8} (h:NthB feedsB s n i c) (hs:s.length<4294967296) (st:St) :
 S Tb F_measure_Line [.str s,.int .i64 ((n:Int)+1)] st=some (.tup [.int .i64 ((i:Int)+1),.int .i64 0],st):=by
 refine s_of rfl (fun A hA=>?_)
 have hi:=(List.getElem?_eq_some_iff.1 h.get).1
 have hn:n≤s.length:=by rw [← h.cnt];have:=List.countP_le_length (p:=feedsB) (l:=s.take i);rw [List.length_take] at this;omega
 have hF:=fun st=>findK_c feeds_c h hs st
 rw [show (n:Int)=(n:Int)+1-1 by omega] at hF
 repeat' (first|refine ruS rfl ?_|refine isS rfl ?_|refine rkS rfl ?_|(refine is_gtr rfl rfl (fun _=>?_) (fun _=>?_)<;>try (exfalso;omega))|(refine is_eql rfl rfl (fun _=>?_) (fun _=>?_)<;>try (exfalso;omega))|refine is_addS rfl rfl (by omega) ?_|refine is_subS rfl rfl (by omega) ?_|refine is_callE rfl rfl rfl (hF _) ?_)
 all_goals try contradiction
 all_goals try (exfalso;omega)
 refine end_st hA (by first|exact .inl rfl|exact .inr rfl) rfl rfl rfl rfl ?_
 rfl
def lineCh (ks:List Kid) (a:Int):Nat × Int:=((skipK Mea.l ks (a-1)).1,(skipK Mea.l ks (a-1)).2+1)
theorem lineC2_c:TellsM F_node_LineC2 Mea.l:=fun m st=>by
 refine s_of rfl (fun A hA=>?_)
 unfold Mea.av
 repeat' (first|refine ruS rfl ?_|refine isS rfl ?_|refine is_ldc rfl rfl rfl rfl ?_|refine rkS rfl ?_|refine is_box rfl rfl rfl ?_)
 refine end_st hA (by first|exact .inl rfl|exact .inr rfl) rfl rfl rfl rfl ?_
 rfl
theorem nLine_c (n:Nat) (ks:List Kid) (hx:NdOk ⟨n+1,[],some ks⟩) (a:Int) (h0:1≤a) (h1:a≤(sumM (ks.map Kid.m)).l) (hb:a≤1000000) (st:St) :
 S Tb F_node_Line [Nd.av ⟨n+1,[],some ks⟩,.int .i64 a] st=some (.tup [.int .i64 (lineCh ks a).1,.int .i64 (lineCh ks a).2,.int .i64 0],st):=by
 refine s_of rfl (fun A hA=>?_)
 have hC:=fun st=>choose_c lineC2_c comp_l n ks hx (a-1) (by omega) (by omega) (by omega) st
 have hin:∀ k∈ks,k.m.Fit 65536:=by
  rcases hx with q|⟨m,l,q⟩
  ·have:=q.h;simp at this
  ·have e:=q.eq
   simp only [Nd.mk.injEq,oJ] at e
   obtain ⟨_,_,rfl⟩:=e
   exact fun k hk=>(q.kid k hk).fit
 have hok:=skipK_ok comp_l ks (a-1) hin (by omega) (by omega)
 have hle:(skipK Mea.l ks (a-1)).2≤1000000:=by
  obtain ⟨h1',h2',h3',h4'⟩:=hok
  have:=h4' _ (List.getElem?_eq_getElem h1')
  have hf:=hin _ (List.getElem_mem h1')
  have:=hf.6
  omega
 have hge:=hok.2.2.1
 unfold lineCh
 simp only
 generalize skipK Mea.l ks (a-1)=R at *
 unfold Nd.av at *
 simp only [slV] at *
 repeat' (first|refine ruS rfl ?_|refine isS rfl ?_|refine is_ldc rfl rfl rfl rfl ?_|refine rkS rfl ?_|(refine is_lss rfl rfl (fun _=>?_) (fun _=>?_)<;>try (exfalso;omega))|(refine is_neq rfl rfl (fun _=>?_) (fun _=>?_)<;>try (exfalso;omega))|refine is_addS rfl rfl (by omega) ?_|refine is_subS rfl rfl (by omega) ?_|refine is_box rfl rfl rfl ?_|refine is_callE rfl rfl rfl (hC _) ?_)
 all_goals try contradiction
 all_goals try (exfalso;omega)
 refine end_st hA (by first|exact .inl rfl|exact .inr rfl) rfl rfl rfl rfl ?_
 rfl
theorem line_ok:NextOk F_node_Line lineCh (fun m a=>1≤a∧a≤m.l∧m.l≤1000000) where
 call n ks hx a ha st:=nLine_c n ks hx a ha.1 ha.2.1 (by omega) st
 ok ks a hf ha:=by
  obtain ⟨h1,h2,h3,h4⟩:=skipK_ok comp_l ks (a-1) hf (by omega) (by omega)
  exact ⟨h1,fun k hk=>⟨by show 1≤(skipK Mea.l ks (a-1)).2+1;omega,by have:=h4 k hk;show (skipK Mea.l ks (a-1)).2+1≤_;omega,by have:=(hf k (List.mem_of_getElem? hk)).6;omega⟩⟩
theorem seekF_line (q:Mea→Int) (N:Nodes):∀ (n o:Nat) (a:Int),seekF lineCh q N n o a=(((seekF (skipK Mea.l) q N n o (a-1)).1.1,(seekF (skipK Mea.l) q N n o (a-1)).1.2+1),(seekF (skipK Mea.l) q N n o (a-1)).2.1,(seekF (skipK Mea.l) q N n o (a-1)).2.2)
 | 0,o,a=>by
  simp only [seekF]
  congr 2
  omega
 | n+1,o,a=>by
  simp only [seekF]
  have e:(lineCh (ndAt N o).ks a).1=(skipK Mea.l (ndAt N o).ks (a-1)).1:=rfl
  have e2:(lineCh (ndAt N o).ks a).2=(skipK Mea.l (ndAt N o).ks (a-1)).2+1:=rfl
  rw [e,e2,seekF_line q N n]
  rw [show (skipK Mea.l (ndAt N o).ks (a-1)).2+1-1=(skipK Mea.l (ndAt N o).ks (a-1)).2 by omega]
theorem Line_c {st:St} {la b:Nat} {N:Nodes} (hN:GoodN N) (hR:Rd st la (b+5) N) {r:Ro} {s:List UInt8} (h:Rt N r s) {n i:Nat} {c:UInt8} (hi:NthB feedsB s n i c) (hs:s.length≤100000) :
 S Tb F_seek_Line [.ptr la (b+5) 0 0 0,r.av,.int .i64 ((n:Int)+1)] st=some (.tup [.int .i64 ((i:Int)+1),.int .i64 0],st):=by
 have hm:=h.m hN
 have hil:=(List.getElem?_eq_some_iff.1 hi.get).1
 have hcnt:=count_take_succ (p:=feedsB) hi.get
 rw [if_pos hi.is,hi.cnt] at hcnt
 have hct:=count_le_take (p:=feedsB) (s:=s) (i:=i+1) (j:=s.length) hil
 rw [hcnt,List.take_length] at hct
 have hcl:=List.countP_le_length (p:=feedsB) (l:=s)
 have hmr:r.m.l=s.countP feedsB:=by rw [hm];rfl
 have hmb:r.m.b=s.length:=by rw [hm];rfl
 obtain ⟨hz,x,x1,x2,x3,x4⟩:=h.rt.nz (by rw [hmb];omega)
 have htx:textR N r=s:=h.tx
 unfold textR at htx
 rw [if_neg hz] at htx
 obtain ⟨pre,leaf,post,t1,t2,t3,t4,t5⟩:=seek_text comp_l comp_b hN r.h r.at_ x (n:Int) x1 x3 (by omega) (by rw [x4,hmr];omega)
 rw [htx] at t1
 have ep:∀ l:List UInt8,(meaT l).l=l.countP feedsB:=fun l=>rfl
 have el:∀ l:List UInt8,(meaT l).b=l.length:=fun l=>rfl
 rw [ep] at t2 t3 t4
 rw [ep] at t4
 rw [el] at t5
 subst t1
 have hlen:(pre++leaf++post).length=pre.length+leaf.length+post.length:=by simp [Nat.add_assoc]
 obtain ⟨i',rfl,hi'⟩:=hi.inner (by omega) (by rw [List.countP_append];omega)
 have hil':=(List.getElem?_eq_some_iff.1 hi'.get).1
 have hg:=fun st=>mLine_c hi' (by omega) st
 rw [show ((n-List.countP feedsB pre:Nat):Int)=(n:Int)-List.countP feedsB pre by omega] at hg
 have hsl:=seekF_line Mea.b N r.h r.at_ ((n:Int)+1)
 rw [show (n:Int)+1-1=n by omega,t2,t5] at hsl
 simp only at hsl
 refine s_of rfl (fun A hA=>?_)
 have hC:=fun L=>sCheck_c (hR.push hA (ro:=false) (L:=L)) h.rt
 have hO:=fun L=>offset_c (g:=F_measure_Line) (t:=(i':Int)+1) line_ok hN (hR.push hA (ro:=false) (L:=L)) h.rt hz ((n:Int)+1) ⟨by omega,by omega,by omega⟩ (by rw [hsl];exact hg) (by rw [hsl];simp only;omega)
 rw [hsl] at hO
 simp only at hO
 have hn1:(n:Int)+1≤r.m.l:=by omega
 unfold Ro.av at *
 repeat' (first|refine ruS rfl ?_|refine isS rfl ?_|refine is_ldc rfl rfl rfl rfl ?_|refine rkS rfl ?_|(refine is_lss rfl rfl (fun _=>?_) (fun _=>?_)<;>try (exfalso;omega))|(refine is_gtr rfl rfl (fun _=>?_) (fun _=>?_)<;>try (exfalso;omega))|(refine is_eql rfl rfl (fun _=>?_) (fun _=>?_)<;>try (exfalso;omega))|(refine is_neq rfl rfl (fun _=>?_) (fun _=>?_)<;>try (exfalso;omega))|refine is_box rfl rfl rfl ?_|refine is_callE rfl rfl rfl (hC _) ?_|refine is_callE rfl rfl rfl (hO _) ?_)
 all_goals try contradiction
 all_goals try (exfalso;omega)
 refine end_st hA (by first|exact .inl rfl|exact .inr rfl) rfl rfl rfl rfl ?_
 rw [show ((pre.length+i':Nat):Int)+1=(pre.length:Int)+((i':Int)+1) by omega]
theorem Line_zero {st:St} {la b:Nat} {N:Nodes} (hN:GoodN N) (hR:Rd st la (b+5) N) {r:Ro} {s:List UInt8} (h:Rt N r s) (hs:s.length≤100000) :
 S Tb F_seek_Line [.ptr la (b+5) 0 0 0,r.av,.int .i64 0] st=some (.tup [.int .i64 0,.int .i64 0],st):=by
 have hm:=h.m hN
 have hmr:r.m.l=s.countP feedsB:=by rw [hm];rfl
 refine s_of rfl (fun A hA=>?_)
 have hC:=fun L=>sCheck_c (hR.push hA (ro:=false) (L:=L)) h.rt
 unfold Ro.av at *
 repeat' (first|refine ruS rfl ?_|refine isS rfl ?_|refine is_ldc rfl rfl rfl rfl ?_|refine rkS rfl ?_|(refine is_lss rfl rfl (fun _=>?_) (fun _=>?_)<;>try (exfalso;omega))|(refine is_gtr rfl rfl (fun _=>?_) (fun _=>?_)<;>try (exfalso;omega))|(refine is_eql rfl rfl (fun _=>?_) (fun _=>?_)<;>try (exfalso;omega))|(refine is_neq rfl rfl (fun _=>?_) (fun _=>?_)<;>try (exfalso;omega))|refine is_box rfl rfl rfl ?_|refine is_callE rfl rfl rfl (hC _) ?_)
 all_goals try contradiction
 all_goals try (exfalso;omega)
 refine end_st hA (by first|exact .inl rfl|exact .inr rfl) rfl rfl rfl rfl ?_
 rfl
theorem Rune_end {st:St} {la b:Nat} {N:Nodes} (hN:GoodN N) (hR:Rd st la (b+5) N) {r:Ro} {s:List UInt8} (h:Rt N r s) (hs:s.length≤100000) :
 S Tb F_seek_Rune [.ptr la (b+5) 0 0 0,r.av,.int .i64 (s.countP beginsB)] st=some (.tup [.int .i64 s.length,.int .i64 0],st):=by
 have hm:=h.m hN
 have hmr:r.m.r=s.countP beginsB:=by rw [hm];rfl
 have hmb:r.m.b=s.length:=by rw [hm];rfl
 refine s_of rfl (fun A hA=>?_)
 have hC:=fun L=>sCheck_c (hR.push hA (ro:=false) (L:=L)) h.rt
 rw [← hmr,← hmb]
 unfold Ro.av at *
 repeat' (first|refine ruS rfl ?_|refine isS rfl ?_|refine is_ldc rfl rfl rfl rfl ?_|refine rkS rfl ?_|(refine is_lss rfl rfl (fun _=>?_) (fun _=>?_)<;>try (exfalso;omega))|(refine is_gtr rfl rfl (fun _=>?_) (fun _=>?_)<;>try (exfalso;omega))|(refine is_eql rfl rfl (fun _=>?_) (fun _=>?_)<;>try (exfalso;omega))|(refine is_neq rfl rfl (fun _=>?_) (fun _=>?_)<;>try (exfalso;omega))|refine is_box rfl rfl rfl ?_|refine is_callE rfl rfl rfl (hC _) ?_)
 all_goals try contradiction
 all_goals try (exfalso;omega)
 refine end_st hA (by first|exact .inl rfl|exact .inr rfl) rfl rfl rfl rfl ?_
 rfl
end Go.Q15
namespace Go.Q15
open Go Go.QAbs
set_option maxRecDepth 100000
set_option maxHeartbeats 8000000
def befS (A:List (Bool × List Blk)) (r:Ro) (g:FuncId) (s:Int):St:=⟨A,false,[.arr 5 0 [r.av],.arr 1 0 [.func (.func g) [] []],.arr 1 0 [.int .i64 s]]⟩
theorem bef_cl (A:List (Bool × List Blk)) (r:Ro) (g:FuncId) (s:Int):Cl (befS A r g s) [(A.length,2)] [.arr 1 0 [.int .i64 s]]:=by
 refine ⟨by simp,rfl,fun k hk=>?_,fun j lv ix b h1 h2=>?_⟩
 ·simp only [List.mem_singleton] at hk
  subst hk;simp [St.wr,befS]
 ·match j,h1,h2 with
  | 0,h1,h2=>obtain ⟨rfl,rfl⟩:=Prod.mk.inj (Option.some.inj h1);obtain rfl:=Option.some.inj h2;exact St.get_cur ..
  | n+1,h1,h2=>simp at h1
theorem bef_put (A:List (Bool × List Blk)) (r:Ro) (g:FuncId) (s t:Int):putC (befS A r g s) [(A.length,2)] [.arr 1 0 [.int .i64 t]]=befS A r g t:=by
 simp [putC,St.upd,befS]
theorem befC1_c (A:List (Bool × List Blk)) (r:Ro) {g:FuncId} {q:Mea→Int} (hq:Comp q) (hg:TellsM g q) (s:Int) (m:Mea) (L:List Blk) (h0:0≤s) (h1:s≤1000000000) (hf:m.Fit 65536) :
 S Tb F_seek_beforeC1 [m.av,.ptr A.length 2 0 0 0,.ptr A.length 1 0 0 0] ⟨(befS A r g s).ps,false,L⟩=some (.tup [],⟨(befS A r g (s+q m)).ps,false,L⟩):=by
 have H:=(bef_cl A r g s).push (A:=(befS A r g s).ps) (ro:=false) (L:=L) rfl
 have e:putC ⟨(befS A r g s).ps,false,L⟩ [(A.length,2)] [.arr 1 0 [.int .i64 (s+q m)]]=⟨(befS A r g (s+q m)).ps,false,L⟩:=by
  rw [putC_push rfl (fun k hk=>by simp only [List.mem_singleton] at hk;subst hk;exact Nat.le_refl _),bef_put]
 obtain ⟨f1,f2⟩:=hq.fit m 65536 hf
 have hgm:=fun st=>hg m st
 have hpart:∀ L',St.get ⟨(befS A r g s).ps++[(false,L)],false,L'⟩ A.length 1=some (.arr 1 0 [.func (.func g) [] []]):=fun L'=>by
  have h1:(befS A r g s).get A.length 1=some (.arr 1 0 [.func (.func g) [] []]):=St.get_cur ..
  exact get_old (st:=⟨(befS A r g s).ps,false,L⟩) rfl (get_old rfl h1)
 rw [← e]
 refine s_ofW rfl (fun A1 hA=>?_)
 have hA':A1=(putC ⟨(befS A r g s).ps,false,L⟩ [(A.length,2)] [.arr 1 0 [.int .i64 s]]).ps:=by rw [H.same];exact hA
 have g2:=fun L'=>H.old hA' rfl rfl (ro:=false) (L:=L') (j:=0) rfl rfl
 have hA0:A1=(befS A r g s).ps++[(false,L)]:=hA
 have hpart1:∀ L',St.get ⟨A1,false,L'⟩ A.length 1=some (.arr 1 0 [.func (.func g) [] []]):=fun L'=>by rw [hA0];exact hpart L'
 unfold Mea.av at *
 repeat' (first|refine is_ld rfl (hpart1 _) rfl rfl ?_|refine is_callP rfl rfl rfl (hgm _) ?_|refine ruS rfl ?_|refine is_ldc rfl rfl rfl rfl ?_|refine is_nil rfl ?_|refine rk_seq ?_|refine is_addS rfl rfl (by omega) ?_|refine is_box rfl rfl rfl ?_|refine is_ld rfl (g2 _) rfl rfl ?_)
 all_goals try contradiction
 all_goals try (exfalso;omega)
 refine is_stC H hA' rfl rfl (j:=0) rfl rfl rfl rfl rfl rfl rfl (fun A2 hA2 _=>?_)
 repeat' (first|refine is_nil rfl ?_|refine rk_nil ?_)
 refine end_st hA2 (.inl rfl) rfl rfl rfl rfl ?_
 rfl
theorem bef_pass (A:List (Bool × List Blk)) (r:Ro) {g:FuncId} {q:Mea→Int} (hq:Comp q) (hg:TellsM g q):Pass (befS A r g) q F_seek_beforeC1 [.ptr A.length 2 0 0 0,.ptr A.length 1 0 0 0] (A.length+1) :=
 ⟨hq,fun _=>by simp [befS],fun s m L h0 h1 hf=>⟨_,befC1_c A r hq hg s m L h0 h1 hf⟩,fun m=>rfl⟩
theorem before_c {g f:FuncId} {q:Mea→Int} (hq:Comp q) (hg:TellsM g q) {p:UInt8→Bool} (hp:∀ l,q (meaT l)=l.countP p) (hf:∀ (s:List UInt8) (a:Int),0≤a→a≤s.length→s.length<100001→∀ st,S Tb f [.str s,.int .i64 a] st=some (.tup [.int .i64 ((s.take a.toNat).countP p),.int .i64 0],st))
 {st:St} {la b:Nat} {N:Nodes} (hN:GoodN N) (hR:Rd st la (b+5) N) {r:Ro} {s:List UInt8} (h:Rt N r s) {a:Int} (h0:0≤a) (h1:a≤s.length) (hs:s.length≤100000) :
 S Tb F_seek_before [.ptr la (b+5) 0 0 0,r.av,.int .i64 a,.func (.func g) [] [],.func (.func f) [] []] st=some (.tup [.int .i64 ((s.take a.toNat).countP p),.int .i64 0],st):=by
 have hm:=h.m hN
 have hmq:q r.m=s.countP p:=by rw [hm];exact hp s
 have hmb:r.m.b=s.length:=by rw [hm];rfl
 refine s_of rfl (fun A hA=>?_)
 have hC:=fun L=>sCheck_c (hR.push hA (ro:=false) (L:=L)) h.rt
 have hgm:=fun st=>hg r.m st
 rw [hmq] at hgm
 by_cases he:a=s.length
 ·have e1:s.take a.toNat=s:=by rw [List.take_of_length_le (by omega)]
  rw [e1]
  unfold Ro.av Mea.av at *
  repeat' (first|refine ruS rfl ?_|refine isS rfl ?_|refine is_ldc rfl rfl rfl rfl ?_|refine rkS rfl ?_|(refine is_lss rfl rfl (fun _=>?_) (fun _=>?_)<;>try (exfalso;omega))|(refine is_gtr rfl rfl (fun _=>?_) (fun _=>?_)<;>try (exfalso;omega))|(refine is_eql rfl rfl (fun _=>?_) (fun _=>?_)<;>try (exfalso;omega))|(refine is_neq rfl rfl (fun _=>?_) (fun _=>?_)<;>try (exfalso;omega))|refine is_box rfl rfl rfl ?_|refine is_callE rfl rfl rfl (hC _) ?_|refine is_callE rfl rfl rfl (hgm _) ?_)
  all_goals try contradiction
  all_goals try (exfalso;omega)
  refine end_st hA (by first|exact .inl rfl|exact .inr rfl) rfl rfl rfl rfl ?_
  rfl
 ·obtain ⟨hz,x,x1,x2,x3,x4⟩:=h.rt.nz (by rw [hmb];omega)
  have htx:textR N r=s:=h.tx
  unfold textR at htx
  rw [if_neg hz] at htx
  obtain ⟨pre,leaf,post,t1,t2,t3,t4,t5⟩:=seek_text comp_b hq hN r.h r.at_ x a x1 x3 h0 (by rw [x4,hmb];omega)
  rw [htx] at t1
  have el:∀ l:List UInt8,(meaT l).b=l.length:=fun l=>rfl
  rw [el] at t2 t3 t4
  rw [el] at t4
  rw [hp] at t5
  subst t1
  have hlen:(pre++leaf++post).length=pre.length+leaf.length+post.length:=by simp [Nat.add_assoc]
  have hW:=skWalk_c (bef_pass A r hq hg) child_ok hN (fun s=>hR.push hA (ro:=false) (L:=[.arr 5 0 [r.av],.arr 1 0 [.func (.func g) [] []],.arr 1 0 [.int .i64 s]])) h.rt hz a ⟨h0,by omega,by omega⟩ 0 ⟨by decide,by decide⟩
  rw [Int.zero_add,t2,t5] at hW
  have hin:=fun st=>hf leaf (a-pre.length) t3 (by omega) (by omega) st
  have hct:((pre++leaf++post).take a.toNat).countP p=pre.countP p+(leaf.take (a-pre.length).toNat).countP p:=by
   rw [show a.toNat=pre.length+(a-pre.length).toNat by omega,List.append_assoc,List.take_length_add_append,List.take_append_of_le_length (by omega),List.countP_append]
  have hb1:=List.countP_le_length (p:=p) (l:=pre)
  have hb2:=List.countP_le_length (p:=p) (l:=leaf.take (a-(pre.length:Int)).toNat)
  rw [List.length_take] at hb2
  rw [hct]
  simp only at hW
  generalize (seekF (skipK Mea.b) q N r.h r.at_ a).2.1=path at *
  unfold befS at hW
  unfold Ro.av at *
  repeat' (first|refine ruS rfl ?_|refine isS rfl ?_|refine is_ldc rfl rfl rfl rfl ?_|refine rkS rfl ?_|(refine is_lss rfl rfl (fun _=>?_) (fun _=>?_)<;>try (exfalso;omega))|(refine is_gtr rfl rfl (fun _=>?_) (fun _=>?_)<;>try (exfalso;omega))|(refine is_eql rfl rfl (fun _=>?_) (fun _=>?_)<;>try (exfalso;omega))|(refine is_neq rfl rfl (fun _=>?_) (fun _=>?_)<;>try (exfalso;omega))|refine is_addS rfl rfl (by omega) ?_|refine is_mkf rfl rfl ?_|refine is_box rfl rfl rfl ?_|refine is_stb rfl rfl rfl rfl rfl rfl ?_|refine is_callE rfl rfl rfl (hC _) ?_|refine is_callE rfl rfl rfl (hW) ?_|refine is_callE rfl rfl rfl (hin _) ?_)
  all_goals try contradiction
  all_goals try (exfalso;omega)
  refine end_st hA (by first|exact .inl rfl|exact .inr rfl) rfl rfl rfl rfl ?_
  rfl
theorem mBefore_c {g:FuncId} {p:UInt8→Bool} (hg:Tells g p) (s:List UInt8) (a:Int) (h0:0≤a) (h1:a≤s.length) (hs:s.length<100001) (st:St) :
 S Tb F_measure_before [.str s,.int .i64 a,.func (.func g) [] []] st=some (.tup [.int .i64 ((s.take a.toNat).countP p),.int .i64 0],st):=by
 refine s_of rfl (fun A hA=>?_)
 have hC:=fun st=>count_c g p hg (s.take a.toNat) (by rw [List.length_take];omega) st
 repeat' (first|refine ruS rfl ?_|refine isS rfl ?_|refine rkS rfl ?_|refine is_lenS rfl ?_|(refine is_lss rfl rfl (fun _=>?_) (fun _=>?_)<;>try (exfalso;omega))|(refine is_gtr rfl rfl (fun _=>?_) (fun _=>?_)<;>try (exfalso;omega))|refine is_slcS_hi rfl rfl (by omega) ?_|refine is_callE rfl rfl rfl (hC _) ?_)
 all_goals try contradiction
 all_goals try (exfalso;omega)
 refine end_st hA (by first|exact .inl rfl|exact .inr rfl) rfl rfl rfl rfl ?_
 rfl
theorem mRunesBefore_c (s:List UInt8) (a:Int) (h0:0≤a) (h1:a≤s.length) (hs:s.length<100001) (st:St) :
 S Tb F_measure_RunesBefore [.str s,.int .i64 a] st=some (.tup [.int .i64 ((s.take a.toNat).countP beginsB),.int .i64 0],st):=by
 refine s_of rfl (fun A hA=>?_)
 have hC:=fun st=>mBefore_c begins_c s a h0 h1 hs st
 repeat' (first|refine ruS rfl ?_|refine isS rfl ?_|refine rkS rfl ?_|refine is_callE rfl rfl rfl (hC _) ?_)
 all_goals try contradiction
 refine end_st hA (by first|exact .inl rfl|exact .inr rfl) rfl rfl rfl rfl ?_
 rfl
theorem mLineOf_c (s:List UInt8) (a:Int) (h0:0≤a) (h1:a≤s.length) (hs:s.length<100001) (st:St) :
 S Tb F_measure_LineOf [.str s,.int .i64 a] st=some (.tup [.int .i64 ((s.take a.toNat).countP feedsB),.int .i64 0],st):=by
 refine s_of rfl (fun A hA=>?_)
 have hC:=fun st=>mBefore_c feeds_c s a h0 h1 hs st
 repeat' (first|refine ruS rfl ?_|refine isS rfl ?_|refine rkS rfl ?_|refine is_callE rfl rfl rfl (hC _) ?_)
 all_goals try contradiction
 refine end_st hA (by first|exact .inl rfl|exact .inr rfl) rfl rfl rfl rfl ?_
 rfl
theorem rbC1_c:TellsM F_seek_RunesBeforeC1 Mea.r:=fun m st=>by
 refine s_of rfl (fun A hA=>?_)
 unfold Mea.av
 repeat' (first|refine ruS rfl ?_|refine isS rfl ?_|refine is_ldc rfl rfl rfl rfl ?_|refine rkS rfl ?_|refine is_box rfl rfl rfl ?_)
 refine end_st hA (by first|exact .inl rfl|exact .inr rfl) rfl rfl rfl rfl ?_
 rfl
theorem loC1_c:TellsM F_seek_LineOfC1 Mea.l:=fun m st=>by
 refine s_of rfl (fun A hA=>?_)
 unfold Mea.av
 repeat' (first|refine ruS rfl ?_|refine isS rfl ?_|refine is_ldc rfl rfl rfl rfl ?_|refine rkS rfl ?_|refine is_box rfl rfl rfl ?_)
 refine end_st hA (by first|exact .inl rfl|exact .inr rfl) rfl rfl rfl rfl ?_
 rfl
theorem RunesBefore_c {st:St} {la b:Nat} {N:Nodes} (hN:GoodN N) (hR:Rd st la (b+5) N) {r:Ro} {s:List UInt8} (h:Rt N r s) {a:Int} (h0:0≤a) (h1:a≤s.length) (hs:s.length≤100000) :
 S Tb F_seek_RunesBefore [.ptr la (b+5) 0 0 0,r.av,.int .i64 a] st=some (.tup [.int .i64 ((s.take a.toNat).countP beginsB),.int .i64 0],st):=by
 refine s_of rfl (fun A hA=>?_)
 have hB:=fun L=>before_c comp_r rbC1_c (p:=beginsB) (fun l=>rfl) (fun s a h0 h1 hs st=>mRunesBefore_c s a h0 h1 hs st) hN (hR.push hA (ro:=false) (L:=L)) h h0 h1 hs
 unfold Ro.av at *
 repeat' (first|refine ruS rfl ?_|refine isS rfl ?_|refine is_ldc rfl rfl rfl rfl ?_|refine rkS rfl ?_|refine is_box rfl rfl rfl ?_|refine is_callE rfl rfl rfl (hB _) ?_)
 all_goals try contradiction
 refine end_st hA (by first|exact .inl rfl|exact .inr rfl) rfl rfl rfl rfl ?_
 rfl
theorem LineOf_c {st:St} {la b:Nat} {N:Nodes} (hN:GoodN N) (hR:Rd st la (b+5) N) {r:Ro} {s:List UInt8} (h:Rt N r s) {a:Int} (h0:0≤a) (h1:a≤s.length) (hs:s.length≤100000) :
 S Tb F_seek_LineOf [.ptr la (b+5) 0 0 0,r.av,.int .i64 a] st=some (.tup [.int .i64 ((s.take a.toNat).countP feedsB),.int .i64 0],st):=by
 refine s_of rfl (fun A hA=>?_)
 have hB:=fun L=>before_c comp_l loC1_c (p:=feedsB) (fun l=>rfl) (fun s a h0 h1 hs st=>mLineOf_c s a h0 h1 hs st) hN (hR.push hA (ro:=false) (L:=L)) h h0 h1 hs
 unfold Ro.av at *
 repeat' (first|refine ruS rfl ?_|refine isS rfl ?_|refine is_ldc rfl rfl rfl rfl ?_|refine rkS rfl ?_|refine is_box rfl rfl rfl ?_|refine is_callE rfl rfl rfl (hB _) ?_)
 all_goals try contradiction
 refine end_st hA (by first|exact .inl rfl|exact .inr rfl) rfl rfl rfl rfl ?_
 rfl
theorem Boundary_end {st:St} {la b:Nat} {N:Nodes} (hN:GoodN N) (hR:Rd st la (b+5) N) {r:Ro} {s:List UInt8} (h:Rt N r s) (hs:s.length≤100000) :
 S Tb F_seek_Boundary [.ptr la (b+5) 0 0 0,r.av,.int .i64 s.length] st=some (.tup [.bool true,.int .i64 0],st):=by
 have hm:=h.m hN
 have hmb:r.m.b=s.length:=by rw [hm];rfl
 refine s_of rfl (fun A hA=>?_)
 have hC:=fun L=>sCheck_c (hR.push hA (ro:=false) (L:=L)) h.rt
 rw [← hmb]
 unfold Ro.av at *
 repeat' (first|refine ruS rfl ?_|refine isS rfl ?_|refine is_ldc rfl rfl rfl rfl ?_|refine rkS rfl ?_|(refine is_lss rfl rfl (fun _=>?_) (fun _=>?_)<;>try (exfalso;omega))|(refine is_gtr rfl rfl (fun _=>?_) (fun _=>?_)<;>try (exfalso;omega))|(refine is_eql rfl rfl (fun _=>?_) (fun _=>?_)<;>try (exfalso;omega))|(refine is_neq rfl rfl (fun _=>?_) (fun _=>?_)<;>try (exfalso;omega))|refine is_box rfl rfl rfl ?_|refine is_callE rfl rfl rfl (hC _) ?_)
 all_goals try contradiction
 all_goals try (exfalso;omega)
 refine end_st hA (by first|exact .inl rfl|exact .inr rfl) rfl rfl rfl rfl ?_
 rfl
theorem Boundary_c {st:St} {la b:Nat} {N:Nodes} (hN:GoodN N) (hR:Rd st la (b+5) N) {r:Ro} {s:List UInt8} (h:Rt N r s) {i:Nat} {c:UInt8} (hi:s[i]?=some c) (hs:s.length≤100000) :
 S Tb F_seek_Boundary [.ptr la (b+5) 0 0 0,r.av,.int .i64 i] st=some (.tup [.bool (beginsB c),.int .i64 0],st):=by
 have hm:=h.m hN
 have hmb:r.m.b=s.length:=by rw [hm];rfl
 have hil:=(List.getElem?_eq_some_iff.1 hi).1
 have hbb:beginsB c=(decide (((c.toNat:Nat):Int)<128) || decide (191<((c.toNat:Nat):Int))):=by
  unfold beginsB
  apply Bool.eq_iff_iff.2
  simp
  omega
 refine s_of rfl (fun A hA=>?_)
 have hC:=fun L=>sCheck_c (hR.push hA (ro:=false) (L:=L)) h.rt
 have hB:=fun L=>Byte_t hN (hR.push hA (ro:=false) (L:=L)) h hi hs
 rw [hbb]
 by_cases q1:((c.toNat:Nat):Int)<128
 ·rw [decide_eq_true q1,Bool.true_or]
  unfold Ro.av at *
  repeat' (first|refine ruS rfl ?_|refine isS rfl ?_|refine is_ldc rfl rfl rfl rfl ?_|refine rkS rfl ?_|(refine is_lss rfl rfl (fun _=>?_) (fun _=>?_)<;>try (exfalso;omega))|(refine is_gtr rfl rfl (fun _=>?_) (fun _=>?_)<;>try (exfalso;omega))|(refine is_eql rfl rfl (fun _=>?_) (fun _=>?_)<;>try (exfalso;omega))|(refine is_neq rfl rfl (fun _=>?_) (fun _=>?_)<;>try (exfalso;omega))|refine is_box rfl rfl rfl ?_|refine is_callE rfl rfl rfl (hC _) ?_|refine is_callE rfl rfl rfl (hB _) ?_)
  all_goals try contradiction
  all_goals try (exfalso;omega)
  refine end_st hA (by first|exact .inl rfl|exact .inr rfl) rfl rfl rfl rfl ?_
  rfl
 ·by_cases q2:191<((c.toNat:Nat):Int)
  ·rw [decide_eq_true q2,Bool.or_true]
   unfold Ro.av at *
   repeat' (first|refine ruS rfl ?_|refine isS rfl ?_|refine is_ldc rfl rfl rfl rfl ?_|refine rkS rfl ?_|(refine is_lss rfl rfl (fun _=>?_) (fun _=>?_)<;>try (exfalso;omega))|(refine is_gtr rfl rfl (fun _=>?_) (fun _=>?_)<;>try (exfalso;omega))|(refine is_eql rfl rfl (fun _=>?_) (fun _=>?_)<;>try (exfalso;omega))|(refine is_neq rfl rfl (fun _=>?_) (fun _=>?_)<;>try (exfalso;omega))|refine is_box rfl rfl rfl ?_|refine is_callE rfl rfl rfl (hC _) ?_|refine is_callE rfl rfl rfl (hB _) ?_)
   all_goals try contradiction
   all_goals try (exfalso;omega)
   refine end_st hA (by first|exact .inl rfl|exact .inr rfl) rfl rfl rfl rfl ?_
   rfl
  ·rw [decide_eq_false q1,decide_eq_false q2,Bool.or_false]
   unfold Ro.av at *
   repeat' (first|refine ruS rfl ?_|refine isS rfl ?_|refine is_ldc rfl rfl rfl rfl ?_|refine rkS rfl ?_|(refine is_lss rfl rfl (fun _=>?_) (fun _=>?_)<;>try (exfalso;omega))|(refine is_gtr rfl rfl (fun _=>?_) (fun _=>?_)<;>try (exfalso;omega))|(refine is_eql rfl rfl (fun _=>?_) (fun _=>?_)<;>try (exfalso;omega))|(refine is_neq rfl rfl (fun _=>?_) (fun _=>?_)<;>try (exfalso;omega))|refine is_box rfl rfl rfl ?_|refine is_callE rfl rfl rfl (hC _) ?_|refine is_callE rfl rfl rfl (hB _) ?_)
   all_goals try contradiction
   all_goals try (exfalso;omega)
   refine end_st hA (by first|exact .inl rfl|exact .inr rfl) rfl rfl rfl rfl ?_
   rfl
end Go.Q15
namespace Go.Q15
open Go Go.QAbs
set_option maxRecDepth 100000
set_option maxHeartbeats 4000000
theorem nth_ex {p:UInt8→Bool} {s:List UInt8} {k:Nat} (h:k<s.countP p):∃ i c,NthB p s k i c:=by
 have key:∀ n,n≤s.length→k<(s.take n).countP p→∃ i c,NthB p s k i c:=by
  intro n
  induction n with
  | zero=>intro _ h;simp at h
  | succ n ih =>
   intro hn hk
   rcases Nat.lt_or_ge k ((s.take n).countP p) with q|q
   ·exact ih (by omega) q
   ·obtain ⟨c,hc⟩:∃ c,s[n]?=some c:=⟨_,List.getElem?_eq_getElem (by omega)⟩
    have hs:=count_take_succ (p:=p) hc
    by_cases hp:p c=true
    ·rw [if_pos hp] at hs
     exact ⟨n,c,hc,hp,by omega⟩
    ·rw [if_neg hp] at hs;omega
 exact key s.length (Nat.le_refl _) (by rw [List.take_length];exact h)
end Go.Q15
namespace Go.Q15
open Go Go.QAbs
set_option maxRecDepth 100000
set_option maxHeartbeats 8000000
open Classical in
noncomputable def idxB (p:UInt8→Bool) (s:List UInt8) (n:Nat):Nat:=if h:∃ i c,NthB p s n i c then h.choose else 0
theorem idxB_ok {p:UInt8→Bool} {s:List UInt8} {n:Nat} (h:n<s.countP p):∃ c,NthB p s n (idxB p s n) c:=by
 have hx:=nth_ex h
 unfold idxB
 rw [dif_pos hx]
 exact hx.choose_spec
noncomputable def byteV (s:List UInt8) (n:Int):Int × Int:=if 0≤n∧n<s.length then (((s[n.toNat]?).getD 0).toNat,0) else (0,3)
noncomputable def runeV (s:List UInt8) (n:Int):Int × Int:=if n<0∨(s.countP beginsB:Int)<n then (0,3) else if n=s.countP beginsB then (s.length,0) else (idxB beginsB s n.toNat,0)
noncomputable def lineV (s:List UInt8) (n:Int):Int × Int:=if n<0∨(s.countP feedsB:Int)<n then (0,3) else if n=0 then (0,0) else ((idxB feedsB s (n-1).toNat:Int)+1,0)
noncomputable def befV (p:UInt8→Bool) (s:List UInt8) (a:Int):Int × Int:=if a<0∨(s.length:Int)<a then (0,3) else ((s.take a.toNat).countP p,0)
noncomputable def bdV (s:List UInt8) (n:Int):Bool × Int:=if n<0∨(s.length:Int)<n then (false,3) else if n=s.length then (true,0) else (beginsB ((s[n.toNat]?).getD 0),0)
section
variable {st:St} {la b:Nat} {N:Nodes}
theorem Byte_a (hN:GoodN N) (hR:Rd st la (b+5) N) {r:Ro} {s:List UInt8} (h:Rt N r s) (n:Int) (hs:s.length≤100000) :
 S Tb F_seek_Byte [.ptr la (b+5) 0 0 0,r.av,.int .i64 n] st=some (.tup [.int .u8 (byteV s n).1,.int .i64 (byteV s n).2],st):=by
 have hb:=(h.b hN).2
 unfold byteV
 split
 ·rename_i q
  obtain ⟨c,hc⟩:∃ c,s[n.toNat]?=some c:=⟨_,List.getElem?_eq_getElem (by omega)⟩
  have:=Byte_t hN hR h hc hs
  rw [show ((n.toNat:Nat):Int)=n by omega] at this
  rw [this,hc];rfl
 ·rename_i q
  exact Byte_no hR h.rt n (by omega)
theorem Rune_no (hN:GoodN N) (hR:Rd st la (b+5) N) {r:Ro} (hr:RtOk N r) (n:Int) (h0:n<0∨r.m.r<n) :
 S Tb F_seek_Rune [.ptr la (b+5) 0 0 0,r.av,.int .i64 n] st=some (.tup [.int .i64 0,.int .i64 3],st):=by
 refine s_of rfl (fun A hA=>?_)
 have hC:=fun L=>sCheck_c (hR.push hA (ro:=false) (L:=L)) hr
 unfold Ro.av at *
 repeat' (first|refine ruS rfl ?_|refine isS rfl ?_|refine is_ldc rfl rfl rfl rfl ?_|refine rkS rfl ?_|(refine is_lss rfl rfl (fun _=>?_) (fun _=>?_)<;>try (exfalso;omega))|(refine is_gtr rfl rfl (fun _=>?_) (fun _=>?_)<;>try (exfalso;omega))|(refine is_neq rfl rfl (fun _=>?_) (fun _=>?_)<;>try (exfalso;omega))|refine is_box rfl rfl rfl ?_|refine is_callE rfl rfl rfl (hC _) ?_)
 all_goals try contradiction
 all_goals try (exfalso;omega)
 all_goals refine end_st hA (by first|exact .inl rfl|exact .inr rfl) rfl rfl rfl rfl ?_
 all_goals rfl
theorem Line_no (hN:GoodN N) (hR:Rd st la (b+5) N) {r:Ro} (hr:RtOk N r) (n:Int) (h0:n<0∨r.m.l<n) :
 S Tb F_seek_Line [.ptr la (b+5) 0 0 0,r.av,.int .i64 n] st=some (.tup [.int .i64 0,.int .i64 3],st):=by
 refine s_of rfl (fun A hA=>?_)
 have hC:=fun L=>sCheck_c (hR.push hA (ro:=false) (L:=L)) hr
 unfold Ro.av at *
 repeat' (first|refine ruS rfl ?_|refine isS rfl ?_|refine is_ldc rfl rfl rfl rfl ?_|refine rkS rfl ?_|(refine is_lss rfl rfl (fun _=>?_) (fun _=>?_)<;>try (exfalso;omega))|(refine is_gtr rfl rfl (fun _=>?_) (fun _=>?_)<;>try (exfalso;omega))|(refine is_neq rfl rfl (fun _=>?_) (fun _=>?_)<;>try (exfalso;omega))|refine is_box rfl rfl rfl ?_|refine is_callE rfl rfl rfl (hC _) ?_)
 all_goals try contradiction
 all_goals try (exfalso;omega)
 all_goals refine end_st hA (by first|exact .inl rfl|exact .inr rfl) rfl rfl rfl rfl ?_
 all_goals rfl
theorem before_no (hR:Rd st la (b+5) N) {r:Ro} (hr:RtOk N r) (n:Int) (h0:n<0∨r.m.b<n) (f g:FuncId) :
 S Tb F_seek_before [.ptr la (b+5) 0 0 0,r.av,.int .i64 n,.func (.func f) [] [],.func (.func g) [] []] st=some (.tup [.int .i64 0,.int .i64 3],st):=by
 refine s_of rfl (fun A hA=>?_)
 have hC:=fun L=>sCheck_c (hR.push hA (ro:=false) (L:=L)) hr
 unfold Ro.av at *
 repeat' (first|refine ruS rfl ?_|refine isS rfl ?_|refine is_ldc rfl rfl rfl rfl ?_|refine rkS rfl ?_|(refine is_lss rfl rfl (fun _=>?_) (fun _=>?_)<;>try (exfalso;omega))|(refine is_gtr rfl rfl (fun _=>?_) (fun _=>?_)<;>try (exfalso;omega))|(refine is_neq rfl rfl (fun _=>?_) (fun _=>?_)<;>try (exfalso;omega))|refine is_box rfl rfl rfl ?_|refine is_callE rfl rfl rfl (hC _) ?_)
 all_goals try contradiction
 all_goals try (exfalso;omega)
 all_goals refine end_st hA (by first|exact .inl rfl|exact .inr rfl) rfl rfl rfl rfl ?_
 all_goals rfl
theorem RunesBefore_no (hR:Rd st la (b+5) N) {r:Ro} (hr:RtOk N r) (n:Int) (h0:n<0∨r.m.b<n) :
 S Tb F_seek_RunesBefore [.ptr la (b+5) 0 0 0,r.av,.int .i64 n] st=some (.tup [.int .i64 0,.int .i64 3],st):=by
 refine s_of rfl (fun A hA=>?_)
 have hB:=fun L f g=>before_no (hR.push hA (ro:=false) (L:=L)) hr n h0 f g
 unfold Ro.av at *
 repeat' (first|refine ruS rfl ?_|refine isS rfl ?_|refine is_ldc rfl rfl rfl rfl ?_|refine rkS rfl ?_|refine is_box rfl rfl rfl ?_|refine is_callE rfl rfl rfl (hB _ _ _) ?_)
 all_goals try contradiction
 all_goals try (exfalso;omega)
 all_goals refine end_st hA (by first|exact .inl rfl|exact .inr rfl) rfl rfl rfl rfl ?_
 all_goals rfl
theorem LineOf_no (hR:Rd st la (b+5) N) {r:Ro} (hr:RtOk N r) (n:Int) (h0:n<0∨r.m.b<n) :
 S Tb F_seek_LineOf [.ptr la (b+5) 0 0 0,r.av,.int .i64 n] st=some (.tup [.int .i64 0,.int .i64 3],st):=by
 refine s_of rfl (fun A hA=>?_)
 have hB:=fun L f g=>before_no (hR.push hA (ro:=false) (L:=L)) hr n h0 f g
 unfold Ro.av at *
 repeat' (first|refine ruS rfl ?_|refine isS rfl ?_|refine is_ldc rfl rfl rfl rfl ?_|refine rkS rfl ?_|refine is_box rfl rfl rfl ?_|refine is_callE rfl rfl rfl (hB _ _ _) ?_)
 all_goals try contradiction
 all_goals try (exfalso;omega)
 all_goals refine end_st hA (by first|exact .inl rfl|exact .inr rfl) rfl rfl rfl rfl ?_
 all_goals rfl
theorem Boundary_no (hR:Rd st la (b+5) N) {r:Ro} (hr:RtOk N r) (n:Int) (h0:n<0∨r.m.b<n) :
 S Tb F_seek_Boundary [.ptr la (b+5) 0 0 0,r.av,.int .i64 n] st=some (.tup [.bool false,.int .i64 3],st):=by
 refine s_of rfl (fun A hA=>?_)
 have hC:=fun L=>sCheck_c (hR.push hA (ro:=false) (L:=L)) hr
 unfold Ro.av at *
 repeat' (first|refine ruS rfl ?_|refine isS rfl ?_|refine is_ldc rfl rfl rfl rfl ?_|refine rkS rfl ?_|(refine is_lss rfl rfl (fun _=>?_) (fun _=>?_)<;>try (exfalso;omega))|(refine is_gtr rfl rfl (fun _=>?_) (fun _=>?_)<;>try (exfalso;omega))|(refine is_neq rfl rfl (fun _=>?_) (fun _=>?_)<;>try (exfalso;omega))|refine is_box rfl rfl rfl ?_|refine is_callE rfl rfl rfl (hC _) ?_)
 all_goals try contradiction
 all_goals try (exfalso;omega)
 all_goals refine end_st hA (by first|exact .inl rfl|exact .inr rfl) rfl rfl rfl rfl ?_
 all_goals rfl
theorem Rune_a (hN:GoodN N) (hR:Rd st la (b+5) N) {r:Ro} {s:List UInt8} (h:Rt N r s) (n:Int) (hs:s.length≤100000) :
 S Tb F_seek_Rune [.ptr la (b+5) 0 0 0,r.av,.int .i64 n] st=some (.tup [.int .i64 (runeV s n).1,.int .i64 (runeV s n).2],st):=by
 have hm:=h.m hN
 have hmr:r.m.r=s.countP beginsB:=by rw [hm];rfl
 unfold runeV
 split
 ·rename_i q;exact Rune_no hN hR h.rt n (by omega)
 ·rename_i q
  split
  ·rename_i q2;subst q2;exact Rune_end hN hR h hs
  ·rename_i q2
   obtain ⟨c,hc⟩:=idxB_ok (p:=beginsB) (s:=s) (n:=n.toNat) (by omega)
   have:=Rune_c hN hR h hc hs
   rw [show ((n.toNat:Nat):Int)=n by omega] at this
   exact this
theorem Line_a (hN:GoodN N) (hR:Rd st la (b+5) N) {r:Ro} {s:List UInt8} (h:Rt N r s) (n:Int) (hs:s.length≤100000) :
 S Tb F_seek_Line [.ptr la (b+5) 0 0 0,r.av,.int .i64 n] st=some (.tup [.int .i64 (lineV s n).1,.int .i64 (lineV s n).2],st):=by
 have hm:=h.m hN
 have hmr:r.m.l=s.countP feedsB:=by rw [hm];rfl
 unfold lineV
 split
 ·rename_i q;exact Line_no hN hR h.rt n (by omega)
 ·rename_i q
  split
  ·rename_i q2;subst q2;exact Line_zero hN hR h hs
  ·rename_i q2
   obtain ⟨c,hc⟩:=idxB_ok (p:=feedsB) (s:=s) (n:=(n-1).toNat) (by omega)
   have:=Line_c hN hR h hc hs
   rw [show (((n-1).toNat:Nat):Int)+1=n by omega] at this
   exact this
theorem RunesBefore_a (hN:GoodN N) (hR:Rd st la (b+5) N) {r:Ro} {s:List UInt8} (h:Rt N r s) (n:Int) (hs:s.length≤100000) :
 S Tb F_seek_RunesBefore [.ptr la (b+5) 0 0 0,r.av,.int .i64 n] st=some (.tup [.int .i64 (befV beginsB s n).1,.int .i64 (befV beginsB s n).2],st):=by
 have hb:=(h.b hN).2
 unfold befV
 split
 ·exact RunesBefore_no hR h.rt n (by omega)
 ·exact RunesBefore_c hN hR h (by omega) (by omega) hs
theorem LineOf_a (hN:GoodN N) (hR:Rd st la (b+5) N) {r:Ro} {s:List UInt8} (h:Rt N r s) (n:Int) (hs:s.length≤100000) :
 S Tb F_seek_LineOf [.ptr la (b+5) 0 0 0,r.av,.int .i64 n] st=some (.tup [.int .i64 (befV feedsB s n).1,.int .i64 (befV feedsB s n).2],st):=by
 have hb:=(h.b hN).2
 unfold befV
 split
 ·exact LineOf_no hR h.rt n (by omega)
 ·exact LineOf_c hN hR h (by omega) (by omega) hs
theorem Boundary_a (hN:GoodN N) (hR:Rd st la (b+5) N) {r:Ro} {s:List UInt8} (h:Rt N r s) (n:Int) (hs:s.length≤100000) :
 S Tb F_seek_Boundary [.ptr la (b+5) 0 0 0,r.av,.int .i64 n] st=some (.tup [.bool (bdV s n).1,.int .i64 (bdV s n).2],st):=by
 have hb:=(h.b hN).2
 unfold bdV
 split
 ·exact Boundary_no hR h.rt n (by omega)
 ·rename_i q
  split
  ·rename_i q2;subst q2;exact Boundary_end hN hR h hs
  ·rename_i q2
   obtain ⟨c,hc⟩:∃ c,s[n.toNat]?=some c:=⟨_,List.getElem?_eq_getElem (by omega)⟩
   have:=Boundary_c hN hR h hc hs
   rw [show ((n.toNat:Nat):Int)=n by omega] at this
   rw [this,hc];rfl
end
end Go.Q15
namespace Go.Q15
open Go Go.QAbs
set_option maxRecDepth 100000
set_option maxHeartbeats 8000000
def exT:List UInt8:=[97,195,177,10,98,99,100,101,102,103,104,105,106,107,108,109,110]
theorem exT_build:buildM exT=.mk 0 1 .zero [] (some [leafT [97,195,177,10,98,99,100,101,102],leafT [103,104,105,106,107,108,109,110]]):=by
 rfl
noncomputable def exTR:AR:=(wrV (buildM exT) (newAR 8 4)).1
def exTRo:Ro:=⟨65538,1,⟨17,16,1⟩⟩
theorem exT_ro:(wrV (buildM exT) (newAR 8 4)).2.1=exTRo:=by
 rw [exT_build];rfl
theorem exT_nw:nw (buildM exT)=3:=by rw [exT_build];rfl
theorem small17_c (A:List (Bool × List Blk)):S Tb F_quartolaw17_small [] ⟨A,false,[]⟩=some (.tup [.ptr A.length 6 0 0 0,exTRo.av,.bool true],⟨A,false,[.arr 5 0 [exTRo.av]]++(arB A.length 1 exTR++[.arr 5 0 [exTRo.av]])⟩):=by
 have hN:=arNew_c 8 4 (by omega) (by omega) A [.arr 5 0 [Ro.zero.av]]
 have h1:=rtNew_c (has_cur A [.arr 5 0 [Ro.zero.av]] [] (newAR 8 4)) (newAR_ok 8 4 (by omega) (by omega)) good_nil exT (by decide) (by rw [exT_nw];decide)
 rw [arSt_cur,exT_ro] at h1
 change S Tb F_rope_New [.ptr A.length 6 0 0 0,.str exT] ⟨A,false,_⟩=some (_,⟨A,false,[.arr 5 0 [Ro.zero.av]]++(arB A.length 1 exTR++[])⟩) at h1
 refine s_keep rfl ?_
 repeat' (first|refine ruS rfl ?_|refine isS rfl ?_|refine rk_seq ?_|(refine is_neq rfl rfl (fun _=>?_) (fun _=>?_)<;>try (exfalso;omega))|refine is_eqs rfl rfl rfl rfl ?_|refine is_box rfl rfl rfl ?_|refine is_callE rfl rfl rfl (hN) ?_)
 all_goals try contradiction
 all_goals try (exfalso;omega)
 unfold exT at h1
 refine is_callE rfl rfl rfl h1 ?_
 change Is _ _ _ _ _ _ ⟨A,false,[.arr 5 0 [Ro.zero.av],exTR.b0,exTR.b1,exTR.b2,exTR.b3 A.length 1,exTR.b4,exTR.b5 A.length 1]⟩
 generalize hb0:exTR.b0=b0 at *
 generalize hb1:exTR.b1=b1 at *
 generalize hb2:exTR.b2=b2 at *
 generalize hb3:exTR.b3 A.length 1=b3 at *
 generalize hb4:exTR.b4=b4 at *
 generalize hb5:exTR.b5 A.length 1=b5 at *
 repeat' (first|refine is_hideLd rfl rfl rfl rfl rfl rfl ?_|refine is_plainSt rfl rfl rfl rfl rfl rfl rfl ?_|refine ruS rfl ?_|refine isS rfl ?_|refine is_ldc rfl rfl rfl rfl ?_|refine rkS rfl ?_|(refine is_eql rfl rfl (fun _=>?_) (fun _=>?_)<;>try (exfalso;omega))|refine is_box rfl rfl rfl ?_|refine is_stb rfl rfl rfl rfl rfl rfl ?_)
 all_goals first|exact absurd rfl ‹_›|(refine (end_kc (.inr rfl) rfl rfl rfl rfl rfl).trans ?_;subst hb0 hb1 hb2 hb3 hb4 hb5;rfl)
theorem exT_ok:AROk exTR∧GoodN exTR.nodes∧Rt exTR.nodes exTRo exT:=by
 obtain ⟨b1,b2,b3⟩:=buildM_ok good_nil (s:=exT) (by decide)
 have ho:=newAR_ok 8 4 (by omega) (by omega)
 obtain ⟨w1,w2⟩:=wr_rt (r:=newAR 8 4) (has_cur [] [] [] _) ho good_nil b1 (by rw [b3];decide) (by rw [exT_nw];decide)
 rw [show (newAR 8 4).nodes=[] from rfl,b2,exT_ro] at w2
 exact ⟨w1.ok,w1.good,w2⟩
theorem works17_c (st:St):S Tb F_quartolaw17_works [] st=some (.bool true,st):=by
 refine s_of rfl (fun A hA=>?_)
 obtain ⟨o1,o2,o3⟩:=exT_ok
 have hS:=small17_c A
 have hR:=fun T=>Rune_c (n:=2) (i:=3) (c:=10) o2 (has_cur A [.arr 5 0 [exTRo.av]] T exTR).r.rd o3 ⟨rfl,by decide,by decide⟩ (by decide)
 have hB:=fun T=>Byte_t (i:=16) (c:=110) o2 (has_cur A [.arr 5 0 [exTRo.av]] T exTR).r.rd o3 rfl (by decide)
 change ∀ T,S Tb F_seek_Rune [.ptr A.length 6 0 0 0,exTRo.av,.int .i64 2] ⟨A,false,.arr 5 0 [exTRo.av]::exTR.b0::exTR.b1::exTR.b2::exTR.b3 A.length 1::exTR.b4::exTR.b5 A.length 1::T⟩=some (.tup [.int .i64 3,.int .i64 0],⟨A,false,.arr 5 0 [exTRo.av]::exTR.b0::exTR.b1::exTR.b2::exTR.b3 A.length 1::exTR.b4::exTR.b5 A.length 1::T⟩) at hR
 change ∀ T,S Tb F_seek_Byte [.ptr A.length 6 0 0 0,exTRo.av,.int .i64 16] ⟨A,false,.arr 5 0 [exTRo.av]::exTR.b0::exTR.b1::exTR.b2::exTR.b3 A.length 1::exTR.b4::exTR.b5 A.length 1::T⟩=some (.tup [.int .u8 110,.int .i64 0],⟨A,false,.arr 5 0 [exTRo.av]::exTR.b0::exTR.b1::exTR.b2::exTR.b3 A.length 1::exTR.b4::exTR.b5 A.length 1::T⟩) at hB
 change S Tb F_quartolaw17_small [] ⟨A,false,[]⟩=some (_,⟨A,false,.arr 5 0 [exTRo.av]::exTR.b0::exTR.b1::exTR.b2::exTR.b3 A.length 1::exTR.b4::exTR.b5 A.length 1::[.arr 5 0 [exTRo.av]]⟩) at hS
 generalize exTR.b0=b0 at *
 generalize exTR.b1=b1 at *
 generalize exTR.b2=b2 at *
 generalize exTR.b3 A.length 1=b3 at *
 generalize exTR.b4=b4 at *
 generalize exTR.b5 A.length 1=b5 at *
 repeat' (first|refine ruS rfl ?_|refine isS rfl ?_|refine is_ldc rfl rfl rfl rfl ?_|refine rkS rfl ?_|(refine is_eql rfl rfl (fun _=>?_) (fun _=>?_)<;>try (exfalso;omega))|refine is_box rfl rfl rfl ?_|refine is_stb rfl rfl rfl rfl rfl rfl ?_|refine is_callE rfl rfl rfl (hS) ?_|refine is_callE rfl rfl rfl (hR _) ?_|refine is_callE rfl rfl rfl (hB _) ?_)
 all_goals try contradiction
 all_goals try (exfalso;omega)
 refine end_st hA (by first|exact .inl rfl|exact .inr rfl) rfl rfl rfl rfl ?_
 rfl
end Go.Q15
namespace Go.Q15
open Go Go.QAbs
set_option maxRecDepth 100000
set_option maxHeartbeats 8000000
end Go.Q15
namespace Go.Q15
open Go Go.QAbs
set_option maxRecDepth 100000
set_option maxHeartbeats 16000000
def ltL (n:Nat) (r:AR) (v:Nat) (ros:List Ro) (G0:List Blk) (w:Nat) (ss:List (List UInt8)) (G1:List Blk):List Blk :=
 r.b0::r.b1::r.b2::r.b3 n 0::r.b4::r.b5 n 0::.arr 5 v (ros.map Ro.av)::(G0++.arr 1 w (ss.map .str)::G1)
section
variable {A:List (Bool × List Blk)} {r:AR} {v:Nat} {ros:List Ro} {G0:List Blk} {w:Nat} {ss:List (List UInt8)} {G1:List Blk}
theorem lt_has:Has ⟨A,false,ltL A.length r v ros G0 w ss G1⟩ A.length 0 r:=has_cur A [] (.arr 5 v (ros.map Ro.av)::(G0++.arr 1 w (ss.map .str)::G1)) r
theorem lt_rd:Rd ⟨A,false,ltL A.length r v ros G0 w ss G1⟩ A.length 5 r.nodes:=(lt_has).r.rd
theorem lt_set (r':AR):arSt ⟨A,false,ltL A.length r v ros G0 w ss G1⟩ A.length 0 r'=⟨A,false,ltL A.length r' v ros G0 w ss G1⟩:=arSt_cur A [] (.arr 5 v (ros.map Ro.av)::(G0++.arr 1 w (ss.map .str)::G1)) r r'
theorem lt_6 {n:Nat}:(ltL n r v ros G0 w ss G1)[6]?=some (.arr 5 v (ros.map Ro.av)):=rfl
theorem lt_7 {n:Nat}:(ltL n r v ros G0 w ss G1)[7+G0.length]?=some (.arr 1 w (ss.map .str)):=by
 rw [show 7+G0.length=G0.length+7 by omega]
 show (G0++.arr 1 w (ss.map .str)::G1)[G0.length]?=_
 exact get_at _ _ _
theorem lt_box {n:Nat} (b:Blk):ltL n r v ros G0 w ss G1++[b]=ltL n r v ros G0 w ss (G1++[b]):=by simp [ltL]
theorem lt_set6 {n:Nat} (v':Nat) (x:Ro):(ltL n r v ros G0 w ss G1).set 6 (.arr 5 v' (ros.map Ro.av++[x.av]))=ltL n r v' (ros++[x]) G0 w ss G1:=by
 unfold ltL;rw [List.map_append];rfl
theorem lt_set7 {n:Nat} (w':Nat) (s:List UInt8):(ltL n r v ros G0 w ss G1).set (7+G0.length) (.arr 1 w' (ss.map .str++[.str s]))=ltL n r v ros G0 w' (ss++[s]) G1:=by
 rw [show 7+G0.length=G0.length+7 by omega]
 unfold ltL
 simp only [List.set_cons_succ,List.map_append]
 rw [show (G0++Blk.arr 1 w (ss.map .str)::G1).set G0.length (Blk.arr 1 w' (ss.map .str++[AV.str s]))=G0++Blk.arr 1 w' (ss.map .str++[AV.str s])::G1 by simp]
 rfl
end
theorem single_slc {ys:List Ed} {i:Nat} {y:Ed} (h:ys[i]?=some y):((ys.map Ed.av).drop i).take (i+1-i)=[y].map Ed.av:=by
 rw [← List.map_drop,← List.map_take,show i+1-i=1 by omega]
 obtain ⟨h1,h2⟩:=List.getElem?_eq_some_iff.1 h
 rw [List.drop_eq_getElem_cons h1,h2];rfl
theorem eds_wide (ys:List Ed):sameW 5 (ys.map Ed.av)=true:=by
 induction ys with
 | nil=>rfl
 | cons b s ih=>rw [List.map_cons,sameW,List.all_cons];exact Bool.and_eq_true_iff.2 ⟨rfl,ih⟩
theorem is_slc1 {O:Orc} {k:List Fr} {Q:Post} {e:Env} {st:St} {keep:List Nat} {is:List QAbs.PI} {d:Nat} {ys:List Ed} {i:Nat} {y:Ed} {x a b:Opd} {z:Int} (hx:opdO e x=some (.lit (ys.map Ed.av))) (ha:opdO e a=some (.int .i64 i)) (hb:opdO e b=some (.int .i64 z)) (hz:z=i+1) (hy:ys[i]?=some y)
 (h:Is O is keep k Q ((d,.lit ([y].map Ed.av))::e) st):Is O (⟨some d,none,false,.slc 5 x (some a) (some b)⟩::is) keep k Q e st:=by
 have hlt:=(List.getElem?_eq_some_iff.1 hy).1
 refine is_slcL (r:=i+1) (l:=i) hx ?_ ?_ (eds_wide _) ?_
 ·simp only [oget,opdO_some hb,boundV,List.length_map]
  rw [if_pos (by omega)];congr 1;omega
 ·simp only [oget,opdO_some ha,boundV]
  rw [if_pos (by omega)];rfl
 ·rw [single_slc hy];exact h
end Go.Q15
namespace Go.Q15
open Go Go.QAbs
set_option maxRecDepth 100000
set_option maxHeartbeats 16000000
theorem RtOk.size {N:Nodes} (hN:GoodN N) {r:Ro} (h:RtOk N r) (h1:1≤r.h):(leastB r.h:Int)≤r.m.b:=by
 rcases h with rfl|⟨h0,x,h2,h3,h4,h5⟩
 ·simp [Ro.zero] at h1
 ·have hv:=(Rt.keep (N:=N) (r:=r) ⟨.inr ⟨h0,x,h2,h3,h4,h5⟩,rfl⟩).1
  have hk:keepT r=.keep r:=by unfold keepT;rw [if_neg h0]
  rw [hk] at hv
  rcases hv with q|q
  ·exact absurd q.old h0
  ·have:=q.size hN (fun q=>by simp only [Tr.keep,Tr.h] at q;omega)
   simpa [Tr.keep,Tr.h,Tr.bytes,Tr.bytesO] using this
end Go.Q15
namespace Go.Q15
open Go Go.QAbs
set_option maxRecDepth 100000
set_option maxHeartbeats 16000000
end Go.Q15
namespace Go.Q15
open Go Go.QAbs
set_option maxRecDepth 100000
set_option maxHeartbeats 16000000
theorem guards {texts:List (List UInt8)} {ys:List Ed} (hl:¬ longP texts) (hm:¬ manyQ ys):(texts.flatten.length≤900∧texts.length≤4)∧ys.length≤60∧∀ y∈ys,y.text.length≤200:=by
 refine ⟨?_,manyQ_no hm⟩
 have:=longP_no hl
 rw [List.length_flatten]
 omega
theorem laid_small {texts:List (List UInt8)} (h9:texts.flatten.length≤900):∀ s∈texts,s.length≤900:=by
 intro s hs
 obtain ⟨i,hi,rfl⟩:=List.getElem_of_mem hs
 have h1:=flat_get (l:=texts) (List.getElem?_eq_getElem hi)
 have h2:=flat_le texts (i+1)
 rw [h1,lL] at h2
 omega
end Go.Q15
namespace Go.Q15
open Go Go.QAbs
set_option maxRecDepth 100000
set_option maxHeartbeats 8000000
def AR.give (r:AR) (o:Nat):AR :=
 if r.gens[o % 65536]?=some r.most then { r with states:=r.states.set (o % 65536) 2 }
 else { r with gens:=r.gens.set (o % 65536) ((o / 65536:Nat)+1),states:=r.states.set (o % 65536) 0,blk:=r.blk.take r.n++[((o % 65536:Nat):Int)],n:=r.n+1,ver:=r.ver+1 }
end Go.Q15
namespace Go.Q15
open Go Go.QAbs
set_option maxRecDepth 100000
set_option maxHeartbeats 8000000
end Go.Q15
namespace Go.Q15
open Go Go.QAbs
set_option maxRecDepth 100000
set_option maxHeartbeats 8000000
end Go.Q15
namespace Go.Q15
open Go Go.QAbs
set_option maxRecDepth 100000
set_option maxHeartbeats 16000000
theorem nodup_bound:∀ (n:Nat) (l:List Nat),l.Nodup→(∀ x∈l,x<n)→l.length≤n:=by
 intro n
 induction n with
 | zero=>intro l _ h;cases l with
  | nil=>exact Nat.le_refl _
  | cons a l=>have:=h a (by simp);omega
 | succ n ih =>
  intro l hd h
  by_cases hm:n∈l
  ·have := ih (l.erase n) (hd.erase n) (fun x hx => by
    have h1:=h x (List.mem_of_mem_erase hx)
    have h2:x≠n:=fun e=>by subst e;exact hd.not_mem_erase hx
    omega)
   rw [List.length_erase_of_mem hm] at this
   omega
  ·have := ih l hd (fun x hx => by
    have h1:=h x hx
    have h2:x≠n:=fun e=>hm (e▸hx)
    omega)
   omega
theorem AROk.few {r:AR} (h:AROk r) {l:List Nat} (hd:l.Nodup) (hl:∀ o∈l,∃ x,lk r.nodes o=some x):l.length≤16384:=by
 have h16:=h.n16
 have key:∀ o∈l,liveP r o:=fun o ho=>by obtain ⟨x,hx⟩:=hl o ho;exact (h.live hx).1
 have h1:(l.map (· % 65536)).Nodup:=by
  unfold List.Nodup at hd ⊢
  rw [List.pairwise_map]
  refine hd.imp_of_mem (fun {p o} hp ho hne e=>hne ?_)
  have a:=(key p hp).2.2
  have c:=(key o ho).2.2
  rw [e,c] at a
  have:=Option.some.inj a
  omega
 have:=nodup_bound r.states.length _ h1 (fun x hx=>by
  obtain ⟨o,ho,rfl⟩:=List.mem_map.1 hx
  exact (List.getElem?_eq_some_iff.1 (key o ho).2.1).1)
 rw [List.length_map] at this
 omega
end Go.Q15
namespace Go.Q15
open Go Go.QAbs
set_option maxRecDepth 100000
set_option maxHeartbeats 16000000
theorem laidV_nl (texts:List (List UInt8)) (hl:texts.flatten.length≤900):∀ i,i≤texts.length→(laidV (texts.take i)).1.nodes.length+(laidV (texts.take i)).1.n=1500:=by
 intro i
 induction i with
 | zero=>intro _;simp [laidV,newAR]
 | succ i ih =>
  intro hi
  obtain ⟨s,hs⟩:∃ s,texts[i]?=some s:=⟨texts[i]'(by omega),by simp [show i<texts.length by omega]⟩
  have hl2:=flat_le texts (i+1)
  have h:=laidV_ok texts hl i (by omega)
  obtain ⟨hn,_⟩:=laidF_ok (s:=s) h (by rw [← take_succ_get hs];omega)
  have hfl:=flat_get hs
  have hs2:s.length≤900:=by rw [hfl,lL] at hl2;omega
  obtain ⟨b1,b2,b3⟩:=buildM_ok h.good (show s.length≤65536 by omega)
  obtain ⟨w1,_⟩:=wr_rt (has_cur [] [] [] _) h.ok h.good b1 (by rw [b3];omega) hn
  have h1:=w1.n
  have h2:=w1.nl
  have h3:=ih (by omega)
  rw [take_succ_get hs,laidV_snoc]
  show (wrV (buildM s) _).1.nodes.length+(wrV (buildM s) _).1.n=1500
  omega
end Go.Q15
namespace Go.Q15
open Go Go.QAbs
set_option maxRecDepth 100000
set_option maxHeartbeats 16000000
theorem planV_le {N:Nodes} (hN:GoodN N) {ros:List Ro} (h:PlanOk N ros) {y:Ed} (hy:y.text.length≤200) {B:Int} (hB:0≤B) (hr:∀ r∈ros,r.m.b≤B):(planV N ros y).bytes≤B+200:=by
 unfold planV
 match hq:pickR ros y.n with
 | none =>
  obtain ⟨b1,b2,b3⟩:=buildM_ok hN (s:=y.text) (by omega)
  show (buildM y.text).bytes≤_;omega
 | some r =>
  have hm:=List.mem_of_getElem? (show ros[_]?=some r from hq)
  obtain ⟨h1,h2,h3,h4⟩:=h.rt r hm
  have h5:=hr r hm
  have p1:=pickM_bounds (x:=y.at_) h3
  have p2:=pickM_bounds (x:=y.len) (n:=r.m.b-pickM y.at_ r.m.b) (by omega)
  have:=replM_ok hN (s:=y.text) h1.keep (a:=pickM y.at_ r.m.b) (n:=pickM y.len (r.m.b-pickM y.at_ r.m.b)) p1.1 p2.1 (by omega) (by omega) (by omega)
  show (Tr.own _).bytes≤_
  rw [own_bytes,this.bytes];omega
namespace Tr
mutual
theorem wr_sl:∀ (t:Tr) (r:AR),(t.wr r).1.states.length=r.states.length∧(t.wr r).1.slots=r.slots
 | .mk o h m s k,r=>by
  unfold wr
  by_cases ho:o≠0
  ·rw [if_pos ho];exact ⟨rfl,rfl⟩
  ·rw [if_neg ho]
   by_cases hh:h=0
   ·rw [if_pos hh];exact ⟨by simp [AR.add,AR.alloc,AR.take],rfl⟩
   ·rw [if_neg hh]
    obtain ⟨h1,h2⟩:=wrO_sl k r
    exact ⟨by simp [AR.add,AR.alloc,AR.take,h1],by simp [AR.add,AR.alloc,AR.take,h2]⟩
theorem wrO_sl:∀ (k:Option (List Tr)) (r:AR),(wrO k r).1.states.length=r.states.length∧(wrO k r).1.slots=r.slots
 | none,r=>by unfold wrO;exact ⟨rfl,rfl⟩
 | some l,r=>by unfold wrO;exact wrL_sl l r
theorem wrL_sl:∀ (l:List Tr) (r:AR),(wrL l r).1.states.length=r.states.length∧(wrL l r).1.slots=r.slots
 | [],r=>by unfold wrL;exact ⟨rfl,rfl⟩
 | t::l,r=>by
  unfold wrL
  obtain ⟨h1,h2⟩:=wr_sl t r
  obtain ⟨h3,h4⟩:=wrL_sl l (t.wr r).1
  exact ⟨h3.trans h1,h4.trans h2⟩
end
end Tr
theorem wrV_sl (t:Tr) (r:AR):(wrV t r).1.states.length=r.states.length∧(wrV t r).1.slots=r.slots:=by
 unfold wrV
 split
 ·exact ⟨rfl,rfl⟩
 ·exact t.wr_sl r
theorem laidV_sl (texts:List (List UInt8)):(laidV texts).1.slots=1500∧(laidV texts).1.states.length=1500:=by
 unfold laidV
 suffices h:∀ (l:List (List UInt8)) (p:AR × List Ro),p.1.slots=1500∧p.1.states.length=1500→(l.foldl laidF p).1.slots=1500∧(l.foldl laidF p).1.states.length=1500 from h _ _ ⟨rfl,by simp [newAR]⟩
 intro l
 induction l with
 | nil=>intro p h;exact h
 | cons s l ih =>
  intro p h
  rw [List.foldl_cons]
  refine ih _ ?_
  have:=wrV_sl (buildM s) p.1
  exact ⟨this.2.trans h.1,this.1.trans h.2⟩
def KdP (r:AR):Prop:=∃ l:List Nat,l.Nodup∧(∀ h∈l,∃ x,lk r.nodes h=some x)∧l.length=r.nodes.length
theorem KdP.wr {r r':AR} {c:Nat} {hs:List Nat} (h:KdP r) (w:WrB r c r' hs):KdP r':=by
 obtain ⟨l,h1,h2,h3⟩:=h
 refine ⟨l++hs,?_,fun o ho=>?_,?_⟩
 ·rw [List.nodup_append]
  refine ⟨h1,w.nodup,fun a ha b hb e=>?_⟩
  subst e
  obtain ⟨x,hx⟩:=h2 a ha
  have:=w.new a hb
  rw [hx] at this;simp at this
 ·rcases List.mem_append.1 ho with q|q
  ·obtain ⟨x,hx⟩:=h2 o q
   exact ⟨x,w.ext o x hx⟩
  ·exact w.has o q
 ·rw [lL,h3,w.nl,w.len]
theorem laidV_kd (texts:List (List UInt8)) (hl:texts.flatten.length≤900):∀ i,i≤texts.length→KdP (laidV (texts.take i)).1:=by
 intro i
 induction i with
 | zero=>intro _;exact ⟨[],.nil,by simp,by simp [laidV,newAR]⟩
 | succ i ih =>
  intro hi
  obtain ⟨s,hs⟩:∃ s,texts[i]?=some s:=⟨texts[i]'(by omega),by simp [show i<texts.length by omega]⟩
  have hl2:=flat_le texts (i+1)
  have h:=laidV_ok texts hl i (by omega)
  obtain ⟨hn,_⟩:=laidF_ok (s:=s) h (by rw [← take_succ_get hs];omega)
  have hfl:=flat_get hs
  have hs2:s.length≤900:=by rw [hfl,lL] at hl2;omega
  obtain ⟨b1,b2,b3⟩:=buildM_ok h.good (show s.length≤65536 by omega)
  obtain ⟨w1,_⟩:=wr_rt (has_cur [] [] [] _) h.ok h.good b1 (by rw [b3];omega) hn
  rw [take_succ_get hs,laidV_snoc]
  exact (ih (by omega)).wr w1
structure MkInv (r:AR) (ros:List Ro) (ss:List (List UInt8)) (n:Nat) (B:Nat):Prop where
 ok:AROk r
 good:GoodN r.nodes
 rts:Rts r.nodes ros ss
 len:ros.length=n
 n20:n≤20
 small:∀ s∈ss,s.length≤B
 nl:r.nodes.length+r.n=1500
 sl:r.slots=1500∧r.states.length=1500
 kd:KdP r
theorem MkInv.plan {r:AR} {ros:List Ro} {ss:List (List UInt8)} {n B:Nat} (h:MkInv r ros ss n B) (hB:B≤60000):PlanOk r.nodes ros:=h.rts.plan h.good (by have:=h.len;have:=h.n20;omega) (fun s hs=>by have:=h.small s hs;omega)
theorem MkInv.mb {r:AR} {ros:List Ro} {ss:List (List UInt8)} {n B:Nat} (h:MkInv r ros ss n B):∀ ro∈ros,ro.m.b≤(B:Int):=by
 intro ro hr
 obtain ⟨i,hi,rfl⟩:=List.getElem_of_mem hr
 have hi2:i<ss.length:=by rw [← h.rts.1];exact hi
 have g:=h.rts.2 i _ _ (List.getElem?_eq_getElem hi) (List.getElem?_eq_getElem hi2)
 have:=(g.b h.good).2
 have:=h.small _ (List.getElem_mem hi2)
 omega
theorem Make_c (texts:List (List UInt8)) (ys:List Ed) (h9:texts.flatten.length≤900∧texts.length≤4) (hy12:ys.length≤12) (hys:∀ y∈ys,y.text.length≤200) (A:List (Bool × List Blk)) :
 Sp Tb F_quartolaw16_Make [.lit (texts.map .str),.lit (ys.map Ed.av)] ⟨A,false,[]⟩ (fun v st'=>∃ r c ros ss G0 G1 n,v=.tup [.ptr A.length 5 0 0 0,.ref A.length 6 n 0 n,.ref A.length (7+G0.length) c 0 n,.bool true]∧st'=⟨A,false,ltL A.length r n ros G0 c ss G1⟩∧MkInv r ros ss n 3300):=by
 refine sp_keep (rfl:Tb F_quartolaw16_Make=some (.pf p_quartolaw16_Make)) ?_
 have hLd:=laid_c texts h9.1 h9.2 A []
 have hLok:=laidV_ok texts h9.1 texts.length (Nat.le_refl _)
 have hnl0:=laidV_nl texts h9.1 texts.length (Nat.le_refl _)
 rw [List.take_length] at hLok hnl0
 have hsl0:=laidV_sl texts
 have hkd0:=laidV_kd texts h9.1 texts.length (Nat.le_refl _)
 rw [List.take_length] at hkd0
 have hrl:=hLok.rts.1
 obtain ⟨r0,ros0,hV⟩:∃ r0 ros0,laidV texts=(r0,ros0):=⟨_,_,rfl⟩
 rw [hV] at hLd hLok hrl hnl0 hsl0 hkd0
 simp only at hLd hLok hrl hnl0 hsl0 hkd0
 have hG:(boxesR ros0).length=texts.length:=by unfold boxesR;rw [List.length_map,hrl]
 generalize boxesR ros0=G0 at *
 change S Tb F_quartolaw16_laid [.lit (texts.map .str)] ⟨A,false,[]⟩=some (.tup [.ptr A.length 5 0 0 0,.ref A.length 6 texts.length 0 texts.length,.bool true],⟨A,false,r0.b0::r0.b1::r0.b2::r0.b3 A.length 0::r0.b4::r0.b5 A.length 0::.arr 5 texts.length (ros0.map Ro.av)::G0⟩) at hLd
 repeat' (first|refine ruS rfl ?_|refine isS rfl ?_|refine rk_seq ?_|refine is_bslFO rfl rfl rfl rfl ?_|refine is_callE rfl rfl rfl (hLd) ?_)
 all_goals try contradiction
 refine is_appNilG (vx:=.lit (texts.map .str)) (ys:=texts.map .str) (bytes:=16) rfl rfl rfl (by rw [List.length_map];omega) (by decide) (strs_wide _) ?_
 repeat' (first|refine ruS rfl ?_|refine isS rfl ?_|refine rk_seq ?_)
 have hl7:(r0.b0::r0.b1::r0.b2::r0.b3 A.length 0::r0.b4::r0.b5 A.length 0::Blk.arr 5 texts.length (ros0.map Ro.av)::G0).length=7+G0.length:=by simp;omega
 rw [hl7,List.length_map]
 refine ru_loopP (α:=Nat × Nat × AR × List Ro × List (List UInt8) × List Blk) (fun q=>[(1,.lit (ys.map Ed.av)),(8,.ptr A.length 5 0 0 0),(9,.ref A.length 6 (texts.length+q.2.1) 0 (texts.length+q.2.1)),(11,.ref A.length (7+G0.length) q.2.1 0 (texts.length+q.2.1)),(12,.int .i64 q.1)])
  (fun q=>⟨A,false,ltL A.length q.2.2.1 (texts.length+q.2.1) q.2.2.2.1 G0 q.2.1 q.2.2.2.2.1 q.2.2.2.2.2⟩) (fun q=>q.1≤ys.length∧q.2.1≤q.1∧MkInv q.2.2.1 q.2.2.2.1 q.2.2.2.2.1 (texts.length+q.2.1) (900+200*q.1)) (fun q=>ys.length-q.1) (0,0,r0,ros0,texts,[]) rfl rfl ⟨Nat.zero_le _,Nat.zero_le _,hLok.ok,hLok.good,hLok.rts,hrl,by simp only;omega,laid_small h9.1,hnl0,hsl0,hkd0⟩ ?_
 rintro ⟨i,c,r,ros,ss,G1⟩ ⟨hi,hci,hI⟩
 simp only at hi hci hI ⊢
 have hsl:=hI.rts.1
 have hrs:=hI.len
 rcases Nat.lt_or_ge i ys.length with hlt|hge
 ·obtain ⟨y,hyi⟩:∃ y,ys[i]?=some y:=⟨ys[i]'(by omega),by simp [hlt]⟩
  have hy2:=hys y (List.mem_of_getElem? hyi)
  have hP:PlanOk r.nodes ros:=hI.plan (by omega)
  obtain ⟨hv,hvb⟩:=planV_ok hI.good hP hy2
  have hvs:=planV_le hI.good hP hy2 (B:=((900+200*i:Nat):Int)) (by omega) hI.mb
  have hPl:=fun L (hR:Rd ⟨A,false,L⟩ A.length 5 r.nodes) (hg:St.get ⟨A,false,L⟩ A.length 6=some (.arr 5 (texts.length+c) (ros.map Ro.av)))=>plans_c (b:=0) hI.good hR hg hP (ys:=[y]) (by simp) (fun z hz=>by rw [List.mem_singleton] at hz;rw [hz];exact hy2)
  have hPl:=hPl _ lt_rd (get_top (lt_6 (r:=r) (v:=texts.length+c) (G0:=G0) (w:=c) (ss:=ss) (G1:=G1)) rfl)
  have hTx:=Text_c hI.good (lt_rd (A:=A) (r:=r) (v:=texts.length+c) (ros:=ros) (G0:=G0) (w:=c) (ss:=ss) (G1:=G1)) hv (by omega)
  have hln:=hv.len hI.good
  simp only [List.map_cons,List.map_nil] at hPl
  rw [hrs] at hPl
  generalize hT:planV r.nodes ros y=t at *
  rcases Nat.lt_or_ge r.n (nw t) with hfull|hroom
  ·have hWr:=Write_full (lt_has (A:=A) (r:=r) (v:=texts.length+c) (ros:=ros) (G0:=G0) (w:=c) (ss:=ss) (G1:=G1)) hI.ok hI.good hv (by omega) hfull
   have eb:=lt_box (n:=A.length) (r:=r) (v:=texts.length+c) (ros:=ros) (G0:=G0) (w:=c) (ss:=ss) (G1:=G1) (.arr 5 0 [Ro.zero.av])
   generalize ltL A.length r (texts.length+c) ros G0 c ss G1=L1 at *
   repeat' (first|refine len1L rfl ?_|refine is_slc1 rfl rfl rfl rfl hyi ?_|refine is_ixKn (f:=Tr.av) (l:=[t]) rfl rfl ⟨by decide,rfl⟩ tr_wide ?_|refine ruS rfl ?_|refine isS rfl ?_|refine rkS rfl ?_|(refine is_lss rfl rfl (fun _=>?_) (fun _=>?_)<;>try (exfalso;omega))|(refine is_eql rfl rfl (fun _=>?_) (fun _=>?_)<;>try (exfalso;omega))|(refine is_neq rfl rfl (fun _=>?_) (fun _=>?_)<;>try (exfalso;omega))|refine is_addS rfl rfl (by omega) ?_|refine is_boxG rfl rfl rfl ?_|refine is_stT rfl rfl rfl rfl rfl rfl ?_|refine is_ldl rfl (tr_part _) ?_|refine is_callE rfl rfl (by first|rfl|(simp only [lE,lN,lC,weaks,tr_weak,forceL];first|done|rfl)) (hPl) ?_|refine is_callE rfl rfl (by first|rfl|(simp only [lE,lN,lC,weaks,tr_weak,forceL];first|done|rfl)) (hTx) ?_|refine is_callE rfl rfl (by first|rfl|(simp only [lE,lN,lC,weaks,tr_weak,forceL];first|done|rfl)) (hWr) ?_)
   all_goals try contradiction
   all_goals try (exfalso;omega)
   refine ⟨(i+1,c,r,ros,ss,G1++[Blk.arr 5 0 [Ro.zero.av]]),⟨rfl,?_⟩,⟨by simp only;omega,by simp only;omega,hI.ok,hI.good,hI.rts,hrs,hI.n20,fun s hs=>by have:=hI.small s hs;simp only;omega,hI.nl,hI.sl,hI.kd⟩,by simp only;omega⟩
   exact congrArg (St.mk A false) eb
  ·have hWr:=Write_c (lt_has (A:=A) (r:=r) (v:=texts.length+c) (ros:=ros) (G0:=G0) (w:=c) (ss:=ss) (G1:=G1)) hI.ok hI.good hv (by omega) hroom
   rw [lt_set] at hWr
   obtain ⟨w1,w2⟩:=wr_rt (lt_has (A:=A) (r:=r) (v:=texts.length+c) (ros:=ros) (G0:=G0) (w:=c) (ss:=ss) (G1:=G1)) hI.ok hI.good hv (by omega) hroom
   have f6:(ltL A.length (wrV t r).1 (texts.length+c) ros G0 c ss G1)[6]?=_:=lt_6
   have f7:(ltL A.length (wrV t r).1 (texts.length+c) ros G0 c ss G1)[7+G0.length]?=_:=lt_7
   have n1:=w1.n
   have n2:=w1.nl
   have n3:=hI.nl
   have n4:=hI.n20
   have v1:=wrV_sl t r
   have v2:=hI.sl
   have v3:=hI.kd.wr w1
   generalize hL2:ltL A.length (wrV t r).1 (texts.length+c) ros G0 c ss G1=L2 at *
   generalize ltL A.length r (texts.length+c) ros G0 c ss G1=L1 at *
   generalize (wrV t r).1=r2 at *
   generalize (wrV t r).2.1=ro at *
   generalize (wrV t r).2.2=hh at *
   generalize hTT:t.txt r.nodes=T at *
   have hl6:=(List.getElem?_eq_some_iff.1 f6).1
   have hl7':=(List.getElem?_eq_some_iff.1 f7).1
   repeat' (first|refine len1L rfl ?_|refine is_slc1 rfl rfl rfl rfl hyi ?_|refine is_ixKn (f:=Tr.av) (l:=[t]) rfl rfl ⟨by decide,rfl⟩ tr_wide ?_|refine ruS rfl ?_|refine isS rfl ?_|refine rk_seq ?_|refine is_ldT rfl rfl rfl ?_|(refine is_lss rfl rfl (fun _=>?_) (fun _=>?_)<;>try (exfalso;omega))|(refine is_eql rfl rfl (fun _=>?_) (fun _=>?_)<;>try (exfalso;omega))|(refine is_neq rfl rfl (fun _=>?_) (fun _=>?_)<;>try (exfalso;omega))|refine is_addS rfl rfl (by omega) ?_|refine is_boxG rfl rfl rfl ?_|refine is_stT rfl rfl rfl rfl rfl rfl ?_|refine is_bslFO rfl rfl rfl rfl ?_|refine is_ldl rfl (tr_part _) ?_|refine is_callE rfl rfl (by first|rfl|(simp only [lE,lN,lC,weaks,tr_weak,forceL];first|done|rfl)) (hPl) ?_|refine is_callE rfl rfl (by first|rfl|(simp only [lE,lN,lC,weaks,tr_weak,forceL];first|done|rfl)) (hTx) ?_|refine is_callE rfl rfl (by first|rfl|(simp only [lE,lN,lC,weaks,tr_weak,forceL];first|done|rfl)) (hWr) ?_)
   all_goals try contradiction
   all_goals try (exfalso;omega)
   refine is_appG (es:=ros.map Ro.av) (ys:=[ro.av]) rfl rfl (get_left f6) (by rw [List.length_map];omega) rfl rfl (by rw [List.length_map,List.length_singleton];omega) (by decide) ?_
   repeat' (first|refine ru_reg ?_|refine isS rfl ?_|refine rk_seq ?_|refine is_bslFO rfl rfl rfl rfl ?_)
   refine is_appG (es:=ss.map .str) (ys:=[.str T]) rfl rfl ((List.getElem?_set_ne (by omega)).trans (get_left f7)) (by rw [List.length_map];omega) rfl rfl (by rw [List.length_map,List.length_singleton];omega) (by decide) ?_
   repeat' (first|refine ru_reg ?_|refine isS rfl ?_|refine rkS rfl ?_|refine is_addS rfl rfl (by omega) ?_)
   refine ⟨(i+1,c+1,r2,ros++[ro],ss++[T],G1++[.arr 5 0 [ro.av]]),⟨rfl,?_⟩,⟨by simp only;omega,by simp only;omega,w1.ok,w1.good,(hI.rts.ext hI.good w1.ext).snoc w2,by simp only [lL,List.length_singleton];omega,by simp only;omega,fun s hs=>?_,by simp only;omega,⟨v1.2.trans v2.1,v1.1.trans v2.2⟩,v3⟩,by simp only;omega⟩
   ·show (⟨A,false,((L2++[Blk.arr 5 0 [ro.av]]).set 6 (Blk.arr 5 (texts.length+c+1) (ros.map Ro.av++[ro.av]))).set (7+G0.length) (Blk.arr 1 (c+1) (ss.map AV.str++[AV.str T]))⟩:St)=_
    rw [← hL2,lt_box,lt_set6,lt_set7]
    rfl
   ·rcases List.mem_append.1 hs with q|q
    ·have:=hI.small s q;simp only;omega
    ·rw [List.mem_singleton.1 q];simp only;omega
 ·obtain rfl:i=ys.length:=by omega
  repeat' (first|refine len1L rfl ?_|refine ruS rfl ?_|refine isS rfl ?_|refine rkS rfl ?_|(refine is_lss rfl rfl (fun _=>?_) (fun _=>?_)<;>try (exfalso;omega)))
  all_goals try (exfalso;omega)
  refine ⟨_,_,end_keep (.inr rfl) rfl rfl rfl rfl,r,c,ros,ss,G0,G1,texts.length+c,rfl,rfl,hI.ok,hI.good,hI.rts,hrs,hI.n20,fun s hs=>?_,hI.nl,hI.sl,hI.kd⟩
  have:=hI.small s hs
  omega
end Go.Q15
namespace Go.Q15
open Go Go.QAbs
set_option maxRecDepth 100000
set_option maxHeartbeats 16000000
def beyondP (texts:List (List UInt8)) (ys:List Ed):Prop:=longP texts∨manyQ ys∨12<ys.length
noncomputable instance (texts:List (List UInt8)) (ys:List Ed):Decidable (beyondP texts ys):=Classical.propDecidable _
theorem Beyond_c (texts:List (List UInt8)) (ys:List Ed) (hb:texts.length<9223372036854775808) (hbs:∀ s∈texts,s.length<9223372036854775808) (hy:ys.length<9223372036854775808) (hys:∀ y∈ys,y.text.length<9223372036854775808) (st:St) :
 S Tb F_quartolaw16_Beyond [.lit (texts.map .str),.lit (ys.map Ed.av)] st=some (.bool (decide (beyondP texts ys)),st):=by
 refine s_of rfl (fun A hA=>?_)
 have hLg:=fun st=>long_c texts hb hbs st
 have hMn:=fun st=>many16_c ys hy hys st
 by_cases hl:longP texts
 ·rw [decide_eq_true (show beyondP texts ys from .inl hl)]
  simp only [decide_eq_true hl] at hLg
  repeat' (first|refine ruS rfl ?_|refine isS rfl ?_|refine rkS rfl ?_|refine is_callE rfl rfl rfl (hLg _) ?_)
  all_goals try contradiction
  all_goals refine end_st hA (by first|exact .inl rfl|exact .inr rfl) rfl rfl rfl rfl ?_
  all_goals rfl
 simp only [decide_eq_false hl] at hLg
 by_cases hm:manyQ ys
 ·rw [decide_eq_true (show beyondP texts ys from .inr (.inl hm))]
  simp only [decide_eq_true hm] at hMn
  repeat' (first|refine ruS rfl ?_|refine isS rfl ?_|refine rkS rfl ?_|refine is_callE rfl rfl rfl (hLg _) ?_|refine is_callE rfl rfl rfl (hMn _) ?_)
  all_goals try contradiction
  all_goals refine end_st hA (by first|exact .inl rfl|exact .inr rfl) rfl rfl rfl rfl ?_
  all_goals rfl
 simp only [decide_eq_false hm] at hMn
 by_cases h12:12<ys.length
 ·rw [decide_eq_true (show beyondP texts ys from .inr (.inr h12))]
  repeat' (first|refine len1L rfl ?_|refine ruS rfl ?_|refine isS rfl ?_|refine rkS rfl ?_|(refine is_gtr rfl rfl (fun _=>?_) (fun _=>?_)<;>try (exfalso;omega))|refine is_callE rfl rfl rfl (hLg _) ?_|refine is_callE rfl rfl rfl (hMn _) ?_)
  all_goals try contradiction
  all_goals try (exfalso;omega)
  all_goals refine end_st hA (by first|exact .inl rfl|exact .inr rfl) rfl rfl rfl rfl ?_
  all_goals rfl
 ·rw [decide_eq_false (show ¬ beyondP texts ys from fun q=>q.elim hl fun q=>q.elim hm h12)]
  repeat' (first|refine len1L rfl ?_|refine ruS rfl ?_|refine isS rfl ?_|refine rkS rfl ?_|(refine is_gtr rfl rfl (fun _=>?_) (fun _=>?_)<;>try (exfalso;omega))|refine is_callE rfl rfl rfl (hLg _) ?_|refine is_callE rfl rfl rfl (hMn _) ?_)
  all_goals try contradiction
  all_goals try (exfalso;omega)
  all_goals refine end_st hA (by first|exact .inl rfl|exact .inr rfl) rfl rfl rfl rfl ?_
  all_goals rfl
theorem Pick_c (x n:Int) (h0:0≤n) (h1:n<4611686018427387904) (st:St):S Tb F_quartolaw16_Pick [.int .i64 x,.int .i64 n] st=some (.int .i64 (pickM x n),st):=by
 refine s_of rfl (fun A hA=>?_)
 have hP:=fun st=>pick_c x n h0 h1 st
 repeat' (first|refine ruS rfl ?_|refine isS rfl ?_|refine rkS rfl ?_|refine is_callE rfl rfl rfl (hP _) ?_)
 refine end_st hA (by first|exact .inl rfl|exact .inr rfl) rfl rfl rfl rfl ?_
 rfl
end Go.Q15
namespace Go.Q15
open Go Go.QAbs
set_option maxRecDepth 100000
set_option maxHeartbeats 8000000
end Go.Q15
namespace Go.Q15
open Go Go.QAbs
set_option maxRecDepth 100000
set_option maxHeartbeats 8000000
end Go.Q15
namespace Go.Q15
open Go Go.QAbs
set_option maxRecDepth 100000
set_option maxHeartbeats 8000000
def Lv (N:Nodes) (l:List Nat):Prop:=l.Nodup∧∀ o∈l,∃ x,lk N o=some x
theorem Lv.snoc {N:Nodes} {l:List Nat} (h:Lv N l) {o:Nat} (ho:∃ x,lk N o=some x) (hn:o∉l):Lv N (l++[o]):=by
 refine ⟨?_,fun a ha=>?_⟩
 ·rw [List.nodup_append]
  refine ⟨h.1,by simp,fun x hx y hy=>?_⟩
  rw [List.mem_singleton] at hy
  intro e;rw [e,hy] at hx;exact hn hx
 ·rcases List.mem_append.1 ha with q|q
  ·exact h.2 a q
  ·rw [List.mem_singleton.1 q];exact ho
end Go.Q15
namespace Go.Q15
open Go Go.QAbs
set_option maxRecDepth 100000
set_option maxHeartbeats 8000000
def DrOk (M:Nat) (G:List Blk) (dv:AV) (w:List Nat):Prop:=(w=[]∧dv=.nils)∨∃ j ver,dv=.ref M (j+4) ver 0 w.length∧w≠[]∧G[j]?=some (.arr 1 ver (w.map hnAV))
end Go.Q15
namespace Go.Q15
open Go Go.QAbs
set_option maxRecDepth 100000
set_option maxHeartbeats 8000000
end Go.Q15
namespace Go.Q15
open Go Go.QAbs
set_option maxRecDepth 100000
set_option maxHeartbeats 16000000
theorem AROk.lv {r:AR} (h:AROk r):∀ l,Lv r.nodes l→l.length≤16384:=fun l hl=>h.few hl.1 hl.2
theorem AROk.nz {r:AR} (h:AROk r):∀ o x,lk r.nodes o=some x→o≠0:=fun o x hx=>(h.hnd hx).2
theorem DrOk.app {M:Nat} {G:List Blk} {dv:AV} {w:List Nat} (h:DrOk M G dv w) (T:List Blk):DrOk M (G++T) dv w:=by
 rcases h with h|⟨j,ver,h1,h2,h3⟩
 ·exact .inl h
 ·exact .inr ⟨j,ver,h1,h2,by rw [List.getElem?_append_left (List.getElem?_eq_some_iff.1 h3).1];exact h3⟩
end Go.Q15
namespace Go.Q15
open Go Go.QAbs
set_option maxRecDepth 100000
set_option maxHeartbeats 16000000
end Go.Q15
namespace Go.Q15
open Go Go.QAbs
set_option maxRecDepth 100000
set_option maxHeartbeats 16000000
noncomputable def edV (N:Nodes) (ro:Ro) (a n:Int) (s:List UInt8):Tr:=(replM N (keepT ro) a n s).own
structure EdOk (N:Nodes) (ro:Ro) (s0:List UInt8) (a n:Int) (s:List UInt8):Prop where
 rt:Rt N ro s0
 a0:0≤a
 n0:0≤n
 le:a+n≤s0.length
 b1:s0.length≤60000
 b2:s.length≤2000
theorem EdOk.ok {N:Nodes} (hN:GoodN N) {ro:Ro} {s0:List UInt8} {a n:Int} {s:List UInt8} (h:EdOk N ro s0 a n s) :
 VE N (edV N ro a n s)∧(edV N ro a n s).bytes=s0.length-n+s.length∧(edV N ro a n s).txt N=s0.take a.toNat++s++s0.drop (a+n).toNat:=by
 obtain ⟨hk,htx⟩:=h.rt.keep
 have hb:=(h.rt.b hN).1
 have h1:=h.a0
 have h2:=h.n0
 have h3:=h.le
 have h4:=h.b1
 have h5:=h.b2
 have:=replM_ok hN (s:=s) hk h1 h2 (by omega) (by omega) (by omega)
 refine ⟨own_ve this.ve,?_,?_⟩
 ·show (Tr.own _).bytes=_;rw [own_bytes,this.bytes,hb]
 ·show (Tr.own _).txt N=_;rw [own_txt,this.txt,htx]
end Go.Q15
namespace Go.Q15
open Go Go.QAbs
set_option maxRecDepth 100000
set_option maxHeartbeats 16000000
end Go.Q15
namespace Go.Q15
open Go Go.QAbs
set_option maxRecDepth 100000
set_option maxHeartbeats 16000000
end Go.Q15
namespace Go.Q15
open Go Go.QAbs
set_option maxRecDepth 100000
set_option maxHeartbeats 16000000
structure Op where
 at_:Int
 num:Int
 text:List UInt8
def Op.av (y:Op):AV:=.agg [.int .i64 y.at_,.int .i64 y.num,.str y.text]
def wideP (l:List Op):Prop:=∃ s∈l,300<s.text.length
noncomputable instance (l:List Op):Decidable (wideP l):=Classical.propDecidable _
end Go.Q15
namespace Go.Q15
open Go Go.QAbs
set_option maxRecDepth 100000
set_option maxHeartbeats 16000000
theorem rtNew_full {st:St} {la b:Nat} {r:AR} (hA:Has st la b r) (ho:AROk r) (hg:GoodN r.nodes) (s:List UInt8) (hs:s.length≤65536) (hn:r.n<nw (buildM s)) :
 S Tb F_rope_New [.ptr la (b+5) 0 0 0,.str s] st=some (.tup [Ro.zero.av,.int .i64 6],st):=by
 obtain ⟨b1,b2,b3⟩:=buildM_ok hg hs
 refine s_ofW rfl (fun A hA'=>?_)
 have hB:=fun L=>Build_c hg s hs ⟨A,false,L⟩
 have hle:=hA.le
 have hW:=fun L=>Write_full (st:=⟨A,false,L⟩) (hA.push hA') ho hg b1 (by rw [b3];omega) hn
 repeat' (first|refine is_callE rfl rfl (wkPT0 rfl _) (hW _) ?_|refine is_stn rfl rfl rfl rfl rfl rfl ?_|refine is_ldc rfl rfl rfl rfl ?_|refine ruS rfl ?_|refine isS rfl ?_|refine rkS rfl ?_|(refine is_neq rfl rfl (fun _=>?_) (fun _=>?_)<;>try (exfalso;omega))|refine is_eqs rfl rfl rfl rfl ?_|refine is_box rfl rfl rfl ?_|refine is_ldc rfl rfl rfl (tr_part _) ?_|refine is_stb rfl rfl rfl (tr_seal _ _ _) (tr_put _ _) rfl ?_|refine is_callE rfl rfl (by first|rfl|(simp only [lE,lN,lC,weaks,tr_weak,forceL];first|done|rfl)) (hB _) ?_)
 all_goals try contradiction
 all_goals try (exfalso;omega)
 exact end_ro (ro:=.zero) hA' (.inr rfl) rfl rfl rfl
end Go.Q15
