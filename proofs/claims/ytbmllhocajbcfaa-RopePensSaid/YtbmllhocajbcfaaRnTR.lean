/- A part of the proof: RJ, RK, M52, RL, S4, S5, S6, YX, W7, RN, RO, W8, RP, FY, SHJ, TYa, RS, RQ, RT, RU, RV, M18, PO, RW, TYb, SA, SC, W9, SG, SI, RX, SB, RY, RZ, SD, SJ, SE, SF, SK, SL, SM, SN, SO, SPa, SRa, SRb, SRc, TYv. No condition. -/
import Derived.SliceStrings
import Derived.Deep.Slices
import Derived.Carry
import Derived.Shelf.Strings.OnBuilder
import Derived.Test.YtbmllhocajbcfaaProg
import Derived.Test.YtbmllhocajbcfaaRnT6
set_option linter.unusedVariables false
set_option linter.unusedSimpArgs false
namespace Go.Q15
open Go Go.QAbs
set_option maxRecDepth 100000
set_option maxHeartbeats 8000000
theorem ClsOk.get {n ip:Nat} {F:List (Nat × Blk)} {cs:List AV} {is:List It} (h:ClsOk n ip F cs is):∀ {j:Nat} {it:It},is[j]?=some it→∃ c,cs[j]?=some c∧ClOk n ip F c it:=by
 induction h with
 | nil=>intro j it hj;simp at hj
 | cons hc ht ih =>
  intro j it hj
  cases j with
  | zero =>
   simp only [List.getElem?_cons_zero,Option.some.injEq] at hj
   subst hj
   exact ⟨_,rfl,hc⟩
  | succ j=>exact ih hj
def TdOk (st:St) (n tx ver j:Nat) (cls:List AV) (td:AV):Prop:=(cls=[]∧td=.nils)∨(cls≠[]∧td=.ref n tx ver j (cls.length-j)∧st.get n tx=some (.arr 1 ver cls))
structure PenS (st:St) (n ip tx ver la b:Nat) (cls:List AV) (its:List It) (F:List (Nat × Blk)) (keys:List Nat) (rx:Nat) (ρ:Nat→Ro) (j:Nat):Prop where
 wr:st.wr n
 pen:∃ td,st.get n ip=some (.arr 3 0 [.agg [.ptr la (b+5) 0 0 0,td,.ptr n rx 0 0 0]])∧TdOk st n tx ver j cls td
 cl:ClsOk n ip F cls its
 fx:∀ p∈F,st.get n p.1=some p.2
 rts:∀ k∈keys,st.get n k=some (.arr 5 0 [(ρ k).av])
 key:∀ it∈its,it.rx∈keys∧∀ k∈itKs it.c,k∈keys
 rk:rx∈keys
 s1:∀ k∈keys,k≠ip∧k≠tx
 s2:tx≠ip
 s3:∀ p∈F,p.1∉keys∧p.1≠ip∧p.1≠tx
 ar:∀ i,i=ip∨(cls≠[]∧i=tx)∨i∈keys∨(∃ p∈F,i=p.1)→¬ (n=la∧b≤i∧i≤b+5)
 len:cls.length<1000000
 jl:j≤cls.length
theorem Root_c {st:St} {n ip tx ver la b:Nat} {cls:List AV} {its:List It} {F:List (Nat × Blk)} {keys:List Nat} {rx:Nat} {ρ:Nat→Ro} {j:Nat} (h:PenS st n ip tx ver la b cls its F keys rx ρ j) (hj:j=cls.length):S Tb F_rope_Pen_Root [.ptr n ip 0 0 0] st=some (.tup [(ρ rx).av,.int .i64 0],st):=by
 obtain ⟨td,h1,h2⟩:=h.pen
 have h3:=h.rts rx h.rk
 refine s_of rfl (fun A hA=>?_)
 have g1:=fun L=>get_old hA (ro:=false) (L:=L) h1
 have g3:=fun L=>get_old hA (ro:=false) (L:=L) h3
 unfold Ro.av at g3 ⊢
 rcases h2 with ⟨_,rfl⟩|⟨_,rfl,_⟩
 all_goals repeat' (first|refine ru_seq ?_|refine ru_reg ?_|refine is_mv rfl ?_|refine is_fadr rfl rfl ?_|refine is_nil rfl ?_|refine rk_seq ?_|refine is_nilck rfl rfl ?_|refine is_lenR rfl ?_|refine is_lenN rfl ?_|(refine is_gtr rfl rfl (fun _=>?_) (fun _=>?_)<;>try (exfalso;omega))|refine ru_iteF rfl ?_|refine is_eqs rfl rfl rfl rfl ?_|refine is_box rfl rfl rfl ?_|refine is_stb rfl rfl rfl rfl rfl rfl ?_|refine is_ld rfl (g1 _) rfl rfl ?_|refine is_ld rfl (g3 _) rfl rfl ?_|refine ru_skip ?_|refine ru_ret ?_|refine rk_nil ?_)
 all_goals try (exfalso;omega)
 all_goals refine end_c hA (by first|exact .inl rfl|exact .inr rfl) rfl rfl rfl rfl rfl ?_
 all_goals rfl
theorem Root_no {st:St} {n ip tx ver la b:Nat} {cls:List AV} {its:List It} {F:List (Nat × Blk)} {keys:List Nat} {rx:Nat} {ρ:Nat→Ro} {j:Nat} (h:PenS st n ip tx ver la b cls its F keys rx ρ j) (hj:j<cls.length):S Tb F_rope_Pen_Root [.ptr n ip 0 0 0] st=some (.tup [Ro.zero.av,.int .i64 8],st):=by
 obtain ⟨td,h1,h2⟩:=h.pen
 refine s_of rfl (fun A hA=>?_)
 have g1:=fun L=>get_old hA (ro:=false) (L:=L) h1
 rcases h2 with ⟨rfl,rfl⟩|⟨_,rfl,_⟩
 ·simp at hj
 ·repeat' (first|refine ru_seq ?_|refine ru_reg ?_|refine is_mv rfl ?_|refine is_fadr rfl rfl ?_|refine is_nil rfl ?_|refine rk_seq ?_|refine is_nilck rfl rfl ?_|refine is_lenR rfl ?_|(refine is_gtr rfl rfl (fun _=>?_) (fun _=>?_)<;>try (exfalso;omega))|refine ru_iteT rfl ?_|refine ru_iteF rfl ?_|refine is_buildO rfl rfl rfl ?_|refine is_eqs rfl rfl rfl rfl ?_|refine is_box rfl rfl rfl ?_|refine is_stb rfl rfl rfl rfl rfl rfl ?_|refine is_ld rfl (g1 _) rfl rfl ?_|refine ru_skip ?_|refine ru_ret ?_|refine rk_nil ?_|refine rk_seq_ret ?_)
  all_goals try (exfalso;omega)
  all_goals refine end_c hA (by first|exact .inl rfl|exact .inr rfl) rfl rfl rfl rfl rfl ?_
  all_goals rfl
theorem Step_end {st:St} {n ip tx ver la b:Nat} {cls:List AV} {its:List It} {F:List (Nat × Blk)} {keys:List Nat} {rx:Nat} {ρ:Nat→Ro} {j:Nat} (h:PenS st n ip tx ver la b cls its F keys rx ρ j) (hj:j=cls.length):S Tb F_rope_Pen_Step [.ptr n ip 0 0 0] st=some (.tup [.int .u64 (0:Nat),.bool true,.int .i64 0],st):=by
 obtain ⟨td,h1,h2⟩:=h.pen
 refine s_of rfl (fun A hA=>?_)
 have g1:=fun L=>get_old hA (ro:=false) (L:=L) h1
 rcases h2 with ⟨rfl,rfl⟩|⟨_,rfl,_⟩
 all_goals repeat' (first|refine ru_seq ?_|refine ru_reg ?_|refine is_mv rfl ?_|refine is_fadr rfl rfl ?_|refine is_nil rfl ?_|refine rk_seq ?_|refine is_nilck rfl rfl ?_|refine is_lenR rfl ?_|refine is_lenN rfl ?_|(refine is_eql rfl rfl (fun _=>?_) (fun _=>?_)<;>try (exfalso;omega))|refine ru_iteT rfl ?_|refine ru_iteF rfl ?_|refine is_eqs rfl rfl rfl rfl ?_|refine is_ld rfl (g1 _) rfl rfl ?_|refine ru_skip ?_|refine ru_ret ?_|refine rk_nil ?_|refine rk_seq_ret ?_)
 all_goals try (exfalso;omega)
 all_goals refine end_st hA (.inr rfl) rfl rfl rfl rfl ?_
 all_goals rfl
def stepSt (st:St) (n ip tx ver la b:Nat) (len:Nat) (rx:Nat) (r':AR) (k:Nat) (ro:Ro) (j:Nat):St :=
 ((arSt st la b r').upd n k (.arr 5 0 [ro.av])).upd n ip (.arr 3 0 [.agg [.ptr la (b+5) 0 0 0,.ref n tx ver (j+1) (len-j-1),.ptr n rx 0 0 0]])
theorem PenS.step {st:St} {n ip tx ver la b:Nat} {cls:List AV} {its:List It} {F:List (Nat × Blk)} {keys:List Nat} {rx:Nat} {ρ:Nat→Ro} {j:Nat} (h:PenS st n ip tx ver la b cls its F keys rx ρ j) {r:AR} (hA:Has st la b r) (ho:AROk r) (hn:0<r.n) {it:It} (hj:its[j]?=some it)
 (hx:NdOk (ndOf ρ it.c)) (hk:KidsIn r.nodes (ndOf ρ it.c)) :
 S Tb F_rope_Pen_Step [.ptr n ip 0 0 0] st=some (.tup [.int .u64 r.next,.bool (decide (cls.length=j+1)),.int .i64 0],stepSt st n ip tx ver la b cls.length rx (r.add (ndOf ρ it.c)) it.rx ((ρ it.rx).wr r.next) j) ∧
 PenS (stepSt st n ip tx ver la b cls.length rx (r.add (ndOf ρ it.c)) it.rx ((ρ it.rx).wr r.next) j) n ip tx ver la b cls its F keys rx (rset ρ it.rx r.next) (j+1) ∧
 Has (stepSt st n ip tx ver la b cls.length rx (r.add (ndOf ρ it.c)) it.rx ((ρ it.rx).wr r.next) j) la b (r.add (ndOf ρ it.c)):=by
 obtain ⟨td,h1,h2⟩:=h.pen
 obtain ⟨cl,c1,c2⟩:=h.cl.get hj
 have hjl:=(List.getElem?_eq_some_iff.1 c1).1
 have hm:=List.mem_of_getElem? hj
 obtain ⟨k1,k2⟩:=h.key it hm
 have hrx:=h.rts it.rx k1
 have hrp:=h.s1 it.rx k1
 have hne:cls≠[]:=fun q=>by rw [q] at c1;simp at c1
 rcases h2 with ⟨q,_⟩|⟨_,rfl,h3⟩
 ·exact absurd q hne
 have hS:=Step_c (it:=it) (ρ:=ρ) (b0:=0) (b1:=0) (b2:=0) (cv:=.nils) h3 c1 c2 h.len h1 h.fx (fun k hk=>h.rts k (k2 k hk)) hrx hA ho hn hx hk h.wr (fun i hi=>h.ar i (by
  rcases hi with rfl|rfl|rfl|q
  ·exact .inr (.inr (.inl k1))
  ·exact .inl rfl
  ·exact .inr (.inl ⟨hne,rfl⟩)
  ·exact .inr (.inr (.inr q)))) ⟨hrp.1,hrp.2,h.s2⟩
 have a1:∀ i,¬ (n=la∧b≤i∧i≤b+5)→(arSt st la b (r.add (ndOf ρ it.c))).get n i=st.get n i:=fun i hi=>hA.out _ hi
 have g1:∀ l' i',((arSt st la b (r.add (ndOf ρ it.c))).upd n it.rx (.arr 5 0 [((ρ it.rx).wr r.next).av])).get l' i'=if l'=n∧i'=it.rx then some (.arr 5 0 [((ρ it.rx).wr r.next).av]) else (arSt st la b (r.add (ndOf ρ it.c))).get l' i' :=
  fun l' i'=>St.get_upd ((a1 _ (h.ar _ (.inr (.inr (.inl k1))))).trans hrx) rfl
 have hp0:((arSt st la b (r.add (ndOf ρ it.c))).upd n it.rx (.arr 5 0 [((ρ it.rx).wr r.next).av])).get n ip=_:=(g1 n ip).trans ((if_neg (fun q=>hrp.1 q.2.symm)).trans ((a1 _ (h.ar _ (.inl rfl))).trans h1))
 have g2:∀ l' i',(stepSt st n ip tx ver la b cls.length rx (r.add (ndOf ρ it.c)) it.rx ((ρ it.rx).wr r.next) j).get l' i'=if l'=n∧i'=ip then some (.arr 3 0 [.agg [.ptr la (b+5) 0 0 0,.ref n tx ver (j+1) (cls.length-j-1),.ptr n rx 0 0 0]]) else if l'=n∧i'=it.rx then some (.arr 5 0 [((ρ it.rx).wr r.next).av]) else (arSt st la b (r.add (ndOf ρ it.c))).get l' i':=fun l' i'=>by
  rw [stepSt,St.get_upd hp0 rfl,g1]
 have hw1:(arSt st la b (r.add (ndOf ρ it.c))).wr n:=putC_wr hA.cl.wr h.wr
 have hwl:(arSt st la b (r.add (ndOf ρ it.c))).wr la:=(hA.put _).wr
 have hw2:∀ {l:Nat},(arSt st la b (r.add (ndOf ρ it.c))).wr l→(stepSt st n ip tx ver la b cls.length rx (r.add (ndOf ρ it.c)) it.rx ((ρ it.rx).wr r.next) j).wr l:=fun w=>St.wr_upd (St.wr_upd hw1 hw1) (St.wr_upd hw1 w)
 refine ⟨hS,⟨hw2 hw1,⟨_,by rw [g2,if_pos ⟨rfl,rfl⟩,Nat.sub_sub],.inr ⟨hne,rfl,?_⟩⟩,h.cl,fun p hp=>?_,fun k hk=>?_,h.key,h.rk,h.s1,h.s2,h.s3,h.ar,h.len,hjl⟩,?_⟩
 ·rw [g2,if_neg (fun q=>h.s2 q.2),if_neg (fun q=>hrp.2 q.2.symm),a1 _ (h.ar _ (.inr (.inl ⟨hne,rfl⟩)))];exact h3
 ·obtain ⟨q1,q2,q3⟩:=h.s3 p hp
  rw [g2,if_neg (fun q=>q2 q.2),if_neg (fun q=>q1 (by rw [q.2];exact k1)),a1 _ (h.ar _ (.inr (.inr (.inr ⟨p,hp,rfl⟩))))];exact h.fx p hp
 ·obtain ⟨q1,q2⟩:=h.s1 k hk
  rw [g2,if_neg (fun q=>q1 q.2)]
  unfold rset
  by_cases e:k=it.rx
  ·subst e;rw [if_pos ⟨rfl,rfl⟩,if_pos rfl]
  ·rw [if_neg (fun q=>e q.2),if_neg e,a1 _ (h.ar _ (.inr (.inr (.inl hk))))];exact h.rts k hk
 ·have hP:=hA.put (r.add (ndOf ρ it.c))
  have n1:∀ i,b≤i→i≤b+5→¬ (la=n∧i=ip)∧¬ (la=n∧i=it.rx):=fun i i1 i2=>⟨fun q=>h.ar ip (.inl rfl) ⟨q.1.symm,by omega,by omega⟩,fun q=>h.ar it.rx (.inr (.inr (.inl k1))) ⟨q.1.symm,by omega,by omega⟩⟩
  have gg:∀ i,b≤i→i≤b+5→(stepSt st n ip tx ver la b cls.length rx (r.add (ndOf ρ it.c)) it.rx ((ρ it.rx).wr r.next) j).get la i=(arSt st la b (r.add (ndOf ρ it.c))).get la i:=fun i i1 i2=>by
   rw [g2,if_neg (n1 i i1 i2).1,if_neg (n1 i i1 i2).2]
  exact ⟨hw2 hwl,(gg _ (by omega) (by omega)).trans hP.h0,(gg _ (by omega) (by omega)).trans hP.h1,(gg _ (by omega) (by omega)).trans hP.h2,(gg _ (by omega) (by omega)).trans hP.h3,(gg _ (by omega) (by omega)).trans hP.h4,(gg _ (by omega) (by omega)).trans hP.h5⟩
end Go.Q15
namespace Go.Q15
open Go Go.QAbs
set_option maxRecDepth 100000
set_option maxHeartbeats 8000000
theorem get_appR {A:List (Bool × List Blk)} {ro:Bool} {L:List Blk} {lv ix:Nat} {b:Blk} (T:List Blk) (h:St.get ⟨A,ro,L⟩ lv ix=some b):St.get ⟨A,ro,L++T⟩ lv ix=some b:=by
 unfold St.get at h ⊢
 simp only at h ⊢
 split
 ·rename_i q
  rw [if_pos q] at h
  have h2:=(vis_noH h).1
  rw [List.getElem?_append_left (List.getElem?_eq_some_iff.1 h2).1];exact h
 ·rename_i q
  rw [if_neg q] at h;exact h
theorem HasR.app {A:List (Bool × List Blk)} {ro:Bool} {L:List Blk} {la b:Nat} {r:AR} (h:HasR ⟨A,ro,L⟩ la b r) (T:List Blk):HasR ⟨A,ro,L++T⟩ la b r :=
 ⟨get_appR T h.h0,get_appR T h.h1,get_appR T h.h2,get_appR T h.h3,get_appR T h.h4,get_appR T h.h5⟩
mutual
theorem AddT.keys:∀ {t:Tr} {rx:Nat} {its:List It} {R:List (Nat × Ro)},AddT t rx its R→rx∈R.map Prod.fst∧∀ it∈its,it.rx∈R.map Prod.fst∧∀ k∈itKs it.c,k∈R.map Prod.fst
 | _,_,_,_,.kept h0=>⟨by simp,fun it h=>by simp at h⟩
 | _,_,_,_,.leaf=>⟨by simp,fun it h=>by simp only [List.mem_singleton] at h;subst h;exact ⟨by simp,fun k hk=>by simp [itKs] at hk⟩⟩
 | _,_,_,_,.inner hl hn hx=>by
  obtain ⟨h1,h2⟩:=AddL.keys hl
  refine ⟨by simp,fun it h=>?_⟩
  rcases List.mem_append.1 h with q|q
  ·obtain ⟨a1,a2⟩:=h2 it q
   exact ⟨by rw [List.map_append];exact List.mem_append_left _ a1,fun k hk=>by rw [List.map_append];exact List.mem_append_left _ (a2 k hk)⟩
  ·simp only [List.mem_singleton] at q
   subst q
   exact ⟨by simp,fun k hk=>by rw [List.map_append];exact List.mem_append_left _ (h1 k hk)⟩
theorem AddL.keys:∀ {l:List Tr} {rs:List Nat} {its:List It} {R:List (Nat × Ro)},AddL l rs its R→(∀ r∈rs,r∈R.map Prod.fst)∧∀ it∈its,it.rx∈R.map Prod.fst∧∀ k∈itKs it.c,k∈R.map Prod.fst
 | _,_,_,_,.nil=>⟨fun r h=>by simp at h,fun it h=>by simp at h⟩
 | _,_,_,_,.cons ht hl=>by
  obtain ⟨a1,a2⟩:=ht.keys
  obtain ⟨b1,b2⟩:=hl.keys
  refine ⟨fun r h=>?_,fun it h=>?_⟩
  ·rw [List.map_append]
   rcases List.mem_cons.1 h with rfl|q
   ·exact List.mem_append_left _ a1
   ·exact List.mem_append_right _ (b1 r q)
  ·rw [List.map_append]
   rcases List.mem_append.1 h with q|q
   ·exact ⟨List.mem_append_left _ (a2 it q).1,fun k hk=>List.mem_append_left _ ((a2 it q).2 k hk)⟩
   ·exact ⟨List.mem_append_right _ (b2 it q).1,fun k hk=>List.mem_append_right _ ((b2 it q).2 k hk)⟩
end
def roOf (R:List (Nat × Ro)) (k:Nat):Ro:=((R.find? fun p=>p.1 == k).map Prod.snd).getD .zero
theorem roOf_ok:∀ {R:List (Nat × Ro)},(R.map Prod.fst).Nodup→∀ p∈R,roOf R p.1=p.2
 | [],_,p,hp=>by simp at hp
 | q::R,hn,p,hp=>by
  rw [List.map_cons,List.nodup_cons] at hn
  unfold roOf
  rw [List.find?_cons]
  rcases List.mem_cons.1 hp with rfl|w
  ·simp
  ·have:q.1≠p.1:=fun e=>hn.1 (by rw [e];exact List.mem_map.2 ⟨p,w,rfl⟩)
   rw [show (q.1 == p.1)=false by simp [this]]
   exact roOf_ok hn.2 p w
def PI (t:Tr) (its:List It) (rx:Nat) (ρ:Nat→Ro):Prop:=(IsEmpty t∧its=[]∧ρ rx=.zero)∨(∃ N,Val N t)∧∃ R,AddT t rx its R∧(∀ p∈R,ρ p.1=p.2)∧(R.map Prod.fst).Nodup
def nw (t:Tr):Nat:=if t.old=0∧t.h=0∧t.text=[] then 0 else t.cnt
theorem nw_val {N:Nodes} {t:Tr} (hv:Val N t):nw t=t.cnt:=by
 unfold nw
 cases hv with
 | kept h0=>rw [if_neg];simp [Tr.old,h0]
 | leaf h1=>rw [if_neg];rintro ⟨_,_,q⟩;simp only [Tr.text] at q;rw [q] at h1;simp at h1
 | inner=>rw [if_neg];simp [Tr.h]
structure Begun (A:List (Bool × List Blk)) (L L2:List Blk) (la b:Nat) (t:Tr) (tx ver:Nat) (cs:List AV) (its:List It) (F:List (Nat × Blk)) (keys:List Nat) (rx:Nat) (ρ:Nat→Ro):Prop where
 ps:PenS ⟨A,false,L2⟩ A.length (L.length+1) tx ver la b cs its F keys rx ρ 0
 len:L.length+2≤L2.length
 old:∀ i,i<L.length→L2[i]?=L[i]?
 klo:∀ k∈keys,L.length+2≤k
 flo:∀ p∈F,L.length+2≤p.1
 tlo:cs≠[]→L.length+2≤tx
 pi:PI t its rx ρ
theorem begin_val {N:Nodes} {A:List (Bool × List Blk)} {L:List Blk} {la b:Nat} {r:AR} (hA:HasR ⟨A,false,L⟩ la b r) (hN:r.n≤r.blk.length) (h16:r.states.length≤16384) (h6:r.n<65536) {t:Tr} (hv:Val r.nodes t) (hb:t.bytes≤65536) (hn:t.cnt≤r.n) :
 ∃ L2 tx ver cs its F keys rx ρ,S Tb F_rope_Begin [.ptr la (b+5) 0 0 0,t.av] ⟨A,false,L⟩=some (.tup [.ptr A.length (L.length+1) 0 0 0,.int .i64 0],⟨A,false,L2⟩)∧Begun A L L2 la b t tx ver cs its F keys rx ρ:=by
 have hCk:=fun T=>Check_val (hA.app T).rd hv hb
 have hNw:=fun st=>New_c hv (by omega) st
 have hSt:=fun T=>Stats_c (hA.app T) hN h16 h6
 unfold AR.statsAV at hSt
 obtain ⟨T,hT⟩:∃ T:List Blk,T=[.arr 7 0 [t.av],.arr 3 0 [.agg [.ptr la (b+5) 0 0 0,.nils,.nilptr]]]:=⟨_,rfl⟩
 have hTl:T.length=2:=by rw [hT];rfl
 have hip:(L++T)[L.length+1]?=some (.arr 3 0 [.agg [.ptr la (b+5) 0 0 0,.nils,.nilptr]]):=by rw [get_app,hT];rfl
 have hP:Pen A (L++T) (L.length+1) (.ptr la (b+5) 0 0 0) .nils []:=⟨⟨_,hip⟩,.inl ⟨rfl,rfl⟩⟩
 obtain ⟨L1,td1,rx,its,cs,R,F,hS,ha⟩:=add_c hv hb hP (by simp;omega)
 obtain ⟨⟨rp,p1⟩,p2⟩:=ha.pen
 rw [List.nil_append] at p2
 have hl1:=ha.frm.len
 rw [List.length_append,hTl] at hl1
 have hlt1:L.length+1<L1.length:=(List.getElem?_eq_some_iff.1 p1).1
 have hkl:∀ k∈R.map Prod.fst,L.length+2≤k:=fun k hk=>by
  obtain ⟨p,hp,rfl⟩:=List.mem_map.1 hk
  have:=ha.rlo p hp
  rwa [List.length_append,hTl] at this
 have hfl:∀ p∈F,L.length+2≤p.1:=fun p hp=>by
  have:=ha.flo p hp
  rwa [List.length_append,hTl] at this
 have hg:∀ i,i≠L.length+1→∀ B,(L1.set (L.length+1) B)[i]?=L1[i]?:=fun i hi B=>List.getElem?_set_ne (fun q=>hi q.symm)
 obtain ⟨q1,q2⟩:=ha.tr.keys
 have hbl:la=A.length→b+5<L.length:=fun e=>by
  have:=hA.h5
  subst e
  rw [St.get_cur] at this
  exact (List.getElem?_eq_some_iff.1 (vis_noH this).1).1
 -- where the list lies
 obtain ⟨tx,ver,t1,t2,t3⟩:∃ tx ver,(cs=[]∧td1=.nils∧tx=L.length∨cs≠[]∧td1=.ref A.length tx ver 0 cs.length∧L1[tx]?=some (.arr 1 ver cs)∧L.length+2≤tx∧penX (L.length+1) td1 tx)∧tx≠L.length+1∧(∀ k,L.length+2≤k→¬ penX (L.length+1) td1 k→k≠tx):=by
  rcases p2 with ⟨e1,e2⟩|⟨tx,ver,e1,e2,e3,e4⟩
  ·exact ⟨L.length,0,.inl ⟨e2,e1,rfl⟩,by omega,fun k hk _=>by omega⟩
  ·have hX:penX (L.length+1) td1 tx:=.inr ⟨_,_,_,_,e1⟩
   refine ⟨tx,ver,.inr ⟨e4,e1,e2,?_,hX⟩,e3,fun k hk hn q=>hn (by rw [q];exact hX)⟩
   rcases ha.frm.own tx hX with w|w
   ·rcases w with w|⟨_,_,_,_,w⟩
    ·exact absurd w e3
    ·simp at w
   ·rwa [List.length_append,hTl] at w
 refine ⟨L1.set (L.length+1) (.arr 3 0 [.agg [.ptr la (b+5) 0 0 0,td1,.ptr A.length rx 0 0 0]]),tx,ver,cs,its,F,R.map Prod.fst,rx,roOf R,s_keep rfl ?_,⟨⟨by simp [St.wr],⟨td1,by rw [St.get_cur,List.getElem?_set_self hlt1];rfl,?_⟩,ha.cl,?_,?_,q2,q1,?_,t2,?_,?_,?_,Nat.zero_le _⟩,by rw [List.length_set];omega,?_,hkl,hfl,fun hc=>(by
  rcases t1 with ⟨w,_⟩|⟨_,_,_,w,_⟩
  ·exact absurd w hc
  ·exact w),.inr ⟨⟨_,hv⟩,R,ha.tr,roOf_ok ha.nd,ha.nd⟩⟩⟩
 ·have e0:(⟨A,false,L⟩:St)=⟨A,false,L++[]⟩:=by rw [List.append_nil]
  rw [e0]
  rw [hT] at hS
  repeat' (first|refine is_boxA rfl (tr_wide _) (tr_force _) rfl rfl ?_|refine is_boxA rfl rfl rfl rfl rfl ?_|refine is_ldA rfl rfl rfl (tr_part _) ?_|refine ru_seq ?_|refine ru_reg ?_|refine is_mv rfl ?_|refine is_fadr rfl rfl ?_|refine is_nil rfl ?_|refine rk_seq ?_|refine is_fld (agg:=false) rfl rfl ?_|refine is_nilck rfl rfl ?_|(refine is_gtr rfl rfl (fun _=>?_) (fun _=>?_)<;>try (exfalso;omega))|(refine is_neq rfl rfl (fun _=>?_) (fun _=>?_)<;>try (exfalso;omega))|refine ru_iteF rfl ?_|refine is_buildO rfl rfl rfl ?_|refine is_callE rfl rfl (by first|rfl|(simp only [List.nil_append,List.append_nil,List.cons_append,weaks,tr_weak,forceL];first|done|rfl)) (hCk _) ?_|refine is_callE rfl rfl (by first|rfl|(simp only [List.nil_append,List.append_nil,List.cons_append,weaks,tr_weak,forceL];first|done|rfl)) (hNw _) ?_|refine is_callE rfl rfl (by first|rfl|(simp only [List.nil_append,List.append_nil,List.cons_append,weaks,tr_weak,forceL];first|done|rfl)) (hSt _) ?_|refine is_callE rfl rfl (by first|rfl|(simp only [List.nil_append,List.append_nil,List.cons_append,weaks,tr_weak,forceL];first|done|rfl)) (hS) ?_|refine ru_skip ?_)
  all_goals try (exfalso;omega)
  refine is_stn p1 rfl rfl rfl ?_ rfl ?_
  ·simp only [sealV,deep,if_pos (Nat.lt_succ_self _)]
  repeat' (first|refine ru_seq ?_|refine ru_reg ?_|refine is_mv rfl ?_|refine is_nil rfl ?_|refine rk_seq ?_|refine ru_ret ?_|refine rk_nil ?_)
  refine (end_keep (.inr rfl) rfl rfl rfl rfl).trans ?_
  rfl
 ·rcases t1 with ⟨e1,e2,e3⟩|⟨e0,e1,e2,e3⟩
  ·exact .inl ⟨e1,e2⟩
  ·exact .inr ⟨e0,e1,by rw [St.get_cur,hg _ t2,e2];rfl⟩
 ·intro p hp
  obtain ⟨f1,f2⟩:=ha.fx p hp
  obtain ⟨w,v,es,f3,f4⟩:=ha.fw p hp
  have:p.1≠L.length+1:=fun q=>f2 (.inl q)
  rw [St.get_cur,hg _ this,f1,f3];rfl
 ·intro k hk
  obtain ⟨p,hp,rfl⟩:=List.mem_map.1 hk
  obtain ⟨f1,f2⟩:=ha.rts.get hp
  have:p.1≠L.length+1:=fun q=>f2 (.inl q)
  rw [St.get_cur,hg _ this,f1,roOf_ok ha.nd p hp];rfl
 ·intro k hk
  have h1:=hkl k hk
  obtain ⟨p,hp,rfl⟩:=List.mem_map.1 hk
  exact ⟨by omega,t3 _ h1 (ha.rts.get hp).2⟩
 ·intro p hp
  obtain ⟨f1,f2⟩:=ha.fx p hp
  obtain ⟨w,v,es,f3,f4⟩:=ha.fw p hp
  have h1:=hfl p hp
  refine ⟨fun q=>?_,by omega,t3 _ h1 f2⟩
  obtain ⟨u,hu,e⟩:=List.mem_map.1 q
  have f5:=(ha.rts.get hu).1
  rw [e,f1,f3] at f5
  simp only [Option.some.injEq,Blk.arr.injEq] at f5
  exact f4 f5.1
 ·intro i hi ⟨e1,e2,e3⟩
  have:=hbl e1.symm
  rcases hi with rfl|⟨c1,rfl⟩|q|⟨p,hp,rfl⟩
  ·omega
  ·rcases t1 with ⟨w,_⟩|⟨_,_,_,w,_⟩
   ·exact c1 w
   ·omega
  ·have:=hkl i q;omega
  ·have:=hfl p hp;omega
 ·have h1:=ha.cl.len
  have h2:=ha.tr.cnt
  omega
 ·intro i hi
  rw [hg i (by omega),ha.frm.old i (by rw [List.length_append];omega) (fun q=>?_),List.getElem?_append_left hi]
  rcases q with q|⟨_,_,_,_,q⟩
  ·omega
  ·simp at q
theorem get_top {A:List (Bool × List Blk)} {ro:Bool} {L:List Blk} {i:Nat} {b:Blk} (h:L[i]?=some b) (hv:vis (some b)=some b):St.get ⟨A,ro,L⟩ A.length i=some b:=by rw [St.get_cur,h,hv]
theorem New_empty {t:Tr} (ht:IsEmpty t) (st:St):S Tb F_plan_New [t.av] st=some (.int .i64 (0:Nat),st) :=
 New_leafy (c:=1) ht.ks (fun st=>kind_empty t ht st) st
theorem begin_empty {A:List (Bool × List Blk)} {L:List Blk} {la b:Nat} {r:AR} (hA:HasR ⟨A,false,L⟩ la b r) (hN:r.n≤r.blk.length) (h16:r.states.length≤16384) (h6:r.n<65536) {t:Tr} (ht:IsEmpty t) :
 ∃ L2 tx ver cs its F keys rx ρ,S Tb F_rope_Begin [.ptr la (b+5) 0 0 0,t.av] ⟨A,false,L⟩=some (.tup [.ptr A.length (L.length+1) 0 0 0,.int .i64 0],⟨A,false,L2⟩)∧Begun A L L2 la b t tx ver cs its F keys rx ρ:=by
 have hCk:=fun T=>Check_empty (st:=⟨A,false,L++T⟩) (lv:=la) (ix:=b+5) ht
 have hNw:=fun st=>New_empty ht st
 have hSt:=fun T=>Stats_c (hA.app T) hN h16 h6
 unfold AR.statsAV at hSt
 have hbl:la=A.length→b+5<L.length:=fun e=>by
  have:=hA.h5
  subst e
  rw [St.get_cur] at this
  exact (List.getElem?_eq_some_iff.1 (vis_noH this).1).1
 obtain ⟨T,hT⟩:∃ T:List Blk,T=[.arr 7 0 [t.av],.arr 3 0 [.agg [.ptr la (b+5) 0 0 0,.nils,.nilptr]]]:=⟨_,rfl⟩
 have hadd:S Tb F_rope_Pen_add [.ptr A.length (L.length+1) 0 0 0,t.av] ⟨A,false,L++T⟩=some (.ptr A.length ((L++T).length+1) 0 0 0,⟨A,false,(L++T)++[.arr 7 0 [t.av],.arr 5 0 [Ro.zero.av]]⟩):=by
  refine s_keep rfl ?_
  have e0:(⟨A,false,L++T⟩:St)=⟨A,false,(L++T)++[]⟩:=by rw [List.append_nil]
  rw [e0]
  generalize L++T=L0
  obtain ⟨o,h,m,s,k⟩:=t
  obtain ⟨h1,h2,h3,h4,h5⟩:=ht
  simp only [Tr.old,Tr.h,Tr.m,Tr.text,Tr.ks] at h1 h2 h3 h4 h5
  subst h1 h2 h3 h4
  obtain ⟨ka,hka,hka2⟩:∃ ka,Tr.avO k=ka∧(ka=.nils∨ka=.lit []):=by
   cases k with
   | none=>exact ⟨_,rfl,.inl rfl⟩
   | some l=>have:l=[]:=h5;subst this;exact ⟨_,rfl,.inr rfl⟩
  simp only [Tr.av,Mea.zero,hka] at *
  rcases hka2 with rfl|rfl
  all_goals repeat' (first|refine is_boxA rfl rfl rfl rfl rfl ?_|refine is_ldA rfl rfl rfl rfl ?_|refine ru_seq ?_|refine ru_reg ?_|refine is_mv rfl ?_|refine is_fadr rfl rfl ?_|refine is_gT rfl ?_|refine is_pick rfl rfl rfl rfl ?_|refine is_nil rfl ?_|refine rk_seq ?_|refine is_lenF rfl rfl ?_|refine is_lenN rfl ?_|(refine is_eql rfl rfl (fun _=>?_) (fun _=>?_)<;>try (exfalso;omega))|(refine is_neq rfl rfl (fun _=>?_) (fun _=>?_)<;>try (exfalso;omega))|(refine is_eqlS rfl rfl (fun _=>?_) (fun _=>?_)<;>try contradiction)|refine ru_iteT rfl ?_|refine is_buildO rfl rfl rfl ?_|refine ru_skip ?_|refine ru_ret ?_|refine ru_block ?_|refine rk_nil ?_|refine rk_blk ?_)
  all_goals try contradiction
  all_goals try (exfalso;omega)
  all_goals refine (end_keep (.inr rfl) rfl rfl rfl rfl).trans ?_
  all_goals rfl
 have hTl:T.length=2:=by rw [hT];rfl
 have hl2:(L++T).length=L.length+2:=by rw [List.length_append,hTl]
 rw [hl2] at hadd
 have p1:((L++T)++[Blk.arr 7 0 [t.av],Blk.arr 5 0 [Ro.zero.av]])[L.length+1]?=some (.arr 3 0 [.agg [.ptr la (b+5) 0 0 0,.nils,.nilptr]]):=by
  rw [List.append_assoc,get_app,hT];rfl
 refine ⟨((L++T)++[Blk.arr 7 0 [t.av],Blk.arr 5 0 [Ro.zero.av]]).set (L.length+1) (Blk.arr 3 0 [.agg [.ptr la (b+5) 0 0 0,.nils,.ptr A.length (L.length+3) 0 0 0]]),L.length,0,[],[],[],[L.length+3],L.length+3,fun _=>.zero,s_keep rfl ?_,⟨⟨by simp [St.wr],⟨.nils,?_,.inl ⟨rfl,rfl⟩⟩,.nil,fun p hp=>by simp at hp,fun k hk=>?_,fun it hi=>by simp at hi,by simp,fun k hk=>?_,by omega,fun p hp=>by simp at hp,fun i hi=>?_,by simp,Nat.zero_le _⟩,by simp,fun i hi=>?_,fun k hk=>?_,fun p hp=>by simp at hp,fun hc=>absurd rfl hc,.inl ⟨ht,rfl,rfl⟩⟩⟩
 ·have e0:(⟨A,false,L⟩:St)=⟨A,false,L++[]⟩:=by rw [List.append_nil]
  rw [e0]
  rw [hT] at hadd p1 ⊢
  repeat' (first|refine is_boxA rfl (tr_wide _) (tr_force _) rfl rfl ?_|refine is_boxA rfl rfl rfl rfl rfl ?_|refine is_ldA rfl rfl rfl (tr_part _) ?_|refine ru_seq ?_|refine ru_reg ?_|refine is_mv rfl ?_|refine is_fadr rfl rfl ?_|refine is_nil rfl ?_|refine rk_seq ?_|refine is_fld (agg:=false) rfl rfl ?_|refine is_nilck rfl rfl ?_|(refine is_gtr rfl rfl (fun _=>?_) (fun _=>?_)<;>try (exfalso;omega))|(refine is_neq rfl rfl (fun _=>?_) (fun _=>?_)<;>try (exfalso;omega))|refine ru_iteF rfl ?_|refine is_buildO rfl rfl rfl ?_|refine is_callE rfl rfl (by first|rfl|(simp only [List.nil_append,List.append_nil,List.cons_append,weaks,tr_weak,forceL];first|done|rfl)) (hCk _) ?_|refine is_callE rfl rfl (by first|rfl|(simp only [List.nil_append,List.append_nil,List.cons_append,weaks,tr_weak,forceL];first|done|rfl)) (hNw _) ?_|refine is_callE rfl rfl (by first|rfl|(simp only [List.nil_append,List.append_nil,List.cons_append,weaks,tr_weak,forceL];first|done|rfl)) (hSt _) ?_|refine is_callE rfl rfl (by first|rfl|(simp only [List.nil_append,List.append_nil,List.cons_append,weaks,tr_weak,forceL];first|done|rfl)) (hadd) ?_|refine ru_skip ?_)
  all_goals try (exfalso;omega)
  refine is_stn p1 rfl rfl rfl ?_ rfl ?_
  ·simp only [sealV,deep,if_pos (Nat.lt_succ_self _)]
  repeat' (first|refine ru_seq ?_|refine ru_reg ?_|refine is_mv rfl ?_|refine is_nil rfl ?_|refine rk_seq ?_|refine ru_ret ?_|refine rk_nil ?_)
  refine (end_keep (.inr rfl) rfl rfl rfl rfl).trans ?_
  rfl
 ·exact get_top (List.getElem?_set_self (by simp)) rfl
 ·simp only [List.mem_singleton] at hk
  subst hk
  refine get_top ?_ rfl
  rw [List.getElem?_set_ne (by omega),show L.length+3=(L++T).length+1 by rw [hl2],get_app];rfl
 ·simp only [List.mem_singleton] at hk
  omega
 ·rintro ⟨e1,e2,e3⟩
  have:=hbl e1.symm
  rcases hi with rfl|⟨c1,rfl⟩|q|⟨p,hp,rfl⟩
  ·omega
  ·exact c1 rfl
  ·simp only [List.mem_singleton] at q;omega
  ·simp at hp
 ·rw [List.getElem?_set_ne (by omega),List.append_assoc,List.getElem?_append_left hi]
 ·simp only [List.mem_singleton] at hk
  omega
end Go.Q15
namespace Go.Q15
open Go Go.QAbs
set_option maxRecDepth 100000
set_option maxHeartbeats 8000000
def hmAV (l:List Nat):List (AV × AV):=l.map fun (h:Nat)=>(AV.int .u64 h,AV.bool true)
def hnAV (h:Nat):AV:=.int .u64 h
namespace Tr
end Tr
structure KS (st:St) (lv mb mx ob ox wb ver:Nat) (out:List Nat):Prop where
 wr:st.wr lv
 hm:st.get lv mb=some (.arr 1 0 [.map lv mx])
 hmx:st.get lv mx=some (.map (hmAV out))
 ho:st.get lv ob=some (.arr 1 0 [.ref lv ox ver 0 out.length])
 hox:st.get lv ox=some (.arr 1 ver (out.map hnAV))
 hw:st.get lv wb=some (.arr 1 0 [.func (.func F_plan_KeptC1) [] [.ptr lv mb 0 0 0,.ptr lv ob 0 0 0,.ptr lv wb 0 0 0]])
 n1:mx≠ox
 n2:mx≠ob
 n3:ox≠ob
 n4:mb≠mx∧mb≠ox∧mb≠ob
 n5:wb≠mx∧wb≠ox∧wb≠ob
def putKS (st:St) (lv mx ob ox ver:Nat) (out:List Nat):St:=((st.upd lv mx (.map (hmAV out))).upd lv ox (.arr 1 ver (out.map hnAV))).upd lv ob (.arr 1 0 [.ref lv ox ver 0 out.length])
theorem KS.get {st:St} {lv mb mx ob ox wb ver:Nat} {out:List Nat} (h:KS st lv mb mx ob ox wb ver out) (v:Nat) (t:List Nat) (l' i':Nat) :
 (putKS st lv mx ob ox v t).get l' i'=if l'=lv∧i'=ob then some (.arr 1 0 [.ref lv ox v 0 t.length]) else if l'=lv∧i'=ox then some (.arr 1 v (t.map hnAV)) else if l'=lv∧i'=mx then some (.map (hmAV t)) else st.get l' i':=by
 have g1:∀ l' i',(st.upd lv mx (.map (hmAV t))).get l' i'=if l'=lv∧i'=mx then some (.map (hmAV t)) else st.get l' i':=fun l' i'=>St.get_upd h.hmx rfl
 have b1:(st.upd lv mx (.map (hmAV t))).get lv ox=some (.arr 1 ver (out.map hnAV)):=by rw [g1,if_neg (fun q=>h.n1 q.2.symm)];exact h.hox
 have g2:∀ l' i',((st.upd lv mx (.map (hmAV t))).upd lv ox (.arr 1 v (t.map hnAV))).get l' i'=if l'=lv∧i'=ox then some (.arr 1 v (t.map hnAV)) else (st.upd lv mx (.map (hmAV t))).get l' i':=fun l' i'=>St.get_upd b1 rfl
 have b2:((st.upd lv mx (.map (hmAV t))).upd lv ox (.arr 1 v (t.map hnAV))).get lv ob=some (.arr 1 0 [.ref lv ox ver 0 out.length]):=by rw [g2,if_neg (fun q=>h.n3 q.2.symm),g1,if_neg (fun q=>h.n2 q.2.symm)];exact h.ho
 rw [putKS,St.get_upd b2 rfl,g2,g1]
theorem KS.put {st:St} {lv mb mx ob ox wb ver:Nat} {out:List Nat} (h:KS st lv mb mx ob ox wb ver out) (v:Nat) (t:List Nat):KS (putKS st lv mx ob ox v t) lv mb mx ob ox wb v t:=by
 refine ⟨St.wr_upd (St.wr_upd (St.wr_upd h.wr h.wr) (St.wr_upd h.wr h.wr)) (St.wr_upd (St.wr_upd h.wr h.wr) (St.wr_upd h.wr h.wr)),?_,?_,?_,?_,?_,h.n1,h.n2,h.n3,h.n4,h.n5⟩
 ·rw [h.get,if_neg (fun q=>h.n4.2.2 q.2),if_neg (fun q=>h.n4.2.1 q.2),if_neg (fun q=>h.n4.1 q.2)];exact h.hm
 ·rw [h.get,if_neg (fun q=>h.n2 q.2),if_neg (fun q=>h.n1 q.2),if_pos ⟨rfl,rfl⟩]
 ·rw [h.get,if_pos ⟨rfl,rfl⟩]
 ·rw [h.get,if_neg (fun q=>h.n3 q.2),if_pos ⟨rfl,rfl⟩]
 ·rw [h.get,if_neg (fun q=>h.n5.2.2 q.2),if_neg (fun q=>h.n5.2.1 q.2),if_neg (fun q=>h.n5.1 q.2)];exact h.hw
theorem KS.same {st:St} {lv mb mx ob ox wb ver:Nat} {out:List Nat} (h:KS st lv mb mx ob ox wb ver out):putKS st lv mx ob ox ver out=st:=by
 rw [putKS,upd_same h.hmx,upd_same h.hox,upd_same h.ho]
theorem KS.push {st:St} {A:List (Bool × List Blk)} {ro:Bool} {L:List Blk} (hA:A=st.A++[(st.ro,st.L)]) {lv mb mx ob ox wb ver:Nat} {out:List Nat} (h:KS st lv mb mx ob ox wb ver out):KS ⟨A,ro,L⟩ lv mb mx ob ox wb ver out :=
 ⟨wr_push hA (St.get_le h.hm) h.wr,get_old hA h.hm,get_old hA h.hmx,get_old hA h.ho,get_old hA h.hox,get_old hA h.hw,h.n1,h.n2,h.n3,h.n4,h.n5⟩
end Go.Q15
namespace Go.Q15
open Go Go.QAbs
set_option maxRecDepth 100000
set_option maxHeartbeats 8000000
def wrV (t:Tr) (r:AR):AR × Ro × List Nat:=if t.old=0∧t.h=0∧t.text=[] then (r,.zero,[]) else t.wr r
theorem wrV_val {N:Nodes} {t:Tr} (hv:Val N t) (r:AR):wrV t r=t.wr r:=by
 unfold wrV
 cases hv with
 | kept h0=>rw [if_neg];simp [Tr.old,h0]
 | leaf h1=>rw [if_neg];rintro ⟨_,_,q⟩;simp only [Tr.text] at q;rw [q] at h1;simp at h1
 | inner=>rw [if_neg];simp [Tr.h]
theorem wrV_empty {t:Tr} (h:IsEmpty t) (r:AR):wrV t r=(r,.zero,[]):=by
 unfold wrV;rw [if_pos ⟨h.old,h.h,h.text⟩]
theorem Val.not_empty {N:Nodes} {t:Tr} (hv:Val N t):¬ IsEmpty t:=fun h=>by
 have:=hv.pos.2
 have:=h.bytes
 omega
theorem PI.run {r:AR} (ho:AROk r) (hg:GoodN r.nodes) {t:Tr} (hv:VE r.nodes t) (hb:t.bytes≤65536) (hn:nw t≤r.n) {its:List It} {rx:Nat} {ρ:Nat→Ro} (h:PI t its rx ρ) :
 ∃ ρ',RunOk its r ρ (wrV t r).1 ρ' (wrV t r).2.2∧ρ' rx=(wrV t r).2.1:=by
 rcases h with ⟨h1,rfl,h2⟩|⟨⟨M,hM⟩,R,h1,h2,h3⟩
 ·rw [wrV_empty h1];exact ⟨ρ,.nil,h2⟩
 ·rcases hv with hv|hv
  ·exact absurd hv hM.not_empty
  ·rw [wrV_val hv]
   rw [nw_val hv] at hn
   obtain ⟨ρ',a1,a2,_⟩:=exec_ok hg hv hb r ho hg (.refl _) hn rx its R ρ h1 h2 h3
   exact ⟨ρ',a1,a2⟩
theorem begin_c {A:List (Bool × List Blk)} {L:List Blk} {la b:Nat} {r:AR} (hA:HasR ⟨A,false,L⟩ la b r) (hN:r.n≤r.blk.length) (h16:r.states.length≤16384) (h6:r.n<65536) {t:Tr} (hv:VE r.nodes t) (hb:t.bytes≤65536) (hn:nw t≤r.n) :
 ∃ L2 tx ver cs its F keys rx ρ,S Tb F_rope_Begin [.ptr la (b+5) 0 0 0,t.av] ⟨A,false,L⟩=some (.tup [.ptr A.length (L.length+1) 0 0 0,.int .i64 0],⟨A,false,L2⟩)∧Begun A L L2 la b t tx ver cs its F keys rx ρ:=by
 rcases hv with hv|hv
 ·exact begin_empty hA hN h16 h6 hv
 ·rw [nw_val hv] at hn
  exact begin_val (N:=r.nodes) hA hN h16 h6 hv hb hn
theorem seal_wr {A:List (Bool × List Blk)} {L:List Blk} {ix ver n:Nat} {l:List Nat} {ro:Ro} {e:Int} (hg:L[ix]?=some (.arr 1 ver (l.map hnAV))) (hn:n=l.length) :
 sealV deep A.length ⟨A,false,L⟩ (.tup [ro.av,.ref A.length ix ver 0 n,.int .i64 e])=some (.tup [ro.av,.lit (l.map hnAV),.int .i64 e],⟨A,false,L.set ix .dead⟩):=by
 subst hn
 have h1:=seal_refO (n:=4) (A:=A) (s:=0) (m:=l.length) hg (by simp) (es':=l.map hnAV) (by
  rw [List.drop_zero,List.take_of_length_le (by simp)]
  exact ints_seal (k:=.u64) (fun n:Nat=>(n:Int)) 3 0 _ l)
 show (mapSt (sealV 5 A.length) _ _).bind tupK=_
 have h2:sealV 5 A.length ⟨A,false,L⟩ ro.av=some (ro.av,⟨A,false,L⟩):=rfl
 simp only [mapSt,h2,Option.bind_some,h1]
 rfl
theorem RunOk.len {its:List It} {r r':AR} {ρ ρ':Nat→Ro} {hs:List Nat} (h:RunOk its r ρ r' ρ' hs):hs.length=its.length:=by
 induction h with
 | nil=>rfl
 | cons hn hx hk h ih=>simp [ih]
theorem RunOk.inv {it:It} {its:List It} {r r':AR} {ρ ρ':Nat→Ro} {l:List Nat} (h:RunOk (it::its) r ρ r' ρ' l) :
 ∃ hs,l=r.next::hs∧0<r.n∧NdOk (ndOf ρ it.c)∧KidsIn r.nodes (ndOf ρ it.c)∧RunOk its (r.add (ndOf ρ it.c)) (rset ρ it.rx r.next) r' ρ' hs:=by
 cases h with
 | cons hn hx hk h=>exact ⟨_,rfl,hn,hx,hk,h⟩
theorem RunOk.nil_inv {r r':AR} {ρ ρ':Nat→Ro} {l:List Nat} (h:RunOk [] r ρ r' ρ' l):l=[]∧r'=r∧ρ'=ρ:=by
 cases h;exact ⟨rfl,rfl,rfl⟩
theorem step_cur {st:St} {la b:Nat} (hl:la≤st.A.length) (rj r2:AR) {n:Nat} (hn:n=st.A.length+1) (L:List Blk) (ip tx ver len rx k:Nat) (ro:Ro) (j:Nat) :
 stepSt ⟨(arSt st la b rj).ps,false,L⟩ n ip tx ver la b len rx r2 k ro j=⟨(arSt st la b r2).ps,false,(L.set k (.arr 5 0 [ro.av])).set ip (.arr 3 0 [.agg [.ptr la (b+5) 0 0 0,.ref n tx ver (j+1) (len-j-1),.ptr n rx 0 0 0]])⟩:=by
 have e1:arSt ⟨(arSt st la b rj).ps,false,L⟩ la b r2=⟨(arSt st la b r2).ps,false,L⟩:=by
  rw [arSt_push rfl (by rw [arSt_A];exact hl),arSt_arSt]
 have e2:((arSt st la b r2).ps).length=n:=by rw [hn];simp [arSt_A]
 rw [stepSt,e1]
 unfold St.upd
 simp only [e2,if_true]
theorem PenS.frm {A:List (Bool × List Blk)} {L L':List Blk} {n ip tx ver la b:Nat} {cls:List AV} {its:List It} {F:List (Nat × Blk)} {keys:List Nat} {rx:Nat} {ρ:Nat→Ro} {j:Nat} (h:PenS ⟨A,false,L⟩ n ip tx ver la b cls its F keys rx ρ j) (hn:n=A.length)
 (hg:∀ i,i=ip∨(cls≠[]∧i=tx)∨i∈keys∨(∃ p∈F,i=p.1)→L'[i]?=L[i]?):PenS ⟨A,false,L'⟩ n ip tx ver la b cls its F keys rx ρ j:=by
 subst hn
 obtain ⟨td,h1,h2⟩:=h.pen
 have hget:∀ i,(i=ip∨(cls≠[]∧i=tx)∨i∈keys∨(∃ p∈F,i=p.1))→St.get ⟨A,false,L'⟩ A.length i=St.get ⟨A,false,L⟩ A.length i:=fun i hi=>by rw [St.get_cur,St.get_cur,hg i hi]
 refine ⟨by simp [St.wr],⟨td,by rw [hget _ (.inl rfl)];exact h1,?_⟩,h.cl,fun p hp=>by rw [hget _ (.inr (.inr (.inr ⟨p,hp,rfl⟩)))];exact h.fx p hp,fun k hk=>by rw [hget _ (.inr (.inr (.inl hk)))];exact h.rts k hk,h.key,h.rk,h.s1,h.s2,h.s3,h.ar,h.len,h.jl⟩
 rcases h2 with q|⟨hc,q1,q2⟩
 ·exact .inl q
 ·exact .inr ⟨hc,q1,by rw [hget _ (.inr (.inl ⟨hc,rfl⟩))];exact q2⟩
theorem end_wr {e:Env} {A:List (Bool × List Blk)} {st:St} {L:List Blk} {x:Ex} {c4 c5 c6 j4 ix w4 v4 ver n:Nat} {l:List Nat} {ro:Ro} {z:Int} (hA:A=st.A++[(st.ro,st.L)]) (hx:x=.norm∨x=.ret) (h4:lookO e c4=some (.ptr A.length j4 v4 0 0)) (hg4:L[j4]?=some (.arr w4 v4 [ro.av]))
 (h5:lookO e c5=some (.ref A.length ix ver 0 n)) (hg5:L[ix]?=some (.arr 1 ver (l.map hnAV))) (hn:n=l.length) (h6:lookO e c6=some (.int .i64 z)):endK false [.c c4 true 5,.s c5,.s c6] (x,e,⟨A,false,L⟩)=some (.tup [ro.av,.lit (l.map hnAV),.int .i64 z],st):=by
 refine end_of (v:=.tup [ro.av,.ref A.length ix ver 0 n,.int .i64 z]) hA hx ?_ (seal_wr hg5 hn) rfl
 have h1:resV ⟨A,false,L⟩ e (.c c4 true 5)=some ro.av:=by
  simp only [resV,lookO_some h4,loadP,St.get_cur,hg4,vis,loadB,if_true,List.getElem?_cons_zero,Option.bind_some]
  rfl
 simp only [result,resL,h1,Option.bind_some]
 simp only [resV,lookO_some h5,lookO_some h6,Option.bind_some,Option.map_some,tupOf]
theorem Write_c {st:St} {la b:Nat} {r:AR} (hA:Has st la b r) (ho:AROk r) (hg:GoodN r.nodes) {t:Tr} (hv:VE r.nodes t) (hb:t.bytes≤65536) (hn:nw t≤r.n) :
 S Tb F_rope_Write [.ptr la (b+5) 0 0 0,t.av] st=some (.tup [(wrV t r).2.1.av,.lit ((wrV t r).2.2.map hnAV),.int .i64 0],arSt st la b (wrV t r).1):=by
 refine s_ofW rfl (fun A hA'=>?_)
 obtain ⟨LB,hLB⟩:∃ LB:List Blk,LB=[.arr 7 0 [t.av],.arr 5 0 [Ro.zero.av],.arr 1 0 []]:=⟨_,rfl⟩
 have hle:=hA.le
 have hla:la<A.length:=by rw [hA'];simp;omega
 have h3:LB.length=3:=by rw [hLB];rfl
 obtain ⟨L2,tx,ver,cs,its,F,keys,rx,ρ,hS,hB⟩:=begin_c (L:=LB) (hA.push hA').r ho.nb ho.n16 (by have:=ho.nn;have:=ho.n16;omega) hv hb hn
 obtain ⟨ρ',hrun,hro⟩:=hB.pi.run ho hg hv hb hn
 generalize (wrV t r).1=r' at *
 generalize (wrV t r).2.2=hs at *
 generalize (wrV t r).2.1=ro at *
 have hcl:=hB.ps.cl.len
 have hk5:∀ k∈keys,5≤k:=fun k hk=>by have:=hB.klo k hk;omega
 have g1:L2[1]?=some (.arr 5 0 [Ro.zero.av]):=by rw [hB.old 1 (by omega),hLB];rfl
 have g2:L2[2]?=some (.arr 1 0 (([]:List Nat).map hnAV)):=by rw [hB.old 2 (by omega),hLB];rfl
 have hps:=hB.ps
 rw [h3] at hS hps
 rw [hLB] at hS
 repeat' (first|refine ru_seq ?_|refine ru_reg ?_|refine is_mv rfl ?_|refine is_ext rfl rfl ?_|refine is_nil rfl ?_|refine rk_seq ?_|(refine is_neq rfl rfl (fun _=>?_) (fun _=>?_)<;>try (exfalso;omega))|refine ru_iteF rfl ?_|refine is_box rfl rfl rfl ?_|refine is_onil rfl ?_|refine is_ldc rfl rfl rfl (tr_part _) ?_|refine is_boxG rfl (tr_wide _) (tr_force _) ?_|refine is_callE rfl rfl (by first|rfl|(simp only [List.nil_append,List.append_nil,List.cons_append,weaks,tr_weak,forceL];first|done|rfl)) (hS) ?_|refine ru_skip ?_|refine ru_block ?_)
 all_goals try contradiction
 have hAn:A.length=st.A.length+1:=by rw [hA'];simp
 have hhl:=hrun.len
 refine ru_loopP (α:=Bool × Nat × AR × (Nat→Ro) × List Blk) (fun p=>match p.1 with
  | true=>[(4,.ptr A.length 1 0 0 0),(5,.ref A.length 2 p.2.1 0 p.2.1),(6,.int .i64 0),(7,.ptr A.length 4 0 0 0),(18,.bool false)]
  | false=>[(4,.ptr A.length 1 0 0 0),(5,.ref A.length 2 p.2.1 0 p.2.1),(7,.ptr A.length 4 0 0 0)])
  (fun p=>⟨(arSt st la b p.2.2.1).ps,false,p.2.2.2.2⟩)
  (fun p=>PenS ⟨(arSt st la b p.2.2.1).ps,false,p.2.2.2.2⟩ A.length 4 tx ver la b cs its F keys rx p.2.2.2.1 p.2.1∧AROk p.2.2.1∧RunOk (its.drop p.2.1) p.2.2.1 p.2.2.2.1 r' ρ' (hs.drop p.2.1)∧p.2.1≤its.length∧p.2.2.2.2[1]?=some (.arr 5 0 [Ro.zero.av])∧p.2.2.2.2[2]?=some (.arr 1 p.2.1 ((hs.take p.2.1).map hnAV)))
  (fun p=>its.length-p.2.1) (true,0,r,ρ,L2) rfl ?_ ?_ ?_
 ·simp only [hA.same,← hA']
 ·simp only [hA.same,← hA']
  exact ⟨hps,ho,hrun,Nat.zero_le _,g1,g2⟩
 rintro ⟨fst,j,rj,ρj,Lj⟩ ⟨q1,q2,q3,q4,q5,q6⟩
 simp only at q1 q2 q3 q4 q5 q6
 have hHj:Has ⟨(arSt st la b rj).ps,false,Lj⟩ la b rj:=(hA.put rj).push rfl
 obtain ⟨td,t1,t2⟩:=q1.pen
 have hAl:A.length=(arSt st la b rj).ps.length:=by rw [hAn];simp [arSt_A]
 rcases Nat.lt_or_ge j its.length with hlt|hge
 ·obtain ⟨it,hit⟩:∃ it,its[j]?=some it:=⟨its[j]'hlt,by simp [hlt]⟩
  have hd:its.drop j=it::its.drop (j+1):=by
   rw [List.drop_eq_getElem_cons hlt]
   rw [List.getElem?_eq_getElem hlt] at hit
   rw [Option.some.inj hit]
  rw [hd] at q3
  obtain ⟨hs2,e1,hn1,hx1,hk1,hr1⟩:=q3.inv
  have hdj:hs[j]?=some rj.next:=by
   have:=List.getElem?_drop (xs:=hs) (i:=j) (j:=0)
   rw [e1] at this
   simpa using this.symm
  have hd2:hs.drop (j+1)=hs2:=by
   rw [← List.drop_drop,e1];rfl
  obtain ⟨p1,p2,p3⟩:=q1.step hHj q2 hn1 hit hx1 hk1
  rw [step_cur hle rj _ hAn] at p1 p2
  have hjc:j<cs.length:=by rw [hcl];exact hlt
  have hne:cs≠[]:=fun q=>by rw [q] at hjc;simp at hjc
  rcases t2 with ⟨w,_⟩|⟨_,rfl,t3⟩
  ·exact absurd w hne
  obtain ⟨k1,_⟩:=q1.key it (List.mem_of_getElem? hit)
  have hk5':=hk5 _ k1
  have hl4:Lj[4]?=some (.arr 3 0 [.agg [.ptr la (b+5) 0 0 0,.ref A.length tx ver j (cs.length-j),.ptr A.length rx 0 0 0]]):=by
   rw [hAl] at t1
   rw [St.get_cur] at t1
   rw [hAl]
   exact (vis_noH t1).1
  obtain ⟨r2,hr2⟩:∃ r2,r2=rj.add (ndOf ρj it.c):=⟨_,rfl⟩
  rw [← hr2] at p1 p2 hr1
  have ho2:AROk r2:=by rw [hr2];exact q2.add hn1 _
  have hAl2:A.length=(arSt st la b r2).ps.length:=by rw [hAn];simp [arSt_A]
  obtain ⟨L3,hL3⟩:∃ L3,L3=(Lj.set it.rx (.arr 5 0 [((ρj it.rx).wr rj.next).av])).set 4 (.arr 3 0 [.agg [.ptr la (b+5) 0 0 0,.ref A.length tx ver (j+1) (cs.length-j-1),.ptr A.length rx 0 0 0]]):=⟨_,rfl⟩
  rw [← hL3] at p1 p2
  have h31:L3[1]?=some (.arr 5 0 [Ro.zero.av]):=by rw [hL3,List.getElem?_set_ne (by omega),List.getElem?_set_ne (by omega)];exact q5
  have h32:L3[2]?=some (.arr 1 j ((hs.take j).map hnAV)):=by rw [hL3,List.getElem?_set_ne (by omega),List.getElem?_set_ne (by omega)];exact q6
  have hj2:j=((hs.take j).map hnAV).length:=by simp;omega
  have hj3:∀ x:AV,((hs.take j).map hnAV).length+[x].length<4294967296:=fun x=>by have:=q1.len;simp;omega
  have hinv:∀ L4,L4=L3.set 2 (.arr 1 (j+1) ((hs.take j).map hnAV++[.int .u64 rj.next]))→PenS ⟨(arSt st la b r2).ps,false,L4⟩ A.length 4 tx ver la b cs its F keys rx (rset ρj it.rx rj.next) (j+1)∧AROk r2∧RunOk (its.drop (j+1)) r2 (rset ρj it.rx rj.next) r' ρ' (hs.drop (j+1))∧j+1≤its.length∧L4[1]?=some (.arr 5 0 [Ro.zero.av])∧L4[2]?=some (.arr 1 (j+1) ((hs.take (j+1)).map hnAV)):=by
   rintro L4 rfl
   refine ⟨?_,ho2,by rw [hd2];exact hr1,hlt,by rw [List.getElem?_set_ne (by omega)];exact h31,?_⟩
   ·refine p2.frm hAl2 (fun i hi=>List.getElem?_set_ne ?_)
    rcases hi with rfl|⟨hc,rfl⟩|q|⟨p,hp,rfl⟩
    ·omega
    ·have:=hB.tlo hc;omega
    ·have:=hk5 i q;omega
    ·have:=hB.flo p hp;omega
   ·rw [List.getElem?_set_self (List.getElem?_eq_some_iff.1 h32).1,take_succ_get hdj,List.map_append];rfl
  obtain ⟨A2,hA2⟩:∃ A2,A2=(arSt st la b r2).ps:=⟨_,rfl⟩
  obtain ⟨A1,hA1⟩:∃ A1,A1=(arSt st la b rj).ps:=⟨_,rfl⟩
  rw [← hA1] at p1 hAl ⊢
  rw [← hA2] at p1 hAl2
  have hA12:A1.length=A2.length:=hAl.symm.trans hAl2
  rw [hAl] at hl4 p1 hinv ⊢
  cases fst
  all_goals simp only
  all_goals repeat' (first|refine is_callE rfl rfl rfl p1 ?_|refine ru_seq ?_|refine ru_reg ?_|refine is_mv rfl ?_|refine is_fadr rfl rfl ?_|refine is_ext rfl rfl ?_|refine is_nil rfl ?_|refine rk_seq ?_|refine is_nilck rfl rfl ?_|refine is_lenR rfl ?_|(refine is_gtr rfl rfl (fun _=>?_) (fun _=>?_)<;>try (exfalso;omega))|(refine is_neq rfl rfl (fun _=>?_) (fun _=>?_)<;>try (exfalso;omega))|refine ru_iteT rfl ?_|refine ru_iteF rfl ?_|refine is_bslFO rfl rfl rfl rfl ?_|refine is_ldc rfl hl4 rfl rfl ?_|refine ru_skip ?_|refine ru_block ?_)
  all_goals try contradiction
  all_goals try (exfalso;omega)
  all_goals rw [hA12]
  all_goals repeat' (first|refine is_appG rfl rfl h32 hj2 rfl rfl (hj3 _) (by decide) ?_|refine is_mv rfl ?_|refine is_nil rfl ?_|refine rk_blk ?_|refine rk_inv ?_)
  all_goals rw [hA12,hA2] at hinv
  all_goals rw [hA2]
  all_goals exact ⟨(false,j+1,r2,rset ρj it.rx rj.next,_),⟨rfl,rfl⟩,hinv _ rfl,by simp only;omega⟩
 ·obtain rfl:j=its.length:=by omega
  rw [List.drop_length,← hhl,List.drop_length] at q3
  obtain ⟨_,rfl,rfl⟩:=q3.nil_inv
  rw [← hhl,List.take_length] at q6
  have hRt:=Root_c q1 hcl.symm
  rw [hro] at hRt
  obtain ⟨A1,hA1⟩:∃ A1,A1=(arSt st la b r').ps:=⟨_,rfl⟩
  rw [← hA1] at hRt hAl ⊢
  have hl4:∃ w,Lj[4]?=some (.arr 3 0 [.agg [.ptr la (b+5) 0 0 0,td,w]])∧(td=.nils∨∃ v,td=.ref A.length tx v its.length 0):=by
   rw [hAl,hA1,St.get_cur] at t1
   refine ⟨_,(vis_noH t1).1,?_⟩
   rcases t2 with ⟨_,w⟩|⟨_,w,_⟩
   ·exact .inl w
   ·refine .inr ⟨ver,?_⟩
    rw [w,hcl,Nat.sub_self]
  obtain ⟨w4,hl4,htd⟩:=hl4
  rw [← hhl] at *
  have hl1:=(List.getElem?_eq_some_iff.1 q5).1
  rw [hAl] at hRt htd ⊢
  rcases htd with rfl|⟨v,rfl⟩
  all_goals cases fst
  all_goals simp only
  all_goals repeat' (first|refine is_callE rfl rfl rfl hRt ?_|refine ru_seq ?_|refine ru_reg ?_|refine is_mv rfl ?_|refine is_fadr rfl rfl ?_|refine is_ext rfl rfl ?_|refine is_nil rfl ?_|refine rk_seq ?_|refine is_nilck rfl rfl ?_|refine is_lenR rfl ?_|refine is_lenN rfl ?_|(refine is_gtr rfl rfl (fun _=>?_) (fun _=>?_)<;>try (exfalso;omega))|refine ru_iteF rfl ?_|refine is_ldc rfl hl4 rfl rfl ?_|refine ru_exit ?_|refine rk_seq_ex ?_|refine rk_blk_eq rfl ?_|refine rk_inv_ex ?_)
  all_goals try (exfalso;omega)
  all_goals refine is_stn q5 rfl rfl rfl rfl rfl ?_
  all_goals repeat' (first|refine ru_seq ?_|refine ru_reg ?_|refine is_mv rfl ?_|refine is_nil rfl ?_|refine rk_seq ?_|refine is_ldc rfl (List.getElem?_set_self hl1) rfl rfl ?_)
  all_goals refine is_stn (List.getElem?_set_self hl1) rfl rfl rfl rfl rfl ?_
  all_goals rw [List.set_set]
  all_goals repeat' (first|refine is_mv rfl ?_|refine is_nil rfl ?_|refine rk_seq ?_|refine ru_ret ?_|refine rk_nil ?_)
  all_goals exact end_wr (ro:=ro) hA1 (.inr rfl) rfl (List.getElem?_set_self hl1) rfl ((List.getElem?_set_ne (by omega)).trans q6) (by simp) rfl
end Go.Q15
namespace Go.QAbs
end Go.QAbs
namespace Go.QAbs
end Go.QAbs
namespace Go.QAbs
end Go.QAbs
namespace Go.QAbs
def TLe (T T':Tab):Prop:=∀ f x,T f=some x→T' f=some x
theorem callN_tab {T T':Tab} (h:TLe T T'):∀ n,Le (callN T n) (callN T' n)
 | 0=>fun _ _ _ _ q=>by simp [callN] at q
 | n+1=>fun f _ _ _ q=>bind_mono (fun x q=>h f x q) (fun x _ q=>by
  cases x with
  | pf pf=>exact callBody_mono (callN_tab h n) (itN_le (Nat.le_refl n)) q
  | base o=>exact q) q
theorem S_tab {T T':Tab} (h:TLe T T'):Le (S T) (S T'):=fun f a st r q=>by
 obtain ⟨n,hn⟩:=S_iff.1 q
 exact S_iff.2 ⟨n,callN_tab h n _ _ _ _ hn⟩
end Go.QAbs
namespace Go.QAbs
theorem pop_ps:∀ (A:List (Bool × List Blk)) (r:Bool × List Blk),pop (A++[r])=some (A,r)
 | [],r=>rfl
 | [a],r=>rfl
 | a::b::A,r=>by
  have:=pop_ps (b::A) r
  rw [List.cons_append,List.cons_append,pop]
  rw [List.cons_append] at this
  rw [this];rfl
theorem leave_ps (v:AV) (st:St) (ro:Bool) (L:List Blk):leaveK (v,⟨st.ps,ro,L⟩)=some (v,st):=by
 simp only [leaveK,pop_ps,Option.bind_some,popK]
section
variable {k:List Fr} {Q:Post} {e:Env} {st:St} {keep:List Nat} {is:List PI} {d:Nat} {T:Tab}
theorem is_callY {st':St} {f:Opd} {args:List Opd} {lv:Nat} {cs vs ws:List AV} {v:AV} (hf:opdO e f=some (.func (.yield lv) [] cs)) (ha:getsO e args=some vs) (hw:weaks (vs++cs)=ws) (hc:S T (yB+lv) ws st=some (v,st'))
 (h:Is (S T) is keep k Q ((d,v)::e) st'):Is (S T) (⟨some d,none,false,.call .norm f args⟩::is) keep k Q e st:=by
 refine is_of (od:=some d) (v:=v) (st':=st') ?_ h
 simp only [evalPI,opdO_some hf,getsO_some ha,callV,callM,hw,hc]
theorem round_of {nt:Nat} {rg:Rng} {args:List AV} {st':St} (hl:args.length=rg.ps.length+nt)
 (h:∀ A,A=st.ps→Ru (S T) rg.assign [] (fun x e s=>x=.norm∧Ru (S T) rg.body [] (fun x e s=>x=.norm∧s.A=st'.ps) e s) (setPs rg.ps args (initEnv 0 (args.drop rg.ps.length))) ⟨A,false,[]⟩):roundG (S T) itS nt rg args st=some (.bool true,st'):=by
 obtain ⟨x,e1,s1,h1,h2⟩:=(h _ rfl).h
 obtain ⟨rfl,⟨x,e2,s2,h3,h4⟩⟩:=h2
 obtain ⟨rfl,h5⟩:=h4
 unfold roundG
 rw [if_pos hl]
 have:st.push=⟨st.ps,false,[]⟩:=rfl
 rw [this,h1,Option.bind_some]
 simp only [roundK,h3,Option.bind_some,endRK]
 obtain ⟨A,ro,L⟩:=s2
 simp only at h5
 subst h5
 exact leave_ps _ _ _ _
theorem rng_of {OT:Nat→Orc} {nt:Nat} {rg:Rng} {g:FuncId} {first cap:List AV} {v:AV} {ro:Bool} {L:List Blk} {st2:St} (hg:opdO e rg.g=some (.func (.func g) first cap)) (hy:g<yB)
 (hc:OT (st.A.length+1) g (weaks (first++[.func (.yield (st.A.length+1)) [] (capsE nt e)]++cap)) ⟨st.ps,false,[]⟩=some (v,⟨st2.ps,ro,L⟩)):rngG OT nt rg e st=some (.norm,e,st2):=by
 unfold rngG
 rw [opdO_some hg]
 simp only [if_pos hy]
 have:st.push=⟨st.ps,false,[]⟩:=rfl
 rw [this,hc,Option.bind_some,rngK,leave_ps,Option.bind_some]
theorem s_rf {T0:Tab} {f:FuncId} {rf:RF} {args:List AV} {r:AV × St} (hT:T f=some (.base (rfO T0 rf)))
 (h:∀ A,A=st.ps→Ru (S T0) rf.pre [] (fun x e s=>(x=.ret∧endK false rf.res (.ret,e,s)=some r)∨(x=.norm∧∃ s2,rngG (fun lv=>S (tabY T0 lv (roundG (S T0) itS rf.nt rf.rng))) rf.nt rf.rng e s=some (.norm,e,s2)∧Ru (S T0) rf.post [] (fun x e s=>endK false rf.res (x,e,s)=some r) e s2)) (initEnv 0 args) ⟨A,false,[]⟩):S T f args st=some r:=by
 refine S_base (o:=rfO T0 rf) hT ?_
 obtain ⟨x,e1,s1,h1,h2⟩:=(h _ rfl).h
 unfold rfO rfG execR
 have:st.push=⟨st.ps,false,[]⟩:=rfl
 rw [this,h1,Option.bind_some]
 rcases h2 with ⟨rfl,h3⟩|⟨rfl,s2,h3,⟨x,e3,s3,h5,h6⟩⟩
 ·simp only [seqK,Option.bind_some];exact h3
 ·simp only [seqK,h3,Option.bind_some,h5];exact h6
end
theorem tabY_le {T:Tab} (hT:∀ f x,T f=some x→f<yB) (lv:Nat) (o:List AV→St→Option (AV × St)):TLe T (tabY T lv o):=fun f x hx=>by
 unfold tabY
 rw [if_neg]
 ·exact hx
 ·intro q;exact yB_abs (hT f x hx) q
theorem tabY_at (T:Tab) (lv:Nat) (o:List AV→St→Option (AV × St)) (args:List AV) (st:St) {r:AV × St} (h:o args st=some r):S (tabY T lv o) (yB+lv) args st=some r :=
 S_base (o:=o) (by unfold tabY;rw [if_pos rfl]) h
end Go.QAbs
namespace Go.Q15
open Go Go.QAbs
set_option maxRecDepth 100000
set_option maxHeartbeats 8000000
def ndAt (N:Nodes) (o:Nat):Nd:=(lk N o).getD ⟨0,[],none⟩
theorem ndAt_of {N:Nodes} {o:Nat} {x:Nd} (h:lk N o=some x):ndAt N o=x:=by unfold ndAt;rw [h];rfl
def preH (N:Nodes):Nat→Nat→List Nat
 | 0,o=>[o]
 | n+1,o=>o::(ndAt N o).ks.flatMap fun k=>preH N n k.at_
def visV (x:Nd):AV:=.agg [.int .i64 x.h,.str x.text,.lit (x.ks.map Kid.av),.int .i64 0]
theorem get_more {s:St} {l i:Nat} {b:Blk} (h:s.get l i=some b) (more:List (Bool × List Blk)) (ro:Bool) (L:List Blk):St.get ⟨s.ps++more,ro,L⟩ l i=some b:=by
 have hl:=St.get_le h
 have h1:=get_old (A:=s.ps) rfl (ro:=ro) (L:=L) h
 unfold St.get at h1 ⊢
 have e1:l≠s.ps.length:=by simp;omega
 have e2:l≠(s.ps++more).length:=by simp;omega
 simp only [if_neg e1,if_neg e2] at h1 ⊢
 rw [List.getElem?_append_left (by simp;omega)]
 exact h1
theorem Rd.more {s:St} {lv ix:Nat} {N:Nodes} (h:Rd s lv ix N) (more:List (Bool × List Blk)) (ro:Bool) (L:List Blk):Rd ⟨s.ps++more,ro,L⟩ lv ix N:=by
 obtain ⟨a0,a1,im,a3,a4,a5,h1,h2⟩:=h
 exact ⟨a0,a1,im,a3,a4,a5,get_more h1 _ _ _,get_more h2 _ _ _⟩
theorem preH_eq {N:Nodes} {h:Nat} {x:Nd} (hx:lk N h=some x) (hok:NdOk x) {n:Nat} (hh:x.h=n):preH N n h=h::x.ks.flatMap fun k=>preH N (n-1) k.at_:=by
 cases n with
 | zero =>
  have:x.ks=[]:=by
   rcases hok with q|⟨m,ks,q⟩
   ·exact q.ks
   ·have:=congrArg Nd.h q.eq;simp only at this;omega
  rw [this];rfl
 | succ n=>rw [preH,ndAt_of hx];rfl
theorem preH_len {N:Nodes} (hN:GoodN N):∀ (n h:Nat) (x:Nd),lk N h=some x→x.h=n→3*(preH N n h).length+1≤4 ^ (n+1):=by
 intro n
 induction n with
 | zero=>intro h x hx hh;simp [preH]
 | succ n ih =>
  intro h x hx hh
  obtain ⟨hok,hk⟩:=hN h x hx
  rw [preH,ndAt_of hx,List.length_cons]
  have h6:4 ^ (n+1+1)=4*4 ^ (n+1):=by rw [Nat.pow_succ,Nat.mul_comm]
  rw [h6]
  clear h6
  have hP1:1≤4 ^ (n+1):=Nat.pow_pos (by decide)
  generalize 4 ^ (n+1)=P at *
  have key:∀ l:List Kid,(∀ k∈l,k∈x.ks)→3*(l.flatMap fun k=>preH N n k.at_).length+l.length≤l.length*P:=by
   intro l
   induction l with
   | nil=>intro _;simp
   | cons k l ih2 =>
    intro hm
    obtain ⟨_,y,y1,y2,_⟩:=hk k (hm k (by simp))
    have h1:=ih k.at_ y y1 (by omega)
    have h2:=ih2 fun q hq=>hm q (by simp [hq])
    rw [List.flatMap_cons,List.length_append,List.length_cons,Nat.add_mul,Nat.one_mul]
    omega
  have h1:=key x.ks fun _ h=>h
  have h4:=hok.len
  have h5:x.ks.length*P≤4*P:=Nat.mul_le_mul_right _ h4
  rcases hok with q|⟨m,ks,q⟩
  ·have:=q.h;omega
  ·have e:=q.eq
   have h7:=q.lo
   subst e
   simp only [Nd.ks,Option.getD_some] at h1 h4 h5 ⊢
   have h8:(4-ks.length)*1≤(4-ks.length)*P:=Nat.mul_le_mul_left _ hP1
   have h9:ks.length*P+(4-ks.length)*P=4*P:=by rw [← Nat.add_mul];congr 1;omega
   omega
structure NW (σ:List Nat→St) (lv:Nat) (caps:List AV) (la b:Nat) (more:List (Bool × List Blk)) (ro:Bool) (L:List Blk) (l1 i1 l2 i2 l3 i3:Nat):Prop where
 a:∀ v,St.get ⟨(σ v).ps++more,ro,L⟩ l1 i1=some (.arr 1 0 [.ptr la (b+5) 0 0 0])
 y:∀ v,St.get ⟨(σ v).ps++more,ro,L⟩ l2 i2=some (.arr 1 0 [.func (.yield lv) [] caps])
 w:∀ v,St.get ⟨(σ v).ps++more,ro,L⟩ l3 i3=some (.arr 1 0 [.func (.func F_rope_nodesC1C1) [] [.ptr l1 i1 0 0 0,.ptr l2 i2 0 0 0,.ptr l3 i3 0 0 0]])
theorem NW.push {σ:List Nat→St} {lv:Nat} {caps:List AV} {la b:Nat} {more:List (Bool × List Blk)} {ro:Bool} {L:List Blk} {l1 i1 l2 i2 l3 i3:Nat} (h:NW σ lv caps la b more ro L l1 i1 l2 i2 l3 i3) (L':List Blk):NW σ lv caps la b (more++[(ro,L)]) false L' l1 i1 l2 i2 l3 i3 :=
 ⟨fun v=>get_old (st:=⟨(σ v).ps++more,ro,L⟩) (by rw [← List.append_assoc]) (h.a v),fun v=>get_old (st:=⟨(σ v).ps++more,ro,L⟩) (by rw [← List.append_assoc]) (h.y v),fun v=>get_old (st:=⟨(σ v).ps++more,ro,L⟩) (by rw [← List.append_assoc]) (h.w v)⟩
theorem nodesW {TY:Tab} (hT:TLe Tb TY) {σ:List Nat→St} {N:Nodes} (hN:GoodN N) {la b lv:Nat} {caps:List AV} (hcw:weaks caps=caps) (hRd:∀ v,Rd (σ v) la (b+5) N) (hlen:∀ v,(σ v).A.length=(σ []).A.length)
 {B:Nat} (hy:∀ v h x more ro L,v.length<B→lk N h=some x→S TY (yB+lv) (.int .u64 (h:Nat)::visV x::caps) ⟨(σ v).ps++more,ro,L⟩=some (.bool true,⟨(σ (v++[h])).ps++more,ro,L⟩)) :
 ∀ n h x,lk N h=some x→x.h=n→∀ v more ro L l1 i1 l2 i2 l3 i3,v.length+(preH N n h).length≤B→NW σ lv caps la b more ro L l1 i1 l2 i2 l3 i3 →
  S TY F_rope_nodesC1C1 [.int .u64 (h:Nat),.ptr l1 i1 0 0 0,.ptr l2 i2 0 0 0,.ptr l3 i3 0 0 0] ⟨(σ v).ps++more,ro,L⟩=some (.bool true,⟨(σ (v++preH N n h)).ps++more,ro,L⟩):=by
 intro n
 induction n using Nat.strongRecOn with
 | ind n ih =>
  intro h x hx hh v more ro L l1 i1 l2 i2 l3 i3 hB hw
  have hok:=(hN h x hx).1
  rw [preH_eq hx hok hh,List.length_cons] at hB
  have hkids:=(hN h x hx).2
  have hk4:=hok.len
  refine s_ofW (hT _ _ rfl) (fun A hA=>?_)
  have hA2:A=(σ v).ps++(more++[(ro,L)]):=by rw [hA,List.append_assoc]
  clear hA
  subst hA2
  have hw2:=fun L'=>hw.push L'
  have hG:∀ v' L',S TY F_arena_Arena_Get [.ptr la (b+5) 0 0 0,.int .u64 h] ⟨(σ v').ps++(more++[(ro,L)]),false,L'⟩=some (.tup [.agg [.int .i64 x.h,.str x.text,.lit (x.ks.map Kid.av)],.int .i64 0],⟨(σ v').ps++(more++[(ro,L)]),false,L'⟩):=fun v' L'=>S_tab hT _ _ _ _ (Get_c ((hRd v').more _ _ _) hx hk4)
  have hY:=fun L'=>hy v h x (more++[(ro,L)]) false L' (by omega) hx
  unfold visV at hY
  have hwk:weaks ([AV.int .u64 h,.agg [.int .i64 x.h,.str x.text,.lit (x.ks.map Kid.av),.int .i64 0]]++caps)=.int .u64 h::.agg [.int .i64 x.h,.str x.text,.lit (x.ks.map Kid.av),.int .i64 0]::caps:=by
   simp only [List.cons_append,List.nil_append,weaks,weak,hcw]
  repeat' (first|refine is_callY rfl rfl hwk (hY _) ?_|refine ru_seq ?_|refine ru_reg ?_|refine is_mv rfl ?_|refine is_fadr rfl rfl ?_|refine is_ldc rfl rfl rfl rfl ?_|refine is_gT rfl ?_|refine is_pick rfl rfl rfl rfl ?_|refine is_ext rfl rfl ?_|refine is_nil rfl ?_|refine rk_seq ?_|(refine is_neq rfl rfl (fun _=>?_) (fun _=>?_)<;>try (exfalso;omega))|refine ru_iteF rfl ?_|refine is_not rfl rfl ?_|refine is_buildO rfl rfl rfl ?_|refine is_box rfl rfl rfl ?_|refine is_stb rfl rfl rfl rfl rfl rfl ?_|refine is_ld rfl ((hw2 _).a v) rfl rfl ?_|refine is_ld rfl ((hw2 _).y v) rfl rfl ?_|refine is_callE rfl rfl rfl (hG _ _) ?_|refine ru_skip ?_)
  all_goals try contradiction
  have hl2:∀ v v',((σ v).ps++(more++[(ro,L)])).length=((σ v').ps++(more++[(ro,L)])).length:=fun v v'=>by
   simp only [List.length_append];rw [hlen v,hlen v'];rfl
  rw [hl2 v (v++[h])]
  rw [preH_eq hx hok hh]
  repeat' (first|refine is_mv rfl ?_|refine is_ldc rfl rfl rfl rfl ?_|refine is_nil rfl ?_|refine rk_seq ?_|refine is_lenM rfl ?_|refine ru_block ?_)
  refine ru_loopP (α:=Nat × List Blk) (fun p=>[(3,.ptr l3 i3 0 0 0),(28,.lit (x.ks.map Kid.av)),(29,.int .i64 x.ks.length),(30,.int .i64 p.1)])
   (fun p=>⟨(σ (v++h::(x.ks.take p.1).flatMap fun k=>preH N (n-1) k.at_)).ps++(more++[(ro,L)]),false,.arr 3 0 [.agg [.int .i64 x.h,.str x.text,.lit (x.ks.map Kid.av)]]::p.2⟩) (fun p=>p.1≤x.ks.length) (fun p=>x.ks.length-p.1) (0,[]) rfl rfl (Nat.zero_le _) ?_
  rintro ⟨i,G⟩ hi
  simp only at hi ⊢
  rcases Nat.lt_or_ge i x.ks.length with hlt|hge
  ·obtain ⟨kd,hk'⟩:∃ k,x.ks[i]?=some k:=⟨x.ks[i]'(by omega),by simp [hlt]⟩
   obtain ⟨_,y,y1,y2,y3⟩:=hkids kd (List.mem_of_getElem? hk')
   have hk1:0≤((i:Nat):Int)∧x.ks[((i:Nat):Int).toNat]?=some kd:=⟨by omega,by rw [show ((i:Nat):Int).toNat=i by omega];exact hk'⟩
   have ihk:=fun v' L' hb=>ih y.h (by omega) kd.at_ y y1 rfl v' _ _ L' l1 i1 l2 i2 l3 i3 hb (hw2 L')
   have hfin:(v++h::(x.ks.take i).flatMap fun k=>preH N (n-1) k.at_)++preH N y.h kd.at_=v++h::(x.ks.take (i+1)).flatMap fun k=>preH N (n-1) k.at_:=by
    rw [take_succ_get hk',List.flatMap_append,List.append_assoc,show n-1=y.h by omega]
    simp
   obtain ⟨v1,hv1⟩:∃ v1,v1=v++h::(x.ks.take i).flatMap fun k=>preH N (n-1) k.at_:=⟨_,rfl⟩
   rw [← hv1] at hfin ⊢
   have hb1:v1.length+(preH N y.h kd.at_).length≤B:=by
    rw [← List.length_append,hfin,List.length_append,List.length_cons]
    have h1:(x.ks.flatMap fun k=>preH N (n-1) k.at_)=(x.ks.take (i+1)).flatMap (fun k=>preH N (n-1) k.at_)++(x.ks.drop (i+1)).flatMap (fun k=>preH N (n-1) k.at_):=by
     rw [← List.flatMap_append,List.take_append_drop]
    have h2:=congrArg List.length h1
    rw [List.length_append] at h2
    omega
   repeat' (first|refine is_ixKn rfl rfl hk1 (fun _=>rfl) ?_|refine is_callE rfl rfl rfl (ihk v1 _ hb1) ?_|refine ru_seq ?_|refine ru_reg ?_|refine is_mv rfl ?_|refine is_fadr rfl rfl ?_|refine is_nil rfl ?_|refine rk_seq ?_|refine is_ldT rfl rfl rfl ?_|refine is_ldl rfl rfl ?_|(refine is_lss rfl rfl (fun _=>?_) (fun _=>?_)<;>try (exfalso;omega))|refine ru_iteT rfl ?_|refine ru_iteF rfl ?_|refine is_not rfl rfl ?_|refine is_addS rfl rfl (by omega) ?_|refine is_boxG rfl rfl rfl ?_|refine is_stT rfl rfl rfl rfl rfl rfl ?_|refine is_ld rfl ((hw2 _).w v1) rfl rfl ?_|refine ru_skip ?_|refine ru_block ?_|refine rk_blk ?_|refine rk_inv ?_)
   refine ⟨(i+1,G++[Blk.arr 4 0 [kd.av]]),⟨rfl,?_⟩,by simp only;omega,by simp only;omega⟩
   rw [hfin]
   rfl
  ·obtain rfl:i=x.ks.length:=by omega
   rw [List.take_length]
   repeat' (first|refine ru_seq ?_|refine ru_reg ?_|refine is_mv rfl ?_|refine is_nil rfl ?_|refine rk_seq ?_|(refine is_lss rfl rfl (fun _=>?_) (fun _=>?_)<;>try (exfalso;omega))|refine ru_iteF rfl ?_|refine ru_ret ?_|refine ru_exit ?_|refine rk_nil ?_|refine rk_seq_ex ?_|refine rk_blk_eq rfl ?_|refine rk_inv_ex ?_)
   all_goals try (exfalso;omega)
   refine end_st (st:=⟨(σ _).ps++more,ro,L⟩) (by rw [← List.append_assoc]) (.inr rfl) rfl rfl rfl rfl ?_
   rfl
end Go.Q15
namespace Go.Q15
open Go Go.QAbs
set_option maxRecDepth 100000
set_option maxHeartbeats 8000000
theorem lookT_small:∀ {l:List (FuncId × Ent)},(l.all fun p=>decide (p.1<yB))=true→∀ f x,lookT l f=some x→f<yB
 | [],_,f,x,h=>by simp [lookT] at h
 | p::l,ha,f,x,h=>by
  simp only [List.all_cons,Bool.and_eq_true,decide_eq_true_eq] at ha
  simp only [lookT] at h
  split at h
  ·rename_i e;rw [← e];exact ha.1
  ·exact lookT_small ha.2 f x h
theorem Tb_small:∀ f x,Tb f=some x→f<yB:=lookT_small (l:=tl) (by decide +kernel)
def RtOk (N:Nodes) (r:Ro):Prop:=r=.zero∨(r.at_≠0∧∃ x,lk N r.at_=some x∧NdOk x∧x.h=r.h∧x.mea=r.m)
def nodesR (N:Nodes) (r:Ro):List Nat:=if r.at_=0 then [] else preH N r.h r.at_
theorem RtOk.h13 {N:Nodes} (hN:GoodN N) {r:Ro} (hr:RtOk N r):r.h≤13:=by
 rcases hr with rfl|⟨h0,x,h1,h2,h3,h4⟩
 ·decide
 ·have hv:Val N (.keep r):=.kept h0 h1 h2 h3 h4 rfl
  have hb:(Tr.keep r).bytes=r.m.b:=by simp [Tr.keep,Tr.bytes,Tr.bytesO]
  have:=h2.mea_pos
  exact hv.height hN (by rw [hb,← h4];omega)
theorem nodesR_len {N:Nodes} (hN:GoodN N) {r:Ro} (hr:RtOk N r):(nodesR N r).length<100000000:=by
 have h13:=hr.h13 hN
 unfold nodesR
 split
 ·simp
 ·rename_i q
  rcases hr with rfl|⟨h0,x,h1,h2,h3,h4⟩
  ·exact absurd rfl q
  ·have:=preH_len hN r.h r.at_ x h1 h3
   have h5:4 ^ (r.h+1)≤4 ^ 14:=Nat.pow_le_pow_right (by decide) (by omega)
   have h6:(4:Nat) ^ 14=268435456:=by decide
   omega
def keepT (r:Ro):Tr:=if r.at_=0 then .zero else .keep r
theorem Keep_rt {st:St} {lv ix:Nat} {N:Nodes} (hr:Rd st lv ix N) {r:Ro} (h:RtOk N r):S Tb F_plan_Keep [.ptr lv ix 0 0 0,r.av] st=some (.tup [(keepT r).av,.int .i64 0],st):=by
 unfold keepT
 rcases h with rfl|⟨h0,x,h1,h2,h3,h4⟩
 ·rw [if_pos (by rfl)];exact Keep_zero
 ·rw [if_neg h0];exact Keep_c hr h1 h2 h0 h3 h4
theorem nodes_c {A:List (Bool × List Blk)} {L:List Blk} {la b:Nat} {r:Ro}:S Tb F_rope_nodes [.ptr la (b+5) 0 0 0,r.av] ⟨A,false,L⟩=some (.func (.func F_rope_nodesC1) [] [.ptr A.length L.length 0 0 0,.ptr A.length (L.length+1) 0 0 0],⟨A,false,L++[.arr 1 0 [.ptr la (b+5) 0 0 0],.arr 5 0 [r.av]]⟩):=by
 refine s_keep rfl ?_
 have e0:(⟨A,false,L⟩:St)=⟨A,false,L++[]⟩:=by rw [List.append_nil]
 rw [e0]
 unfold Ro.av
 repeat' (first|refine is_boxA rfl rfl rfl rfl rfl ?_|refine ru_seq ?_|refine ru_reg ?_|refine is_mv rfl ?_|refine is_nil rfl ?_|refine rk_seq ?_|refine is_mkf rfl rfl ?_|refine ru_ret ?_|refine rk_nil ?_)
 refine (end_keep (.inr rfl) rfl rfl rfl rfl).trans ?_
 rfl
theorem seal_fnW {b a1 a2 a3 x1 x2 x3:Nat} {f:FuncId} (st:St) (h1:a1<b) (h2:a2<b) (h3:a3<b):sealV deep b st (.func (.func f) [] [.ptr a1 x1 0 0 0,.ptr a2 x2 0 0 0,.ptr a3 x3 0 0 0])=some (.func (.func f) [] [.ptr a1 x1 0 0 0,.ptr a2 x2 0 0 0,.ptr a3 x3 0 0 0],st):=by
 simp only [sealV,deep,ylOk,if_true,mapSt,Option.bind_some,if_pos h1,if_pos h2,if_pos h3,consK]
theorem seq_c {TY:Tab} (hT:TLe Tb TY) {σ:List Nat→St} {N:Nodes} (hN:GoodN N) {la b lv:Nat} {caps:List AV} (hcw:weaks caps=caps) (hRd:∀ v,Rd (σ v) la (b+5) N) (hlen:∀ v,(σ v).A.length=(σ []).A.length)
 {B:Nat} (hy:∀ v h x more ro L,v.length<B→lk N h=some x→S TY (yB+lv) (.int .u64 (h:Nat)::visV x::caps) ⟨(σ v).ps++more,ro,L⟩=some (.bool true,⟨(σ (v++[h])).ps++more,ro,L⟩))
 {r:Ro} (hr:RtOk N r) (hB:(nodesR N r).length≤B) {l1 i1 l4 i4:Nat} (ha:∀ v,(σ v).get l1 i1=some (.arr 1 0 [.ptr la (b+5) 0 0 0])) (hro:∀ v,(σ v).get l4 i4=some (.arr 5 0 [r.av])) :
 S TY F_rope_nodesC1 [.func (.yield lv) [] caps,.ptr l1 i1 0 0 0,.ptr l4 i4 0 0 0] ⟨(σ []).ps,false,[]⟩=some (.tup [],⟨(σ (nodesR N r)).ps,false,[]⟩):=by
 refine s_ofW (hT _ _ rfl) (fun A hA=>?_)
 have hA0:A=(σ []).ps++[(false,[])]:=hA
 have g4:∀ L,St.get ⟨A,false,L⟩ l4 i4=some (.arr 5 0 [r.av]):=fun L=>by rw [hA0];exact get_more (hro []) _ _ _
 have l1l:l1<A.length+1:=by have:=St.get_le (ha []);rw [hA0];simp;omega
 unfold Ro.av at g4
 have hNW:∀ yv wv,yv=Blk.arr 1 0 [.func (.yield lv) [] caps]→wv=Blk.arr 1 0 [.func (.func F_rope_nodesC1C1) [] [.ptr l1 i1 0 0 0,.ptr A.length 0 0 0 0,.ptr A.length 1 0 0 0]]→NW σ lv caps la b [(false,[])] false [yv,wv] l1 i1 A.length 0 A.length 1:=by
  rintro yv wv rfl rfl
  have hl:∀ v,A.length=((σ v).ps++[(false,([]:List Blk))]).length:=fun v=>by rw [hA0];simp [hlen v]
  refine ⟨fun v=>get_more (ha v) _ _ _,fun v=>?_,fun v=>?_⟩
  ·rw [hl v,St.get_cur];rfl
  ·rw [hl v,St.get_cur];rfl
 by_cases h0:r.at_=0
 ·have e:nodesR N r=[]:=by unfold nodesR;rw [if_pos h0]
  rw [e]
  repeat' (first|refine ru_seq ?_|refine ru_reg ?_|refine is_fadr rfl rfl ?_|refine is_nil rfl ?_|refine rk_seq ?_|(refine is_neq rfl rfl (fun _=>?_) (fun _=>?_)<;>try (exfalso;omega))|refine ru_iteF rfl ?_|refine is_mkf rfl rfl ?_|refine is_box rfl rfl rfl ?_|refine is_stb rfl rfl rfl (seal_fnW _ l1l (Nat.lt_succ_self _) (Nat.lt_succ_self _)) rfl rfl ?_|refine is_ld rfl (g4 _) rfl rfl ?_|refine ru_skip ?_|refine rk_nil ?_)
  all_goals try (exfalso;omega)
  refine end_st hA (.inl rfl) rfl rfl rfl rfl ?_
  rfl
 ·have e:nodesR N r=preH N r.h r.at_:=by unfold nodesR;rw [if_neg h0]
  rw [e] at hB ⊢
  obtain ⟨x,h1,h2,h3,h4⟩:∃ x,lk N r.at_=some x∧NdOk x∧x.h=r.h∧x.mea=r.m:=by
   rcases hr with rfl|q
   ·exact absurd rfl h0
   ·exact q.2
  have hW:=nodesW hT hN hcw hRd hlen hy r.h r.at_ x h1 h3 [] [(false,[])] false _ l1 i1 A.length 0 A.length 1 (by simpa using hB) (hNW _ _ rfl rfl)
  rw [← hA0,List.nil_append] at hW
  repeat' (first|refine is_callE rfl rfl rfl hW ?_|refine ru_seq ?_|refine ru_reg ?_|refine is_fadr rfl rfl ?_|refine is_ldc rfl rfl rfl rfl ?_|refine is_nil rfl ?_|refine rk_seq ?_|(refine is_neq rfl rfl (fun _=>?_) (fun _=>?_)<;>try (exfalso;omega))|refine ru_iteT rfl ?_|refine is_mkf rfl rfl ?_|refine is_box rfl rfl rfl ?_|refine is_stb rfl rfl rfl (seal_fnW _ l1l (Nat.lt_succ_self _) (Nat.lt_succ_self _)) rfl rfl ?_|refine is_ld rfl (g4 _) rfl rfl ?_|refine rk_nil ?_)
  all_goals try (exfalso;omega)
  refine end_st (st:=⟨(σ _).ps,false,[]⟩) rfl (.inl rfl) rfl rfl rfl rfl ?_
  rfl
noncomputable def t1:List (FuncId × Ent):=(F_rope_Check,.base (rfO Tb p_rope_Check))::tl
noncomputable def T1:Tab:=lookT t1
theorem le1:TLe Tb T1:=fun g y hg=>by
 unfold T1 t1
 simp only [lookT]
 rw [if_neg]
 ·exact hg
 ·intro e;subst e
  have:lookT tl F_rope_Check=none:=by decide +kernel
  unfold Tb at hg
  rw [this] at hg;simp at hg
theorem Check_c {st:St} {la b:Nat} {N:Nodes} (hN:GoodN N) (hR:Rd st la (b+5) N) {r:Ro} (hr:RtOk N r):S T1 F_rope_Check [.ptr la (b+5) 0 0 0,r.av] st=some (.int .i64 0,st):=by
 refine s_rf (rf:=p_rope_Check) rfl (fun A hA=>?_)
 have hK:=fun L=>Keep_rt (hR.push hA (ro:=false) (L:=L)) hr
 have hNd:=fun L=>nodes_c (A:=A) (L:=L) (la:=la) (b:=b) (r:=r)
 obtain ⟨LF,hLF⟩:∃ LF:List Blk,LF=[.arr 5 0 [r.av],.arr 7 0 [(keepT r).av],.arr 1 0 [.int .i64 0],.arr 1 0 [.ptr la (b+5) 0 0 0],.arr 5 0 [r.av]]:=⟨_,rfl⟩
 have hseq:=fun (caps:List AV) (hcw:weaks caps=caps) (o:List AV→St→Option (AV × St)) hy=>seq_c (TY:=tabY Tb (A.length+1) o) (tabY_le Tb_small _ _) (σ:=fun _=>⟨A,false,LF⟩) hN (lv:=A.length+1) (caps:=caps) hcw (fun _=>hR.push hA) (fun _=>rfl) (B:=(nodesR N r).length) hy hr (Nat.le_refl _) (l1:=A.length) (i1:=3) (l4:=A.length) (i4:=4) (fun _=>by rw [St.get_cur,hLF];rfl) (fun _=>by rw [St.get_cur,hLF];rfl)
 unfold Ro.av at *
 repeat' (first|refine ru_seq ?_|refine ru_reg ?_|refine is_mv rfl ?_|refine is_ldc rfl rfl rfl rfl ?_|refine is_ext rfl rfl ?_|refine is_nil rfl ?_|refine rk_seq ?_|(refine is_neq rfl rfl (fun _=>?_) (fun _=>?_)<;>try (exfalso;omega))|refine ru_iteF rfl ?_|refine is_box rfl rfl rfl ?_|refine is_stb rfl rfl rfl rfl rfl rfl ?_|refine is_stb rfl rfl rfl (tr_seal _ _ _) (tr_put _ _) rfl ?_|refine is_callE rfl rfl (by first|rfl|(simp only [List.nil_append,List.append_nil,List.cons_append,weaks,tr_weak,forceL];first|done|rfl)) (hK _) ?_|refine is_callE rfl rfl (by first|rfl|(simp only [List.nil_append,List.append_nil,List.cons_append,weaks,tr_weak,forceL];first|done|rfl)) (hNd _) ?_|refine ru_skip ?_|refine rk_nil ?_)
 all_goals try contradiction
 have hS:=hseq (capsE 30 [(7,.ptr A.length 2 0 0 0),(21,.func (.func F_rope_nodesC1) [] [.ptr A.length 3 0 0 0,.ptr A.length 4 0 0 0]),(23,.any)]) rfl (roundG (S Tb) itS p_rope_Check.nt p_rope_Check.rng) (fun v h x more ro L _ hx=>tabY_at _ _ _ _ _ (round_of rfl (fun A' hA'=>by
  unfold visV
  repeat' (first|refine ru_reg ?_|refine is_nil rfl ?_|refine is_box rfl rfl rfl ?_|refine is_stb rfl rfl rfl rfl rfl rfl ?_|refine rk_nil ?_)
  all_goals try (exfalso;omega)
  refine ⟨rfl,?_⟩
  repeat' (first|refine ru_seq ?_|refine ru_reg ?_|refine is_fadr rfl rfl ?_|refine is_ldc rfl rfl rfl rfl ?_|refine is_nil rfl ?_|refine rk_seq ?_|(refine is_neq rfl rfl (fun _=>?_) (fun _=>?_)<;>try (exfalso;omega))|refine ru_iteF rfl ?_|refine ru_skip ?_|refine ru_block ?_|refine rk_nil ?_|refine rk_blk ?_)
  all_goals try contradiction
  exact ⟨rfl,hA'⟩)))
 rw [hLF] at hS
 refine .inr ⟨rfl,_,rng_of (g:=F_rope_nodesC1) rfl (by decide) hS,?_⟩
 repeat' (first|refine ru_seq ?_|refine ru_reg ?_|refine is_mv rfl ?_|refine is_ldc rfl rfl rfl rfl ?_|refine is_nil rfl ?_|refine rk_seq ?_|refine ru_skip ?_|refine ru_ret ?_|refine rk_nil ?_)
 refine end_st hA (by first|exact .inl rfl|exact .inr rfl) rfl rfl rfl rfl ?_
 rfl
end Go.Q15
namespace Go.QAbs
theorem get_moreG {s:St} {l i:Nat} {b:Blk} (h:s.get l i=some b) (more:List (Bool × List Blk)) (ro:Bool) (L:List Blk):St.get ⟨s.ps++more,ro,L⟩ l i=some b:=by
 have hl:=St.get_le h
 have h1:=get_old (A:=s.ps) rfl (ro:=ro) (L:=L) h
 unfold St.get at h1 ⊢
 have e1:l≠s.ps.length:=by simp;omega
 have e2:l≠(s.ps++more).length:=by simp;omega
 simp only [if_neg e1,if_neg e2] at h1 ⊢
 rw [List.getElem?_append_left (by simp;omega)]
 exact h1
theorem wr_more {s:St} {lv:Nat} (hl:lv≤s.A.length) (h:s.wr lv) (more:List (Bool × List Blk)) (ro:Bool) (L:List Blk):St.wr ⟨s.ps++more,ro,L⟩ lv:=by
 have h1:=wr_push (A:=s.ps) rfl hl h (ro:=ro) (L:=L)
 unfold St.wr at h1 ⊢
 have e1:lv≠s.ps.length:=by simp;omega
 have e2:lv≠(s.ps++more).length:=by simp;omega
 simp only [if_neg e1,if_neg e2] at h1 ⊢
 rw [List.getElem?_append_left (by simp;omega)]
 exact h1
theorem upd_more {s:St} {lv ix:Nat} {b:Blk} (hl:lv≤s.A.length) (more:List (Bool × List Blk)) (ro:Bool) (L:List Blk):St.upd ⟨s.ps++more,ro,L⟩ lv ix b=⟨(s.upd lv ix b).ps++more,ro,L⟩:=by
 have h1:=upd_push (A:=s.ps) (ro:=ro) (L:=L) rfl hl (ix:=ix) (b:=b)
 unfold St.upd at h1 ⊢
 have e1:lv≠s.ps.length:=by simp;omega
 have e2:lv≠(s.ps++more).length:=by simp;omega
 simp only [if_neg e1,if_neg e2] at h1 ⊢
 simp only [St.mk.injEq,and_true] at h1 ⊢
 rw [List.getElem?_append_left (by simp;omega),List.set_append_left _ _ (by simp;omega),h1]
theorem putC_more:∀ {ks:List (Nat × Nat)} {s:St} {bs:List Blk} {more:List (Bool × List Blk)} {ro:Bool} {L:List Blk},(∀ k∈ks,k.1≤s.A.length)→putC ⟨s.ps++more,ro,L⟩ ks bs=⟨(putC s ks bs).ps++more,ro,L⟩
 | [],_,bs,_,_,_,_=>by cases bs<;>rfl
 | _::_,_,[],_,_,_,_=>rfl
 | k::ks,s,b::bs,more,ro,L,hk=>by
  rw [putC,upd_more (hk k (by simp)),putC_more (s:=s.upd k.1 k.2 b) (fun q hq=>by rw [St.upd_A];exact hk q (by simp [hq]))]
  rfl
theorem Cl.more {s:St} {ks:List (Nat × Nat)} {bs:List Blk} (h:Cl s ks bs) (more:List (Bool × List Blk)) (ro:Bool) (L:List Blk):Cl ⟨s.ps++more,ro,L⟩ ks bs :=
 ⟨h.nd,h.len,fun k hk=>wr_more (h.le k hk) (h.wr k hk) _ _ _,fun j lv ix b h1 h2=>get_moreG (h.get j lv ix b h1 h2) _ _ _⟩
end Go.QAbs
namespace Go.Q15
open Go Go.QAbs
set_option maxRecDepth 100000
set_option maxHeartbeats 8000000
theorem T1_small:∀ f x,T1 f=some x→f<yB:=lookT_small (l:=t1) (by decide +kernel)
noncomputable def t3:List (FuncId × Ent):=(F_rope_Leaves,.base (rfO T1 p_rope_Leaves))::(F_rope_Nodes,.base (rfO T1 p_rope_Nodes))::t1
noncomputable def T3:Tab:=lookT t3
theorem lookT_cons {l:List (FuncId × Ent)} {f:FuncId} {x:Ent} (h:lookT l f=none):TLe (lookT l) (lookT ((f,x)::l)):=fun g y hg=>by
 simp only [lookT]
 rw [if_neg]
 ·exact hg
 ·intro e;subst e;rw [h] at hg;simp at hg
theorem le13:TLe T1 T3:=fun g y hg=>lookT_cons (l:=(F_rope_Nodes,.base (rfO T1 p_rope_Nodes))::t1) (by decide +kernel) g y (lookT_cons (l:=t1) (by decide +kernel) g y hg)
theorem le3:TLe Tb T3:=fun g y hg=>le13 g y (le1 g y hg)
theorem up3 {f:FuncId} {args:List AV} {st:St} {r:AV × St} (h:S Tb f args st=some r):S T3 f args st=some r:=S_tab le3 _ _ _ _ h
theorem up1 {f:FuncId} {args:List AV} {st:St} {r:AV × St} (h:S Tb f args st=some r):S T1 f args st=some r:=S_tab le1 _ _ _ _ h
def leavesOf (N:Nodes) (v:List Nat):List (List UInt8):=v.filterMap fun h=>if (ndAt N h).h=0 then some (ndAt N h).text else none
theorem leavesOf_snoc (N:Nodes) (v:List Nat) (h:Nat):leavesOf N (v++[h])=leavesOf N v++if (ndAt N h).h=0 then [(ndAt N h).text] else []:=by
 unfold leavesOf
 rw [List.filterMap_append]
 by_cases q:(ndAt N h).h=0<;>simp [q]
theorem strs_seal (n b:Nat) (st:St) (l:List (List UInt8)):mapSt (sealV (n+1) b) st (l.map AV.str)=some (l.map AV.str,st):=by
 induction l with
 | nil=>rfl
 | cons x s ih =>
  rw [List.map_cons,mapSt]
  show ((some (AV.str x,st)).bind fun r=>(mapSt (sealV (n+1) b) r.2 (s.map AV.str)).bind (consK r.1))=_
  rw [Option.bind_some,ih];rfl
def lvL (A:List (Bool × List Blk)) (la b:Nat) (r:Ro) (es:List AV):List Blk:=[.arr 5 0 [r.av],.arr 1 es.length es,.arr 1 0 [.ref A.length 1 es.length 0 es.length],.arr 1 0 [.ptr la (b+5) 0 0 0],.arr 5 0 [r.av]]
def lvF (A:List (Bool × List Blk)) (N:Nodes) (la b:Nat) (r:Ro) (v:List Nat):St:=⟨A,false,lvL A la b r ((leavesOf N v).map .str)⟩
theorem lv_cl (A:List (Bool × List Blk)) (la b:Nat) (r:Ro) (es:List AV):Cl ⟨A,false,lvL A la b r es⟩ [(A.length,1),(A.length,2)] [.arr 1 es.length es,.arr 1 0 [.ref A.length 1 es.length 0 es.length]]:=by
 refine ⟨by simp,rfl,fun k hk=>?_,fun j lv ix b h1 h2=>?_⟩
 ·simp only [List.mem_cons,List.not_mem_nil,or_false] at hk
  rcases hk with rfl|rfl<;>simp [St.wr]
 ·match j,h1,h2 with
  | 0,h1,h2=>obtain ⟨rfl,rfl⟩:=Prod.mk.inj (Option.some.inj h1);obtain rfl:=Option.some.inj h2;exact St.get_cur ..
  | 1,h1,h2=>obtain ⟨rfl,rfl⟩:=Prod.mk.inj (Option.some.inj h1);obtain rfl:=Option.some.inj h2;exact St.get_cur ..
  | n+2,h1,h2=>simp at h1
theorem lv_put (A:List (Bool × List Blk)) (la b:Nat) (r:Ro) (es fs:List AV):putC ⟨A,false,lvL A la b r es⟩ [(A.length,1),(A.length,2)] [.arr 1 fs.length fs,.arr 1 0 [.ref A.length 1 fs.length 0 fs.length]]=⟨A,false,lvL A la b r fs⟩:=by
 simp [putC,St.upd,lvL]
theorem lv_round {N:Nodes} {A:List (Bool × List Blk)} {la b:Nat} {r:Ro} {caps:List AV} (hc7:∃ rest,caps=.any::.any::.any::.any::.any::.any::.any::.ptr A.length 2 0 0 0::rest∧rest.length=24) (v:List Nat) (hlim:(leavesOf N v).length<4000000000) (h:Nat) (x:Nd) (more:List (Bool × List Blk)) (ro:Bool) (L:List Blk) (hx:lk N h=some x) :
 roundG (S T1) itS p_rope_Leaves.nt p_rope_Leaves.rng (.int .u64 (h:Nat)::visV x::caps) ⟨(lvF A N la b r v).ps++more,ro,L⟩=some (.bool true,⟨(lvF A N la b r (v++[h])).ps++more,ro,L⟩):=by
 obtain ⟨rest,rfl,hrl⟩:=hc7
 have hs:=leavesOf_snoc N v h
 have hnd:=ndAt_of hx
 rw [hnd] at hs
 unfold lvF
 have hel:((leavesOf N v).map AV.str).length=(leavesOf N v).length:=List.length_map ..
 rw [hs,List.map_append]
 rw [← hel] at hlim
 generalize (leavesOf N v).map AV.str=es at *
 have H:=(lv_cl A la b r es).more more ro L
 refine round_of (by simp [hrl];rfl) (fun A' hA'=>?_)
 rw [← H.same] at hA'
 have g2:=fun L'=>H.old hA' rfl rfl (ro:=false) (L:=L') (j:=1) rfl rfl
 unfold visV
 repeat' (first|refine ru_reg ?_|refine is_nil rfl ?_|refine is_box rfl rfl rfl ?_|refine is_stb rfl rfl rfl rfl rfl rfl ?_|refine rk_nil ?_)
 all_goals try (exfalso;omega)
 all_goals refine ⟨rfl,?_⟩
 all_goals repeat' (first|refine ru_seq ?_|refine ru_reg ?_|refine is_fadr rfl rfl ?_|refine is_ldc rfl rfl rfl rfl ?_|refine is_nil rfl ?_|refine rk_seq ?_|(refine is_eql rfl rfl (fun _=>?_) (fun _=>?_)<;>try (exfalso;omega))|refine ru_iteT rfl ?_|refine ru_iteF rfl ?_|refine is_bslFO rfl rfl rfl rfl ?_|refine is_ld rfl (g2 _) rfl rfl ?_|refine ru_skip ?_|refine ru_block ?_|refine rk_nil ?_|refine rk_blk ?_)
 ·rename_i hz
  have hz':x.h=0:=by omega
  refine is_appC H hA' rfl rfl (j:=0) rfl rfl rfl rfl rfl rfl (strs_seal 5 _ _ [x.text]) (by simp only [List.length_singleton];omega) (by decide) (fun A2 hA2 hl2=>?_)
  refine is_stC H hA2 rfl rfl (j:=1) rfl rfl rfl rfl rfl (seal_refL _ (Nat.lt_succ_self _)) rfl (fun A3 hA3 hl3=>?_)
  repeat' (first|refine is_nil rfl ?_|refine rk_nil ?_|refine rk_blk ?_)
  refine ⟨rfl,hA3.trans ?_⟩
  have e:=lv_put A la b r es (es++[.str x.text])
  rw [if_pos hz',List.map_cons,List.map_nil,← e]
  rw [← putC_more (fun k hk=>by simp only [List.mem_cons,List.not_mem_nil,or_false] at hk;rcases hk with rfl|rfl<;>exact Nat.le_refl _)]
  simp only [List.length_append,List.length_singleton]
  rfl
 ·rename_i hz
  have hz':¬ x.h=0:=by omega
  refine ⟨rfl,hA'.trans ?_⟩
  rw [H.same,if_neg hz',List.map_nil,List.append_nil]
theorem leavesOf_len (N:Nodes) (v:List Nat):(leavesOf N v).length≤v.length:=List.length_filterMap_le _ _
theorem Leaves_c {st:St} {la b:Nat} {N:Nodes} (hN:GoodN N) (hR:Rd st la (b+5) N) {r:Ro} (hr:RtOk N r):S T3 F_rope_Leaves [.ptr la (b+5) 0 0 0,r.av] st=some (.tup [.lit ((leavesOf N (nodesR N r)).map .str),.int .i64 0],st):=by
 refine s_rf (rf:=p_rope_Leaves) rfl (fun A hA=>?_)
 have hK:=fun L=>Check_c hN (hR.push hA (ro:=false) (L:=L)) hr
 have hNd:=fun L=>up1 (nodes_c (A:=A) (L:=L) (la:=la) (b:=b) (r:=r))
 have hlen:=nodesR_len hN hr
 have hseq:=fun (caps:List AV) (hcw:weaks caps=caps) (o:List AV→St→Option (AV × St)) hy=>seq_c (TY:=tabY T1 (A.length+1) o) (fun g y hg=>tabY_le T1_small _ _ g y (le1 g y hg)) (σ:=lvF A N la b r) hN (lv:=A.length+1) (caps:=caps) hcw (fun _=>hR.push hA) (fun _=>rfl) (B:=100000000) hy hr (by omega) (l1:=A.length) (i1:=3) (l4:=A.length) (i4:=4) (fun _=>St.get_cur ..) (fun _=>St.get_cur ..)
 have hS:=hseq (capsE 32 [(7,.ptr A.length 2 0 0 0),(18,.func (.func F_rope_nodesC1) [] [.ptr A.length 3 0 0 0,.ptr A.length 4 0 0 0]),(20,.any)]) rfl (roundG (S T1) itS p_rope_Leaves.nt p_rope_Leaves.rng) (fun v h x more ro L hv hx=>tabY_at _ _ _ _ _ (lv_round ⟨_,rfl,rfl⟩ v (by have:=leavesOf_len N v;omega) h x more ro L hx))
 unfold lvF at hS
 have hl0:(leavesOf N (nodesR N r)).map AV.str=(leavesOf N (nodesR N r)).map AV.str:=rfl
 generalize hes:leavesOf N (nodesR N r)=l at *
 have e0:lvL A la b r ((leavesOf N []).map .str)=lvL A la b r []:=rfl
 rw [e0] at hS
 unfold lvL at hS
 unfold Ro.av at *
 repeat' (first|refine ru_seq ?_|refine ru_reg ?_|refine is_mv rfl ?_|refine is_ldc rfl rfl rfl rfl ?_|refine is_nil rfl ?_|refine rk_seq ?_|(refine is_neq rfl rfl (fun _=>?_) (fun _=>?_)<;>try (exfalso;omega))|refine ru_iteF rfl ?_|refine is_box rfl rfl rfl ?_|refine is_boxnil rfl ?_|refine is_callE rfl rfl rfl (hK _) ?_|refine is_callE rfl rfl rfl (hNd _) ?_|refine ru_skip ?_|refine rk_nil ?_)
 all_goals try contradiction
 refine .inr ⟨rfl,_,rng_of (g:=F_rope_nodesC1) rfl (by decide) hS,?_⟩
 repeat' (first|refine ru_seq ?_|refine ru_reg ?_|refine is_mv rfl ?_|refine is_ldc rfl rfl rfl rfl ?_|refine is_nil rfl ?_|refine rk_seq ?_|refine ru_skip ?_|refine ru_ret ?_|refine rk_nil ?_)
 exact end_ref1 hA (.inr rfl) rfl rfl rfl (fun v hv=>by obtain ⟨x,_,rfl⟩:=List.mem_map.1 hv;rfl) rfl rfl
end Go.Q15
namespace Go.QAbs
open Go.ChangeShapes Go.WideShapes Go.RowKit Go.Deep
variable {P:Program}
def rho0:Rho:=⟨fun _ _=>⟨0,0,0⟩,fun _=>(0,[])⟩
theorem empty_get (lv ix:Nat):St.empty.get lv ix=none:=by
 unfold St.empty St.get
 split<;>simp [vis]
theorem empty_im {W:World} {b o:Nat} {v:Value} (h:W.cell? ⟨b,o,none⟩=some v):(cx .empty rho0 W 0).im b o v :=
 ⟨h,fun ⟨lv,ix,w,ver,es,hg,_⟩=>by rw [empty_get] at hg;simp at hg⟩
theorem walk_in (hm:P.follows .mixedOrders=true) {T:Tab} (hT:TabOk P T) {f:FuncId} {args:List AV} (h:∃ st',S T f args .empty=some (.bool true,st')) {W:World} {xs:List Value} (hx:RL (cx .empty rho0 W 0) args xs) :
 Calls P f xs.toArray W fun e W'=>e=.returned (.bool true)∧Below W.heap.size W W':=by
 obtain ⟨st',h⟩:=h
 refine (S_calls hm hT h (rel_empty W) hx).mono fun e' W' ⟨x,_,he,g,hv⟩=>?_
 subst he
 exact ⟨by rw [getBool hv],g.rel.below.b⟩
theorem lit_idx {W:World} {b off len cap w:Nat} (es:List AV) (g:Nat→Value) (hlen:es.length=len) (hc:len≤cap) (he:∀ (i:Nat) (e:AV),es[i]?=some e→R (cx .empty rho0 W 0).pure e (g i))
 (hg:∀ i,i<len→(g i).cells.size=w∧∀ (j:Nat) (v:Value),(g i).cells[j]?=some v→W.cell? ⟨b,off+i*w+j,none⟩=some v):R (cx .empty rho0 W 0) (.lit es) (.slice (some ⟨b,off,none⟩) len cap):=by
 subst hlen
 exact .lit (w:=w) g he (fun i hi=>⟨(hg i hi).1,fun j v hv=>empty_im ((hg i hi).2 j v hv)⟩) hc
section
variable {H:Type} {enc:TypeId × Value→H}
theorem open_strs_arg {W:World} {base:Nat} {t e:TypeId} {v:Value} {d:DataW H} {ps:List MemPlace} (ht:P.underlying t=some (.slice e)) (he:P.underlying e=some .string) (hc:P.cellsOf e=1)
 (hval:Value.okWide P W .any base t v) (h:DataW.Trod enc P W 0 (fun _=>true) true t v d ps) :
 ∃ ss:List (List UInt8),(∀ s∈ss,s.length≤maxLen)∧ss.length≤maxLen∧R (cx .empty rho0 W 0) (.lit (ss.map .str)) v:=by
 obtain ⟨a0,len,cap,rfl⟩:=okWide_slice ht hval
 obtain ⟨fuel,hf⟩:=h
 rcases open_strings ht he hc hf with ⟨hcs,hx⟩|⟨a,len',cap',ss,hcs,_,hl,hm,hz,hx,hcell,hsz⟩
 ·refine ⟨[],by simp,by simp,?_⟩
  have:(Value.slice a0 len cap)=.slice none 0 0:=by simpa [Value.cells] using hcs
  rw [this];exact .lit0 _ _
 ·have hv:(Value.slice a0 len cap)=.slice (some a) len' cap':=by simpa [Value.cells] using hcs
  rw [hv]
  simp only [if_true] at hz
  refine ⟨(ss.take len').map (fun s=>s.data.toList),?_,?_,?_⟩
  ·intro s hs
   obtain ⟨s',hs',rfl⟩:=List.mem_map.1 hs
   rw [Array.length_toList];exact hsz s' (List.mem_of_mem_take hs')
  ·rw [List.length_map,List.length_take];omega
  ·cases len' with
   | zero=>exact .lit0 _ _
   | succ n =>
    obtain ⟨b,off,spot⟩:=a
    have hspot:spot=none:=by simpa [Addr.add] using World.cell?_spot (hcell 0 (by omega))
    subst hspot
    refine lit_idx (w:=1) _ (fun i=>.string (ss.getD i ByteArray.empty)) (by simp;omega) hl (fun i e he=>?_) (fun i hi=>⟨rfl,fun j v hv=>?_⟩)
    ·rw [List.getElem?_map,List.getElem?_map,List.getElem?_take] at he
     by_cases hi:i<n+1
     ·rw [if_pos hi] at he
      have hs:ss[i]?=some (ss.getD i ByteArray.empty):=by
       have:i<ss.length:=by omega
       simp [List.getD,this]
      rw [hs] at he
      simp only [Option.map_some,Option.some.injEq] at he
      subst he
      rw [str_eq (ss.getD i ByteArray.empty)]
      exact .str _
     ·rw [if_neg hi] at he;simp at he
    ·have hj : j = 0 := by
      have:j<(Value.string (ss.getD i ByteArray.empty)).cells.size:=(Array.getElem?_eq_some_iff.1 hv).1
      simp [Value.cells] at this;omega
     subst hj
     have hv':Value.string (ss.getD i ByteArray.empty)=v:=by simpa [Value.cells] using hv
     rw [← hv']
     have:=hcell i (by omega)
     simpa [Addr.add_lit] using this
theorem open_ops_arg {W:World} {base:Nat} {t e t0 t1 t2 t3 t4:TypeId} {f0 f1 f2 f3 f4:Field} {v:Value} {d:DataW H} {ps:List MemPlace} (ht:P.underlying t=some (.slice e)) (he:P.underlying e=some (.struct #[f0,f1,f2,f3,f4])) (hc:P.cellsOf e=5)
 (hf0:f0.type=t0∧f0.offset=0∧P.underlying t0=some (.int .u8)∧P.cellsOf t0=1) (hf1:f1.type=t1∧f1.offset=1∧P.underlying t1=some (.int .i64)∧P.cellsOf t1=1) (hf2:f2.type=t2∧f2.offset=2∧P.underlying t2=some (.int .i64)∧P.cellsOf t2=1)
 (hf3:f3.type=t3∧f3.offset=3∧P.underlying t3=some (.int .i64)∧P.cellsOf t3=1) (hf4:f4.type=t4∧f4.offset=4∧P.underlying t4=some .string∧P.cellsOf t4=1) (hval:Value.okWide P W .any base t v) (h:DataW.Trod enc P W 0 (fun _=>true) true t v d ps) :
 ∃ l:List (Nat × Int × Int × Int × List UInt8),(∀ s∈l,s.2.2.2.2.length≤maxLen)∧l.length≤maxLen∧R (cx .empty rho0 W 0) (.lit (l.map fun q=>.agg [.int .u8 q.1,.int .i64 q.2.1,.int .i64 q.2.2.1,.int .i64 q.2.2.2.1,.str q.2.2.2.2])) v:=by
 obtain ⟨a0,len,cap,rfl⟩:=okWide_slice ht hval
 obtain ⟨fuel,hf⟩:=h
 rcases open_slice ht hf with ⟨hcs,hx⟩|⟨a,len',cap',m,n,D,Pl,hcs,_,hl,hm,hmm,hx,hall⟩
 ·refine ⟨[],by simp,by simp,?_⟩
  have:(Value.slice a0 len cap)=.slice none 0 0:=by simpa [Value.cells] using hcs
  rw [this];exact .lit0 _ _
 ·have hv:(Value.slice a0 len cap)=.slice (some a) len' cap':=by simpa [Value.cells] using hcs
  rw [hv]
  simp only [if_true] at hmm
  subst hmm
  rw [hc] at hall
  have each:∀ i,i<len'→∃ q:Nat × Int × Int × Int × List UInt8,q.2.2.2.2.length≤maxLen∧W.cell? (a.add (i*5))=some (.int .u8 q.1)∧W.cell? (a.add (i*5+1))=some (.int .i64 q.2.1)∧W.cell? (a.add (i*5+2))=some (.int .i64 q.2.2.1)∧W.cell? (a.add (i*5+3))=some (.int .i64 q.2.2.2.1)∧W.cell? (a.add (i*5+4))=some (.string ⟨q.2.2.2.2.toArray⟩):=by
   intro i hi
   obtain ⟨cs',h1,h2⟩:=hall i (by omega)
   obtain ⟨_,hlen,hcell⟩:=World.cells?_some h1
   obtain ⟨xs,k,_,_,_,hxl,hfs⟩:=DataW.trod_struct he h2
   have g0:=hfs 0 f0 rfl
   have g1:=hfs 1 f1 rfl
   have g2:=hfs 2 f2 rfl
   have g3:=hfs 3 f3 rfl
   have g4:=hfs 4 f4 rfl
   match cs',hlen,xs,hxl with
   | [c0,c1,c2,c3,c4],_,[y0,y1,y2,y3,y4],_ =>
    simp only [hf0.1,hf0.2.1,hf0.2.2.2,hf1.1,hf1.2.1,hf1.2.2.2,hf2.1,hf2.2.1,hf2.2.2.2,hf3.1,hf3.2.1,hf3.2.2.2,hf4.1,hf4.2.1,hf4.2.2.2,List.drop,List.take,List.getElem?_cons_zero,List.getElem?_cons_succ] at g0 g1 g2 g3 g4
    obtain ⟨n0,e0,_,w0⟩:=DataW.trod_int hf0.2.2.1 g0
    obtain ⟨n1,e1,_,_⟩:=DataW.trod_int hf1.2.2.1 g1
    obtain ⟨n2,e2,_,_⟩:=DataW.trod_int hf2.2.2.1 g2
    obtain ⟨n3,e3,_,_⟩:=DataW.trod_int hf3.2.2.1 g3
    obtain ⟨s,e4,_,hs⟩:=DataW.trod_string hf4.2.2.1 g4
    simp only [List.cons.injEq,and_true] at e0 e1 e2 e3 e4
    subst e0;subst e1;subst e2;subst e3;subst e4
    have hn0:0≤n0:=by
     simp only [Lit.wf,Bool.and_eq_true,decide_eq_true_eq] at w0
     exact w0.1
    refine ⟨(n0.toNat,n1,n2,n3,s.data.toList),by simp only [Array.length_toList];exact hs,?_,?_,?_,?_,?_⟩
    ·have:=hcell 0 (by omega)
     simp only [add_add,Nat.add_zero,List.getElem?_cons_zero] at this
     rw [this];simp only [Int.toNat_of_nonneg hn0]
    ·have:=hcell 1 (by omega)
     simpa only [add_add,List.getElem?_cons_succ,List.getElem?_cons_zero] using this
    ·have:=hcell 2 (by omega)
     simpa only [add_add,List.getElem?_cons_succ,List.getElem?_cons_zero] using this
    ·have:=hcell 3 (by omega)
     simpa only [add_add,List.getElem?_cons_succ,List.getElem?_cons_zero] using this
    ·have:=hcell 4 (by omega)
     simp only [add_add,List.getElem?_cons_succ,List.getElem?_cons_zero] at this
     rw [this,str_eq s]
  obtain ⟨q,hq⟩:=choose_lt each
  refine ⟨(List.range len').map q,?_,by simp;omega,?_⟩
  ·intro s hs
   obtain ⟨i,hi,rfl⟩:=List.mem_map.1 hs
   exact (hq i (List.mem_range.1 hi)).1
  ·cases len' with
   | zero=>exact .lit0 _ _
   | succ len' =>
    obtain ⟨b,off,spot⟩:=a
    have hspot:spot=none:=by simpa [Addr.add] using World.cell?_spot (hq 0 (by omega)).2.1
    subst hspot
    refine lit_idx (w:=5) _ (fun i=>.agg #[.int .u8 (q i).1,.int .i64 (q i).2.1,.int .i64 (q i).2.2.1,.int .i64 (q i).2.2.2.1,.string ⟨(q i).2.2.2.2.toArray⟩]) (by simp) hl (fun i e he=>?_) (fun i hi=>⟨by simp [Value.cells],fun j v hv=>?_⟩)
    ·rw [List.getElem?_map,List.getElem?_map] at he
     by_cases hi:i<len'+1
     ·rw [List.getElem?_range hi] at he
      simp only [Option.map_some,Option.some.injEq] at he
      subst he
      have hr:=RL.cons (C:=(cx .empty rho0 W 0).pure) (.int .u8 ((q i).1:Int)) (.cons (.int .i64 (q i).2.1) (.cons (.int .i64 (q i).2.2.1) (.cons (.int .i64 (q i).2.2.2.1) (.cons (.str (q i).2.2.2.2) (.nil _)))))
      exact .agg (xs:=[_,_,_,_,_]) hr.1 hr.2
     ·have:(List.range (len'+1))[i]?=none:=by simp;omega
      rw [this] at he;simp at he
    ·obtain ⟨_,k0,k1,k2,k3,k4⟩:=hq i hi
     have hj:j<5:=by
      have:=(Array.getElem?_eq_some_iff.1 hv).1
      simpa [Value.cells] using this
     simp only [Addr.add_lit] at k0 k1 k2 k3 k4
     match j,hj with
     | 0,_ =>
      have:v=.int .u8 (q i).1:=by simpa [Value.cells] using hv.symm
      subst this;simpa using k0
     | 1,_ =>
      have:v=.int .i64 (q i).2.1:=by simpa [Value.cells] using hv.symm
      subst this;simpa [Nat.add_assoc] using k1
     | 2,_ =>
      have:v=.int .i64 (q i).2.2.1:=by simpa [Value.cells] using hv.symm
      subst this;simpa [Nat.add_assoc] using k2
     | 3,_ =>
      have:v=.int .i64 (q i).2.2.2.1:=by simpa [Value.cells] using hv.symm
      subst this;simpa [Nat.add_assoc] using k3
     | 4,_ =>
      have:v=.string ⟨(q i).2.2.2.2.toArray⟩:=by simpa [Value.cells] using hv.symm
      subst this;simpa [Nat.add_assoc] using k4
end
end Go.QAbs
namespace Go.Proofs
open Go.Shelf
def Try.lays156_ren:Go.Shelf.Ren:=⟨fun|156=>20|165=>67|166=>68|169=>69|240=>104|241=>105|276=>124|277=>125|n=>n,fun|31=>22|9=>9|3=>3|4=>4|0=>0|20=>20|72=>140|76=>144|70=>138|37=>125|75=>143|127=>185|164=>214|5=>5|80=>146|n=>n,fun|n=>n⟩
theorem Try.lays156:Go.Proofs.Lays.n156 Try.prog Try.lays156_ren:={
 mixed:=by kernel_rfl
 f156:=Try.func20.trans (congrArg some (by kernel_rfl))
 f165:=Try.func67.trans (congrArg some (by kernel_rfl))
 f166:=Try.func68.trans (congrArg some (by kernel_rfl))
 f169:=Try.func69.trans (congrArg some (by kernel_rfl))
 f240:=Try.func104.trans (congrArg some (by kernel_rfl))
 f241:=Try.func105.trans (congrArg some (by kernel_rfl))
 f276:=Try.func124.trans (congrArg some (by kernel_rfl))
 f277:=Try.func125.trans (congrArg some (by kernel_rfl))
 t0:=Try.underlying0
 a0:=Try.isAgg0
 z0:=Try.sizeOf0
 v0:=Try.zeroValue0
 t3:=Try.underlying3
 a3:=Try.isAgg3
 z3:=Try.sizeOf3
 v3:=Try.zeroValue3
 t4:=Try.underlying4
 a4:=Try.isAgg4
 z4:=Try.sizeOf4
 v4:=Try.zeroValue4
 t9:=Try.underlying9
 a9:=Try.isAgg9
 z9:=Try.sizeOf9
 v9:=Try.zeroValue9
 t20:=Try.underlying20
 a20:=Try.isAgg20
 z20:=Try.sizeOf20
 v20:=Try.zeroValue20
 t31:=Try.underlying22
 a31:=Try.isAgg22
 z31:=Try.sizeOf22
 v31:=Try.zeroValue22
 t37:=Try.underlying125
 a37:=Try.isAgg125
 z37:=Try.sizeOf125
 v37:=Try.zeroValue125
 t70:=Try.underlying138
 a70:=Try.isAgg138
 z70:=Try.sizeOf138
 v70:=Try.zeroValue138
 t72:=Try.underlying140
 a72:=Try.isAgg140
 z72:=Try.sizeOf140
 v72:=Try.zeroValue140
 t75:=Try.underlying143
 a75:=Try.isAgg143
 z75:=Try.sizeOf143
 v75:=Try.zeroValue143
 t76:=Try.underlying144
 a76:=Try.isAgg144
 z76:=Try.sizeOf144
 v76:=Try.zeroValue144
 t127:=Try.underlying185
 a127:=Try.isAgg185
 z127:=Try.sizeOf185
 v127:=Try.zeroValue185
 t164:=Try.underlying214
 a164:=Try.isAgg214
 z164:=Try.sizeOf214
 v164:=Try.zeroValue214 }
theorem Try.Builder_Extra_156:Builder.Extra Try.prog Try.lays156_ren:={
 sizeBuilder:=by kernel_rfl
 liesBuilder:=by kernel_rfl
 t5:=Try.underlying5
 a5:=Try.isAgg5
 z5:=Try.sizeOf5
 v5:=Try.zeroValue5
 infoByte:=by kernel_rfl
 cellsByte:=by kernel_rfl
 sizeByte:=by kernel_rfl
 neB5:=by decide }
open Go.RowKit in
theorem Try.strings_Join_none (a:Option Addr) (c:Nat) (sep:ByteArray) (w:World) :
 Calls Try.prog 20 #[.slice a 0 c,.string sep] w fun e w'=>e=.returned (.string ⟨#[]⟩)∧w'=w:=Any.strings_Join_none Try.lays156 Try.Builder_Extra_156 a c sep w
open Go.RowKit in
theorem Try.strings_Join (bk o c:Nat) (xs:List ByteArray) (sep:ByteArray) (w:World) (hcells:∀ (j:Nat) x,xs[j]?=some x→w.cell? ⟨bk,o+j,none⟩=some (.string x)) (hbk:bk<w.heap.size) (hN:xs.length≤140737488355328) (hcap:xs.length≤c) (hlen:(Lib.join (xs.map (·.data.toList)) sep.data.toList).length≤140737488355328) :
 Calls Try.prog 20 #[.slice (some ⟨bk,o,none⟩) xs.length c,.string sep] w fun e w'=>e=.returned (.string ⟨(Lib.join (xs.map (·.data.toList)) sep.data.toList).toArray⟩)∧Below w.heap.size w w':=Any.strings_Join Try.lays156 Try.Builder_Extra_156 bk o c xs sep w hcells hbk hN hcap hlen
end Go.Proofs
namespace Go.Q15
open Go Go.QAbs
set_option maxRecDepth 100000
open Go.Shelf in
def cloneRen:Ren:=⟨fun|41=>76|n=>n,fun|22=>77|23=>90|n=>n,fun n=>n⟩
theorem cloneL:Go.Proofs.SlLaysE0.n41 Go.Proofs.Try.prog cloneRen:={
 mixed:=by kernel_rfl
 f41 := ⟨"slices.Clone[[]quarto/api.Kid,quarto/api.Kid]", by decide, Go.Proofs.Try.func76.trans (congrArg some (by kernel_rfl))⟩
 t4:=Go.Proofs.Try.underlying4
 a4:=Go.Proofs.Try.isAgg4
 z4:=Go.Proofs.Try.sizeOf4
 v4:=Go.Proofs.Try.zeroValue4
 t22:=Go.Proofs.Try.underlying77
 a22:=Go.Proofs.Try.isAgg77
 z22:=Go.Proofs.Try.sizeOf77
 v22:=Go.Proofs.Try.zeroValue77 }
theorem kid_info:∃ i z,Go.Proofs.Try.prog.info? 90=some i∧i.zero=some z∧i.size=4∧i.bytes=32∧z.cells.size=4:=⟨_,_,rfl,rfl,rfl,rfl,rfl⟩
theorem clone_ok15:EntOk Go.Proofs.Try.prog F_slices_Clone_api_Kid_api_Kid (.base (cloneO 4)):=by
 obtain ⟨i,z,h1,h2,h3,h4,h5⟩:=kid_info
 refine clone_ok (T:=90) (fun n c W=>Go.Proofs.AnyE.slices_Clone_nil cloneL n c W) fun ad n c news W hl hn hc ho=>?_
 exact clone_any cloneL i z 4 32 h1 h2 h3 h4 h5 (by decide) Go.Proofs.Try.sizeOf90 ad n c news W hl (by unfold maxLen;omega) (by omega) hc ho
theorem mixedY:Go.Proofs.Try.prog.follows .mixedOrders=true:=by kernel_rfl
theorem tl_all:AllOk Go.Proofs.Try.prog tl:=⟨⟨Go.Proofs.Try.call76,clone_ok15⟩,⟨Go.Proofs.Try.call20,join_ok Go.Proofs.Try.strings_Join_none Go.Proofs.Try.strings_Join⟩,tab_all⟩
theorem Tb_ok:TabOk Go.Proofs.Try.prog Tb:=tabOk_of tl_all
theorem t1_all:AllOk Go.Proofs.Try.prog t1:=⟨⟨Go.Proofs.Try.call22,rf_ok mixedY Tb_ok Go.Proofs.Try.func22 c_rope_Check⟩,tl_all⟩
theorem t1_ok:TabOk Go.Proofs.Try.prog T1:=tabOk_of t1_all
theorem t3_all:AllOk Go.Proofs.Try.prog t3:=⟨⟨Go.Proofs.Try.call19,rf_ok mixedY t1_ok Go.Proofs.Try.func19 c_rope_Leaves⟩,⟨Go.Proofs.Try.call23,rf_ok mixedY t1_ok Go.Proofs.Try.func23 c_rope_Nodes⟩,t1_all⟩
theorem T3_ok:TabOk Go.Proofs.Try.prog T3:=tabOk_of t3_all
end Go.Q15
namespace Go.Q15
open Go Go.QAbs
set_option maxRecDepth 100000
set_option maxHeartbeats 8000000
theorem cntL_le8:∀ l:List Tr,(∀ t∈l,4*(t.cnt:Int)+4≤t.bytes)→4*(Tr.cntL l:Int)+4*l.length≤Tr.bytesL l
 | [],_=>by simp [Tr.cntL,Tr.bytesL]
 | t::l,h=>by
  have h1:=h t (by simp)
  have h2:=cntL_le8 l fun u hu=>h u (by simp [hu])
  simp only [Tr.cntL,Tr.bytesL,List.length_cons]
  omega
theorem cnt_le {N:Nodes} (hN:GoodN N) {t:Tr} (hv:Val N t):(t.cnt:Int)≤t.bytes∧(Big t→4*(t.cnt:Int)+4≤t.bytes):=by
 have hsz:=hv.size hN
 have hps:=hv.pos.2
 induction hv with
 | @kept o h m k x h0 hx hok hh hm hk =>
  have ec:(Tr.mk o h m [] k).cnt=0:=by rw [Tr.cnt,Tr.cntO_getD,hk,if_neg h0];rfl
  have hl:h≤16:=by
   rcases hok with q|⟨n,ks,q⟩
   ·rw [← hh,q.h];omega
   ·have:=q.n15;have e:=q.eq;subst e;simp only at hh;omega
  rw [ec]
  refine ⟨by omega,fun q=>?_⟩
  have h1:=hsz q
  have h2:=(leastB_le hl).1
  simp only [Tr.h] at h1
  omega
 | @leaf s k h1 h2 hk =>
  have ec:(Tr.mk 0 0 .zero s k).cnt=1:=by rw [Tr.cnt,Tr.cntO_getD,hk];rfl
  rw [ec]
  refine ⟨by omega,fun q=>?_⟩
  have:=q rfl
  omega
 | @inner h l hh h2 h4 hl hb hv ih =>
  have ec:(Tr.mk 0 (h+1) .zero [] (some l)).cnt=Tr.cntL l+1:=by rw [Tr.cnt,Tr.cntO];simp;omega
  have eb:(Tr.mk 0 (h+1) .zero [] (some l)).bytes=Tr.bytesL l:=by rw [Tr.bytes,Tr.bytesO];simp [Mea.zero]
  have:=cntL_le8 l fun u hu=>(ih u hu ((hv u hu).size hN) (hv u hu).pos.2).2 (fun q=>hb u hu (by rw [← hl u hu];exact q))
  rw [ec,eb]
  exact ⟨by omega,fun _=>by omega⟩
theorem nw_le {N:Nodes} (hN:GoodN N) {t:Tr} (hv:VE N t):(nw t:Int)≤t.bytes:=by
 rcases hv with he|hv
 ·unfold nw;rw [if_pos ⟨he.old,he.h,he.text⟩,he.bytes];decide
 ·rw [nw_val hv];exact (cnt_le hN hv).1
theorem begin_full {A:List (Bool × List Blk)} {L:List Blk} {la b:Nat} {r:AR} (hA:HasR ⟨A,false,L⟩ la b r) (hN:r.n≤r.blk.length) (h16:r.states.length≤16384) (h6:r.n<65536) {t:Tr} (hg:GoodN r.nodes) (hv:VE r.nodes t) (hb:t.bytes≤65536) (hn:r.n<nw t) :
 S Tb F_rope_Begin [.ptr la (b+5) 0 0 0,t.av] ⟨A,false,L⟩=some (.tup [.nilptr,.int .i64 6],⟨A,false,L++[.arr 7 0 [t.av]]⟩):=by
 have hv:Val r.nodes t:=by
  rcases hv with he|hv
  ·unfold nw at hn;rw [if_pos ⟨he.old,he.h,he.text⟩] at hn;omega
  ·exact hv
 rw [nw_val hv] at hn
 have hcb:=(cnt_le hg hv).1
 have hCk:=fun T=>Check_val (hA.app T).rd hv hb
 have hNw:=fun st=>New_c hv (by omega) st
 have hSt:=fun T=>Stats_c (hA.app T) hN h16 h6
 unfold AR.statsAV at hSt
 refine s_keep rfl ?_
 have e0:(⟨A,false,L⟩:St)=⟨A,false,L++[]⟩:=by rw [List.append_nil]
 rw [e0]
 repeat' (first|refine is_boxA rfl (tr_wide _) (tr_force _) rfl rfl ?_|refine is_ldA rfl rfl rfl (tr_part _) ?_|refine ru_seq ?_|refine ru_reg ?_|refine is_mv rfl ?_|refine is_nil rfl ?_|refine rk_seq ?_|refine is_fld (agg:=false) rfl rfl ?_|(refine is_gtr rfl rfl (fun _=>?_) (fun _=>?_)<;>try (exfalso;omega))|(refine is_neq rfl rfl (fun _=>?_) (fun _=>?_)<;>try (exfalso;omega))|refine ru_iteT rfl ?_|refine ru_iteF rfl ?_|refine is_callE rfl rfl (by first|rfl|(simp only [List.nil_append,List.append_nil,List.cons_append,weaks,tr_weak,forceL];first|done|rfl)) (hCk _) ?_|refine is_callE rfl rfl (by first|rfl|(simp only [List.nil_append,List.append_nil,List.cons_append,weaks,tr_weak,forceL];first|done|rfl)) (hNw _) ?_|refine is_callE rfl rfl (by first|rfl|(simp only [List.nil_append,List.append_nil,List.cons_append,weaks,tr_weak,forceL];first|done|rfl)) (hSt _) ?_|refine ru_skip ?_|refine ru_ret ?_|refine rk_nil ?_|refine rk_seq_ret ?_)
 all_goals try (exfalso;omega)
 refine (end_keep (.inr rfl) rfl rfl rfl rfl).trans ?_
 rfl
theorem Write_full {st:St} {la b:Nat} {r:AR} (hA:Has st la b r) (ho:AROk r) (hg:GoodN r.nodes) {t:Tr} (hv:VE r.nodes t) (hb:t.bytes≤65536) (hn:r.n<nw t) :
 S Tb F_rope_Write [.ptr la (b+5) 0 0 0,t.av] st=some (.tup [Ro.zero.av,.lit [],.int .i64 6],st):=by
 refine s_ofW rfl (fun A hA'=>?_)
 have hS:=fun L=>begin_full (L:=L) (hA.push hA').r ho.nb ho.n16 (by have:=ho.nn;have:=ho.n16;omega) hg hv hb hn
 repeat' (first|refine ru_seq ?_|refine ru_reg ?_|refine is_mv rfl ?_|refine is_ext rfl rfl ?_|refine is_nil rfl ?_|refine rk_seq ?_|(refine is_neq rfl rfl (fun _=>?_) (fun _=>?_)<;>try (exfalso;omega))|refine ru_iteT rfl ?_|refine is_buildO rfl rfl rfl ?_|refine is_box rfl rfl rfl ?_|refine is_stb rfl rfl rfl rfl rfl rfl ?_|refine is_onil rfl ?_|refine is_ldc rfl rfl rfl (tr_part _) ?_|refine is_boxG rfl (tr_wide _) (tr_force _) ?_|refine is_callE rfl rfl (by first|rfl|(simp only [List.nil_append,List.append_nil,List.cons_append,weaks,tr_weak,forceL];first|done|rfl)) (hS _) ?_|refine ru_ret ?_|refine rk_nil ?_|refine rk_seq_ret ?_)
 all_goals try contradiction
 all_goals try (exfalso;omega)
 exact end_wr (ro:=.zero) (l:=[]) hA' (.inr rfl) rfl rfl rfl rfl rfl rfl
end Go.Q15
namespace Go.Q15
open Go Go.QAbs
set_option maxRecDepth 100000
set_option maxHeartbeats 8000000
theorem flat_get {x:List UInt8} {l:List (List UInt8)} {i:Nat} (h:l[i]?=some x):(l.take (i+1)).flatten=(l.take i).flatten++x:=by
 rw [List.take_add_one,h];simp
theorem flat_le (l:List (List UInt8)) (i:Nat):(l.take i).flatten.length≤l.flatten.length:=by
 have:=congrArg List.length (congrArg List.flatten (List.take_append_drop i l))
 rw [List.flatten_append,List.length_append] at this
 omega
theorem rtText_c {st:St} {la b:Nat} {N:Nodes} (hN:GoodN N) (hR:Rd st la (b+5) N) {r:Ro} (hr:RtOk N r) (hlim:(leavesOf N (nodesR N r)).flatten.length≤65536):S T3 F_rope_Text [.ptr la (b+5) 0 0 0,r.av] st=some (.tup [.str (leavesOf N (nodesR N r)).flatten,.int .i64 0],st):=by
 refine s_of (le3 F_rope_Text (.pf p_rope_Text) rfl) (fun A hA=>?_)
 have hL:=fun L=>Leaves_c hN (hR.push hA (ro:=false) (L:=L)) hr
 have hll:(leavesOf N (nodesR N r)).length<4000000000:=by have:=leavesOf_len N (nodesR N r);have:=nodesR_len hN hr;omega
 unfold Ro.av at *
 generalize leavesOf N (nodesR N r)=l at *
 repeat' (first|refine ru_seq ?_|refine ru_reg ?_|refine is_mv rfl ?_|refine is_ldc rfl rfl rfl rfl ?_|refine is_ext rfl rfl ?_|refine is_nil rfl ?_|refine rk_seq ?_|refine is_lenM rfl ?_|(refine is_neq rfl rfl (fun _=>?_) (fun _=>?_)<;>try (exfalso;omega))|refine ru_iteF rfl ?_|refine is_box rfl rfl rfl ?_|refine is_onil rfl ?_|refine is_callE rfl rfl rfl (hL _) ?_|refine ru_skip ?_|refine ru_block ?_)
 all_goals try contradiction
 all_goals try (exfalso;omega)
 refine ru_loopP (α:=Nat) (fun i=>[(8,.ref A.length 1 i 0 (l.take i).flatten.length),(20,.lit (l.map .str)),(21,.int .i64 l.length),(22,.int .i64 i)])
  (fun i=>⟨A,false,[.arr 5 0 [r.av],.arr 1 i (bytesAV (l.take i).flatten)]⟩) (fun i=>i≤l.length) (fun i=>l.length-i) 0 rfl rfl (by simp) ?_
 rintro i hi
 have hfl:=flat_le l i
 repeat' (first|refine ru_seq ?_|refine ru_reg ?_|refine is_mv rfl ?_|refine is_nil rfl ?_|refine rk_seq ?_|refine is_ldl rfl rfl ?_|refine is_ixM rfl rfl (by omega) (fun _=>rfl) (fun _ _=>?_)|(refine is_lss rfl rfl (fun _=>?_) (fun _=>?_)<;>try (exfalso;omega))|refine ru_iteT rfl ?_|refine ru_iteF rfl ?_|refine ru_skip ?_|refine ru_exit ?_|refine ru_block ?_|refine rk_seq_ex ?_|refine rk_blk_eq rfl ?_|refine rk_inv_ex ?_)
 ·rename_i x hx
  have hx2:l[i]?=some x:=hx
  have hf2:=flat_le l (i+1)
  rw [flat_get hx2] at hf2
  rw [List.length_append] at hf2
  refine is_appc (ix:=1) (ver:=i) (n:=(l.take i).flatten.length) (es:=bytesAV (l.take i).flatten) (vx:=.str x) (ys:=bytesAV x) rfl rfl rfl ?_ (bytesAV_len _).symm ?_ (by decide) (bytes_wide _) (bytes_seal _ _ _) rfl ?_
  ·rfl
  ·rw [bytesAV_len,bytesAV_len];omega
  repeat' (first|refine ru_reg ?_|refine is_mv rfl ?_|refine is_nil rfl ?_|refine rk_seq ?_|refine is_addS rfl rfl (by omega) ?_|refine rk_blk ?_|refine rk_inv ?_)
  refine ⟨i+1,⟨?_,?_⟩,by omega,by omega⟩
  ·simp only [flat_get hx2,List.length_append,bytesAV_len];rfl
  ·simp only [flat_get hx2,bytesAV_append]
 ·have hi':i=l.length:=by omega
  subst hi'
  rw [List.take_length]
  skip
  refine is_b2s rfl (v:=.str l.flatten) ?_ ?_
  ·have hl:=bytesAV_len l.flatten
   show (refB l.length 0 l.flatten.length (St.get _ A.length 1)).bind _=_
   rw [St.get_cur]
   show (refB l.length 0 l.flatten.length (some (Blk.arr 1 l.length (bytesAV l.flatten)))).bind _=_
   simp only [refB,true_and,hl,Nat.zero_add,Nat.le_refl,if_true,List.drop_zero,Option.bind_some]
   rw [List.take_of_length_le (by omega),allBytes_bytes];rfl
  repeat' (first|refine is_mv rfl ?_|refine is_nil rfl ?_|refine rk_seq ?_|refine ru_ret ?_|refine rk_nil ?_)
  refine end_st hA (by first|exact .inl rfl|exact .inr rfl) rfl rfl rfl rfl ?_
  rfl
end Go.Q15
namespace Go.Q15
open Go Go.QAbs
set_option maxRecDepth 100000
set_option maxHeartbeats 8000000
theorem PI.ok {r:AR} (ho:AROk r) (hg:GoodN r.nodes) {t:Tr} (hv:VE r.nodes t) (hb:t.bytes≤65536) (hn:nw t≤r.n) {its:List It} {rx:Nat} {ρ:Nat→Ro} (h:PI t its rx ρ) :
 WrB r (nw t) (wrV t r).1 (wrV t r).2.2∧(IsEmpty t∧(wrV t r).2.1=.zero∨Val r.nodes t∧WrOk r.nodes t (wrV t r).1 (wrV t r).2.1):=by
 rcases h with ⟨h1,_,h2⟩|⟨⟨M,hM⟩,R,h1,h2,h3⟩
 ·have e:nw t=0:=by unfold nw;rw [if_pos ⟨h1.old,h1.h,h1.text⟩]
  rw [wrV_empty h1,e];exact ⟨.refl ho hg,.inl ⟨h1,rfl⟩⟩
 ·rcases hv with hv|hv
  ·exact absurd hv hM.not_empty
  ·rw [wrV_val hv,nw_val hv]
   rw [nw_val hv] at hn
   obtain ⟨ρ',a1,a2,a3,a4,a5⟩:=exec_ok hg hv hb r ho hg (.refl _) hn rx its R ρ h1 h2 h3
   exact ⟨a4,.inr ⟨hv,a5⟩⟩
theorem wr_ok {st:St} {la b:Nat} {r:AR} (hA:Has st la b r) (ho:AROk r) (hg:GoodN r.nodes) {t:Tr} (hv:VE r.nodes t) (hb:t.bytes≤65536) (hn:nw t≤r.n) :
 WrB r (nw t) (wrV t r).1 (wrV t r).2.2∧(IsEmpty t∧(wrV t r).2.1=.zero∨Val r.nodes t∧WrOk r.nodes t (wrV t r).1 (wrV t r).2.1):=by
 obtain ⟨L2,tx,ver,cs,its,F,keys,rx,ρ,hS,hB⟩:=begin_c (L:=[]) (hA.push rfl).r ho.nb ho.n16 (by have:=ho.nn;have:=ho.n16;omega) hv hb hn
 exact hB.pi.ok ho hg hv hb hn
def textR (N:Nodes) (r:Ro):List UInt8:=if r.at_=0 then [] else textH N r.h r.at_
structure Rt (N:Nodes) (r:Ro) (s:List UInt8):Prop where
 rt:RtOk N r
 tx:textR N r=s
theorem RtOk.ext {N M:Nodes} (hE:Ext N M) {r:Ro} (h:RtOk N r):RtOk M r:=h.imp id fun ⟨h0,x,h1,h2⟩=>⟨h0,x,hE _ _ h1,h2⟩
theorem Rt.ext {N M:Nodes} (hN:GoodN N) (hE:Ext N M) {r:Ro} {s:List UInt8} (h:Rt N r s):Rt M r s:=by
 refine ⟨h.rt.ext hE,?_⟩
 rw [← h.tx]
 unfold textR
 split
 ·rfl
 ·rename_i q
  rcases h.rt with e|⟨_,x,h1,_,h2,_⟩
  ·rw [e] at q;exact absurd rfl q
  ·exact textH_ext hN hE _ _ x h1 h2
theorem Rt.zero (N:Nodes):Rt N .zero []:=⟨.inl rfl,rfl⟩
theorem Rt.m {N:Nodes} (hN:GoodN N) {r:Ro} {s:List UInt8} (h:Rt N r s):r.m=meaT s:=by
 obtain ⟨h,rfl⟩:=h
 unfold textR
 rcases h with rfl|⟨h0,x,h1,h2,h3,h4⟩
 ·rfl
 ·rw [if_neg h0,textH_mea hN _ _ x h1 h3,h4]
theorem Rt.wr {r:AR} (ho:AROk r) {N:Nodes} {t:Tr} {ro:Ro} (h:WrOk N t r ro):Rt r.nodes ro (t.txt N):=by
 obtain ⟨y,h1,h2,h3,h4⟩:=h.live
 have h0:=(ho.hnd h1).2
 refine ⟨.inr ⟨h0,y,h1,h2,by rw [h3,h.rh],by rw [h4,h.rm]⟩,?_⟩
 unfold textR
 rw [if_neg h0,h.rh,h.txt]
theorem Rt.keep {N:Nodes} {r:Ro} {s:List UInt8} (h:Rt N r s):VE N (keepT r)∧(keepT r).txt N=s:=by
 obtain ⟨h,rfl⟩:=h
 unfold textR keepT
 rcases h with rfl|⟨h0,x,h1,h2,h3,h4⟩
 ·rw [if_pos (by rfl),if_pos (by rfl)];exact ⟨.inl zero_empty,rfl⟩
 ·rw [if_neg h0,if_neg h0]
  exact ⟨.inr (.kept h0 h1 h2 h3 h4 rfl),by rw [Tr.keep,Tr.txt,if_neg h0];simp [Tr.txtO]⟩
theorem Rt.b {N:Nodes} (hN:GoodN N) {r:Ro} {s:List UInt8} (h:Rt N r s):(keepT r).bytes=s.length∧r.m.b=s.length:=by
 have h1:=h.keep
 have h2:=h1.1.len hN
 rw [h1.2] at h2
 exact ⟨h2.symm,by rw [h.m hN];rfl⟩
theorem wr_rt {st:St} {la b:Nat} {r:AR} (hA:Has st la b r) (ho:AROk r) (hg:GoodN r.nodes) {t:Tr} (hv:VE r.nodes t) (hb:t.bytes≤65536) (hn:nw t≤r.n) :
 WrB r (nw t) (wrV t r).1 (wrV t r).2.2∧Rt (wrV t r).1.nodes (wrV t r).2.1 (t.txt r.nodes):=by
 obtain ⟨h1,h2⟩:=wr_ok hA ho hg hv hb hn
 refine ⟨h1,?_⟩
 rcases h2 with ⟨he,h2⟩|⟨hv,h2⟩
 ·rw [h2,he.txt];exact .zero _
 ·exact .wr h1.ok h2
theorem leavesOf_append (N:Nodes) (v w:List Nat):leavesOf N (v++w)=leavesOf N v++leavesOf N w:=by unfold leavesOf;rw [List.filterMap_append]
theorem leaves_flat {N:Nodes} (hN:GoodN N):∀ n o x,lk N o=some x→x.h=n→(leavesOf N (preH N n o)).flatten=textH N n o:=by
 intro n
 induction n with
 | zero =>
  intro o x hx hh
  rw [preH,textH,hx]
  simp [leavesOf,ndAt_of hx,hh]
 | succ n ih =>
  intro o x hx hh
  rw [preH,textH,hx,ndAt_of hx]
  have h0:leavesOf N [o]=[]:=by simp [leavesOf,ndAt_of hx];omega
  have e:=leavesOf_append N [o] (x.ks.flatMap fun k=>preH N n k.at_)
  rw [h0] at e
  simp only [Option.map_some,Option.getD_some]
  rw [show (o::x.ks.flatMap fun k=>preH N n k.at_)=[o]++x.ks.flatMap fun k=>preH N n k.at_ from rfl,e,List.nil_append]
  have hk:=(hN o x hx).2
  have key:∀ l:List Kid,(∀ k∈l,k∈x.ks)→(leavesOf N (l.flatMap fun k=>preH N n k.at_)).flatten=l.flatMap fun k=>textH N n k.at_:=by
   intro l
   induction l with
   | nil=>intro _;rfl
   | cons k l ih2 =>
    intro h
    obtain ⟨_,y,y1,y2,_⟩:=hk k (h k (by simp))
    rw [List.flatMap_cons,List.flatMap_cons,leavesOf_append,List.flatten_append,ih k.at_ y y1 (by omega),ih2 (fun q hq=>h q (by simp [hq]))]
  exact key _ fun _ h=>h
theorem Rt.leaves {N:Nodes} (hN:GoodN N) {r:Ro} {s:List UInt8} (h:Rt N r s):(leavesOf N (nodesR N r)).flatten=s:=by
 obtain ⟨h,rfl⟩:=h
 unfold textR nodesR
 split
 ·rfl
 ·rename_i q
  rcases h with rfl|⟨_,x,h1,_,h2,_⟩
  ·exact absurd rfl q
  ·exact leaves_flat hN _ _ x h1 h2
end Go.Q15
namespace Go.Q15
open Go Go.QAbs
set_option maxRecDepth 100000
set_option maxHeartbeats 8000000
theorem has_cur (A:List (Bool × List Blk)) (L0 T:List Blk) (r:AR):Has ⟨A,false,L0++(arB A.length L0.length r++T)⟩ A.length L0.length r:=by
 have h:∀ i b,(arB A.length L0.length r++T)[i]?=some b→vis (some b)=some b→St.get ⟨A,false,L0++(arB A.length L0.length r++T)⟩ A.length (L0.length+i)=some b:=by
  intro i b hb hv
  rw [St.get_cur,get_app,hb,hv]
 exact ⟨by simp [St.wr],h 0 _ rfl rfl,h 1 _ rfl rfl,h 2 _ rfl rfl,h 3 _ rfl rfl,h 4 _ rfl rfl,h 5 _ rfl rfl⟩
theorem arSt_cur (A:List (Bool × List Blk)) (L0 T:List Blk) (r r':AR):arSt ⟨A,false,L0++(arB A.length L0.length r++T)⟩ A.length L0.length r'=⟨A,false,L0++(arB A.length L0.length r'++T)⟩:=by
 have h:∀ (X:List Blk) (i:Nat) (b:Blk),St.upd ⟨A,false,L0++X⟩ A.length (L0.length+i) b=⟨A,false,L0++X.set i b⟩:=fun X i b=>by
  unfold St.upd
  simp only [if_true,set_app]
 have h0:∀ (X:List Blk) (b:Blk),St.upd ⟨A,false,L0++X⟩ A.length L0.length b=⟨A,false,L0++X.set 0 b⟩:=fun X b=>h X 0 b
 simp only [arSt,arK,arB,putC,h,h0]
 rfl
theorem end_ro {e:Env} {A:List (Bool × List Blk)} {st:St} {L:List Blk} {x:Ex} {c4 c5 j4 w4 v4:Nat} {ro:Ro} {z:Int} (hA:A=st.A++[(st.ro,st.L)]) (hx:x=.norm∨x=.ret) (h4:lookO e c4=some (.ptr A.length j4 v4 0 0)) (hg4:L[j4]?=some (.arr w4 v4 [ro.av]))
 (h6:lookO e c5=some (.int .i64 z)):endK false [.c c4 true 5,.s c5] (x,e,⟨A,false,L⟩)=some (.tup [ro.av,.int .i64 z],st):=by
 refine end_of (v:=.tup [ro.av,.int .i64 z]) hA hx ?_ (L':=L) rfl rfl
 have h1:resV ⟨A,false,L⟩ e (.c c4 true 5)=some ro.av:=by
  simp only [resV,lookO_some h4,loadP,St.get_cur,hg4,vis,loadB,if_true,List.getElem?_cons_zero,Option.bind_some]
  rfl
 simp only [result,resL,h1,Option.bind_some]
 simp only [resV,lookO_some h6,Option.bind_some,Option.map_some,tupOf]
theorem rtNew_c {st:St} {la b:Nat} {r:AR} (hA:Has st la b r) (ho:AROk r) (hg:GoodN r.nodes) (s:List UInt8) (hs:s.length≤65536) (hn:nw (buildM s)≤r.n) :
 S Tb F_rope_New [.ptr la (b+5) 0 0 0,.str s] st=some (.tup [(wrV (buildM s) r).2.1.av,.int .i64 0],arSt st la b (wrV (buildM s) r).1):=by
 obtain ⟨b1,b2,b3⟩:=buildM_ok hg hs
 refine s_ofW rfl (fun A hA'=>?_)
 have hB:=fun L=>Build_c hg s hs ⟨A,false,L⟩
 have hle:=hA.le
 have hW:=fun L=>Write_c (st:=⟨A,false,L⟩) (hA.push hA') ho hg b1 (by rw [b3];omega) hn
 simp only [arSt_push hA' hle] at hW
 generalize (wrV (buildM s) r).1=r' at *
 generalize (wrV (buildM s) r).2.1=ro at *
 repeat' (first|refine ru_seq ?_|refine ru_reg ?_|refine is_mv rfl ?_|refine is_ext rfl rfl ?_|refine is_nil rfl ?_|refine rk_seq ?_|(refine is_neq rfl rfl (fun _=>?_) (fun _=>?_)<;>try (exfalso;omega))|refine ru_iteF rfl ?_|refine is_eqs rfl rfl rfl rfl ?_|refine is_box rfl rfl rfl ?_|refine is_ldc rfl rfl rfl (tr_part _) ?_|refine is_stb rfl rfl rfl (tr_seal _ _ _) (tr_put _ _) rfl ?_|refine is_callE rfl rfl (by first|rfl|(simp only [List.nil_append,List.append_nil,List.cons_append,weaks,tr_weak,forceL];first|done|rfl)) (hB _) ?_|refine ru_skip ?_)
 all_goals try contradiction
 all_goals try (exfalso;omega)
 obtain ⟨A2,hA2⟩:∃ A2,A2=(arSt st la b r').ps:=⟨_,rfl⟩
 simp only [← hA2] at hW
 have hAl:A.length=A2.length:=by rw [hA',hA2];simp [St.ps,arSt_A]
 refine is_callE rfl rfl (wkPT0 rfl _) (hW _) ?_
 rw [hAl]
 repeat' (first|refine is_stn rfl rfl rfl rfl rfl rfl ?_|refine is_ldc rfl rfl rfl rfl ?_|refine ru_seq ?_|refine ru_reg ?_|refine is_mv rfl ?_|refine is_ext rfl rfl ?_|refine is_nil rfl ?_|refine rk_seq ?_|refine is_box rfl rfl rfl ?_|refine ru_ret ?_|refine rk_nil ?_)
 exact end_ro hA2 (.inr rfl) rfl rfl rfl
end Go.Q15
namespace Go.Q15
open Go Go.QAbs
set_option maxRecDepth 100000
set_option maxHeartbeats 8000000
theorem newAR_ok (n g:Nat) (hn:n≤16384) (hg:1≤g∧g≤4294967295):AROk (newAR n g):=by
 have hb:∀ i,i<n→(newAR n g).blk[i]?=some ((n:Int)-1-i):=fun i hi=>by simp [newAR,hi]
 refine ⟨by simp [newAR],by simp [newAR];exact hn,by simp [newAR],by simp [newAR],fun i hi=>⟨n-1-i,?_,?_,?_⟩,fun i j hi hj q=>?_,fun s hs=>⟨1,?_,by omega,?_⟩,?_,fun h x hx=>?_,?_,?_,?_⟩
 ·have hi':i<n:=hi
  rw [hb i hi'];congr 1
  show (n:Int)-1-i=((n-1-i:Nat):Int)
  omega
 ·have hi':i<n:=hi
  show n-1-i<(List.replicate n (0:Int)).length
  rw [List.length_replicate];omega
 ·have hi':i<n:=hi
  show (List.replicate n (0:Int))[n-1-i]?=some 0
  rw [List.getElem?_replicate,if_pos (by omega)]
 ·have hi':i<n:=hi
  have hj':j<n:=hj
  rw [hb i hi',hb j hj'] at q
  have:=Option.some.inj q
  omega
 ·have hs':s<n:=by simpa [newAR] using hs
  simp [newAR,hs']
 ·show ((1:Nat):Int)≤(g:Int);omega
 ·show (g:Int)≤_;omega
 ·simp [newAR,lk] at hx
 ·simp [newAR]
 ·simp [newAR]
 ·simp [newAR];omega
noncomputable def laidF (p:AR × List Ro) (s:List UInt8):AR × List Ro:=((wrV (buildM s) p.1).1,p.2++[(wrV (buildM s) p.1).2.1])
noncomputable def laidV (texts:List (List UInt8)):AR × List Ro:=texts.foldl laidF (newAR 1500 3,[])
theorem laidV_snoc (l:List (List UInt8)) (s:List UInt8):laidV (l++[s])=laidF (laidV l) s:=by unfold laidV;rw [List.foldl_append];rfl
def Rts (N:Nodes) (ros:List Ro) (ss:List (List UInt8)):Prop:=ros.length=ss.length∧∀ (i:Nat) (ro:Ro) (s:List UInt8),ros[i]?=some ro→ss[i]?=some s→Rt N ro s
theorem Rts.ext {N M:Nodes} (hN:GoodN N) (hE:Ext N M) {ros:List Ro} {ss:List (List UInt8)} (h:Rts N ros ss):Rts M ros ss:=⟨h.1,fun i ro s h1 h2=>(h.2 i ro s h1 h2).ext hN hE⟩
theorem Rts.snoc {N:Nodes} {ros:List Ro} {ss:List (List UInt8)} (h:Rts N ros ss) {ro:Ro} {s:List UInt8} (g:Rt N ro s):Rts N (ros++[ro]) (ss++[s]):=by
 refine ⟨by simp [h.1],fun i r t h1 h2=>?_⟩
 rcases Nat.lt_or_ge i ros.length with q|q
 ·rw [List.getElem?_append_left q] at h1
  rw [List.getElem?_append_left (by rw [← h.1];exact q)] at h2
  exact h.2 i r t h1 h2
 ·rw [List.getElem?_append_right q] at h1
  rw [List.getElem?_append_right (by rw [← h.1];exact q)] at h2
  rw [← h.1] at h2
  match hk:i-ros.length with
  | 0=>rw [hk] at h1 h2;obtain rfl:=Option.some.inj h1;obtain rfl:=Option.some.inj h2;exact g
  | n+1=>rw [hk] at h1;simp at h1
structure LaidOk (texts:List (List UInt8)) (p:AR × List Ro):Prop where
 ok:AROk p.1
 good:GoodN p.1.nodes
 rts:Rts p.1.nodes p.2 texts
 room:1500≤p.1.n+texts.flatten.length
theorem laidF_ok {l:List (List UInt8)} {p:AR × List Ro} {s:List UInt8} (h:LaidOk l p) (hl:(l++[s]).flatten.length≤900):nw (buildM s)≤p.1.n∧LaidOk (l++[s]) (laidF p s):=by
 have hfl:(l++[s]).flatten.length=l.flatten.length+s.length:=by simp
 have hr:=h.room
 have hs:s.length≤65536:=by omega
 obtain ⟨b1,b2,b3⟩:=buildM_ok h.good hs
 have hw:=nw_le h.good b1
 rw [b3] at hw
 have hn:nw (buildM s)≤p.1.n:=by omega
 obtain ⟨w1,w2⟩:=wr_rt (has_cur [] [] [] p.1) h.ok h.good b1 (by rw [b3];omega) hn
 rw [b2] at w2
 refine ⟨hn,w1.ok,w1.good,(h.rts.ext h.good w1.ext).snoc w2,?_⟩
 have:=w1.n
 show 1500≤(wrV (buildM s) p.1).1.n+_
 omega
theorem laidV_ok (texts:List (List UInt8)) (hl:texts.flatten.length≤900):∀ i,i≤texts.length→LaidOk (texts.take i) (laidV (texts.take i)):=by
 intro i
 induction i with
 | zero=>intro _;exact ⟨newAR_ok 1500 3 (by omega) (by omega),good_nil,⟨rfl,fun i ro s h=>by simp [laidV] at h⟩,by simp [laidV,newAR]⟩
 | succ i ih =>
  intro hi
  obtain ⟨s,hs⟩:∃ s,texts[i]?=some s:=⟨texts[i]'(by omega),by simp [show i<texts.length by omega]⟩
  rw [take_succ_get hs,laidV_snoc]
  refine (laidF_ok (ih (by omega)) ?_).2
  rw [← take_succ_get hs]
  have:=flat_le texts (i+1)
  omega
def boxesR (l:List Ro):List Blk:=l.map fun r=>Blk.arr 5 0 [r.av]
theorem laid_c (texts:List (List UInt8)) (hl:texts.flatten.length≤900) (h4:texts.length≤4) (A:List (Bool × List Blk)) (L0:List Blk) :
 S Tb F_quartolaw16_laid [.lit (texts.map .str)] ⟨A,false,L0⟩=some (.tup [.ptr A.length (L0.length+5) 0 0 0,.ref A.length (L0.length+6) texts.length 0 texts.length,.bool true],⟨A,false,L0++(arB A.length L0.length (laidV texts).1++(.arr 5 texts.length ((laidV texts).2.map Ro.av)::boxesR (laidV texts).2))⟩):=by
 refine s_keep rfl ?_
 have hN:=arNew_c 1500 3 (by omega) (by omega) A L0
 repeat' (first|refine is_onilG ?_|refine ru_seq ?_|refine ru_reg ?_|refine is_mv rfl ?_|refine is_gT rfl ?_|refine is_pick rfl rfl rfl rfl ?_|refine is_ext rfl rfl ?_|refine is_nil rfl ?_|refine rk_seq ?_|(refine is_neq rfl rfl (fun _=>?_) (fun _=>?_)<;>try (exfalso;omega))|refine ru_iteF rfl ?_|refine is_eqs rfl rfl rfl rfl ?_|refine is_callE rfl rfl rfl (hN) ?_|refine ru_skip ?_|refine ru_block ?_)
 all_goals try contradiction
 have e7:(L0++[(newAR 1500 3).b0,(newAR 1500 3).b1,(newAR 1500 3).b2,(newAR 1500 3).b3 A.length L0.length,(newAR 1500 3).b4,(newAR 1500 3).b5 A.length L0.length]).length=L0.length+6:=by simp
 rw [e7]
 refine ru_loopP (α:=Nat) (fun i=>[(0,.lit (texts.map .str)),(5,.ptr A.length (L0.length+5) 0 0 0),(7,.ref A.length (L0.length+6) i 0 i),(8,.int .i64 i)])
  (fun i=>⟨A,false,L0++(arB A.length L0.length (laidV (texts.take i)).1++(.arr 5 i ((laidV (texts.take i)).2.map Ro.av)::boxesR (laidV (texts.take i)).2))⟩) (fun i=>i≤texts.length) (fun i=>texts.length-i) 0 rfl ?_ (by simp) ?_
 ·rw [List.append_assoc];rfl
 rintro i hi
 have hok:=laidV_ok texts hl i hi
 rcases Nat.lt_or_ge i texts.length with hlt|hge
 ·obtain ⟨s,hs⟩:∃ s,texts[i]?=some s:=⟨texts[i]'(by omega),by simp [show i<texts.length by omega]⟩
  have hfl:=flat_le texts (i+1)
  have htk:(texts.take i++[s]).flatten.length≤900:=by rw [← take_succ_get hs];omega
  obtain ⟨hn,hok2⟩:=laidF_ok hok htk
  have h1:=rtNew_c (has_cur A L0 (.arr 5 i ((laidV (texts.take i)).2.map Ro.av)::boxesR (laidV (texts.take i)).2) (laidV (texts.take i)).1) hok.ok hok.good s (by simp at htk;omega) hn
  rw [arSt_cur] at h1
  have hV:laidV (texts.take (i+1))=laidF (laidV (texts.take i)) s:=by rw [take_succ_get hs,laidV_snoc]
  unfold laidF at hV
  have hri:=hok.rts.1
  rw [List.length_take,Nat.min_eq_left hi] at hri
  generalize laidV (texts.take i)=V at *
  generalize wrV (buildM s) V.1=W at *
  have hx:0≤((i:Nat):Int)∧texts[((i:Nat):Int).toNat]?=some s:=⟨by omega,by rw [show ((i:Nat):Int).toNat=i by omega];exact hs⟩
  obtain ⟨L1,hL1⟩:∃ L1,L1=L0++(arB A.length L0.length W.1++Blk.arr 5 i (List.map Ro.av V.2)::boxesR V.2):=⟨_,rfl⟩
  rw [← hL1] at h1
  have g6:L1[L0.length+6]?=some (.arr 5 i (V.2.map Ro.av)):=by rw [hL1,get_app];rfl
  repeat' (first|refine is_ixKn rfl rfl hx (fun _=>rfl) ?_|refine ru_seq ?_|refine ru_reg ?_|refine is_mv rfl ?_|refine is_ext rfl rfl ?_|refine is_nil rfl ?_|refine rk_seq ?_|refine is_lenM rfl ?_|refine is_ldT rfl rfl rfl ?_|refine is_ldl rfl rfl ?_|(refine is_lss rfl rfl (fun _=>?_) (fun _=>?_)<;>try (exfalso;omega))|(refine is_neq rfl rfl (fun _=>?_) (fun _=>?_)<;>try (exfalso;omega))|refine ru_iteT rfl ?_|refine ru_iteF rfl ?_|refine is_boxG rfl rfl rfl ?_|refine is_stT rfl rfl rfl rfl rfl rfl ?_|refine is_bslFO rfl rfl rfl rfl ?_|refine is_callE rfl rfl rfl (h1) ?_|refine ru_skip ?_|refine ru_block ?_)
  all_goals try contradiction
  all_goals try (exfalso;omega)
  have h6l:L0.length+6<L1.length:=(List.getElem?_eq_some_iff.1 g6).1
  refine is_appG (es:=V.2.map Ro.av) (ys:=[W.2.1.av]) rfl rfl (get_left g6) (by rw [List.length_map];omega) rfl rfl (by rw [List.length_map,List.length_singleton];omega) (by decide) ?_
  repeat' (first|refine ru_reg ?_|refine is_mv rfl ?_|refine is_nil rfl ?_|refine rk_seq ?_|refine is_addS rfl rfl (by omega) ?_|refine rk_blk ?_|refine rk_inv ?_)
  refine ⟨i+1,⟨rfl,?_⟩,by omega,by omega⟩
  simp only [hV]
  rw [hL1,List.append_assoc,set_app]
  have e8:((V.2++[W.2.1]).map Ro.av)=V.2.map Ro.av++[W.2.1.av]:=by rw [List.map_append];rfl
  have e9:boxesR (V.2++[W.2.1])=boxesR V.2++[.arr 5 0 [W.2.1.av]]:=by unfold boxesR;rw [List.map_append];rfl
  rw [e8,e9]
  rfl
 ·obtain rfl:i=texts.length:=by omega
  rw [List.take_length]
  repeat' (first|refine ru_seq ?_|refine ru_reg ?_|refine is_mv rfl ?_|refine is_nil rfl ?_|refine rk_seq ?_|refine is_lenM rfl ?_|(refine is_lss rfl rfl (fun _=>?_) (fun _=>?_)<;>try (exfalso;omega))|refine ru_iteF rfl ?_|refine ru_ret ?_|refine ru_exit ?_|refine rk_nil ?_|refine rk_seq_ex ?_|refine rk_blk_eq rfl ?_|refine rk_inv_ex ?_)
  refine (end_keep (.inr rfl) rfl rfl rfl rfl).trans ?_
  rfl
end Go.Q15
namespace Go.Q15
open Go Go.QAbs
set_option maxRecDepth 100000
set_option maxHeartbeats 8000000
def pickM (x n:Int):Int:=(x % 18446744073709551616) % (n+1)
theorem pickM_bounds {x n:Int} (h:0≤n):0≤pickM x n∧pickM x n≤n:=by
 unfold pickM
 have:=Int.emod_nonneg (x % 18446744073709551616) (show n+1≠0 by omega)
 have:=Int.emod_lt_of_pos (x % 18446744073709551616) (show 0<n+1 by omega)
 omega
theorem wrapU (x:Int):IntKind.u64.wrap x=x % 18446744073709551616:=by
 have e1:IntKind.u64.signed=false:=rfl
 have e2:IntKind.u64.bits=64:=rfl
 simp only [IntKind.wrap,e1,e2,Bool.false_and,if_false,Bool.false_eq_true]
 rfl
theorem Copy_c (t:Tr):t.Pos→∀ st,S Tb F_quartoref15_Copy [t.av] st=some (t.own.av,st):=by
 induction t using Tr.ind with
 | step o h m s k ih =>
  intro hp st
  cases hp with
  | mk h0 h4 hk =>
  refine s_of rfl (fun A hA=>?_)
  rw [Tr.av,Tr.avO_sl]
  cases k with
  | none =>
   simp only [slV,Option.getD] at *
   repeat' (first|refine ru_seq ?_|refine ru_reg ?_|refine is_mv rfl ?_|refine is_fadr rfl rfl ?_|refine is_ldc rfl rfl rfl rfl ?_|refine is_nil rfl ?_|refine rk_seq ?_|refine is_lenN rfl ?_|(refine is_lss rfl rfl (fun _=>?_) (fun _=>?_)<;>try (exfalso;omega))|refine ru_iteF rfl ?_|refine is_box rfl rfl rfl ?_|refine is_onil rfl ?_|refine is_stb rfl rfl rfl (seal_refL _ (Nat.lt_succ_self _)) rfl rfl ?_|refine is_stb rfl rfl rfl (seal_trR _ (Nat.lt_succ_self _)) rfl rfl ?_|refine ru_unroll ?_|refine ru_ret ?_|refine ru_exit ?_|refine ru_block ?_|refine rk_nil ?_|refine rk_seq_ex ?_|refine rk_blk_eq rfl ?_)
   refine end_c hA (.inr rfl) rfl rfl rfl (tr_end (l:=[]) rfl rfl) rfl ?_
   rfl
  | some l =>
   have he:Tr.own (.mk o h m s (some l))=.mk o h m s (some (l.map Tr.own)):=by
    rw [Tr.own,Tr.ownO,Tr.ownL_map]
   rw [he]
   simp only [slV,Option.getD] at *
   repeat' (first|refine ru_seq ?_|refine ru_reg ?_|refine is_mv rfl ?_|refine is_nil rfl ?_|refine rk_seq ?_|refine is_box rfl rfl rfl ?_|refine is_onil rfl ?_|refine ru_block ?_)
   refine ru_loopP (α:=Nat) (fun i=>[(1,.ptr A.length 0 0 0 0),(2,.ptr A.length 1 0 0 0),(3,.ref A.length 2 i 0 i),(4,.int .i64 i)])
    (fun i=>⟨A,false,[.arr 7 0 [.agg [.int .u64 o,.int .i64 h,.int .i64 m.b,.int .i64 m.r,.int .i64 m.l,.str s,.lit (l.map Tr.av)]],.arr 7 0 [trZ],.arr 7 i (((l.take i).map Tr.own).map Tr.av)]⟩) (fun i=>i≤l.length) (fun i=>l.length-i) 0 rfl rfl (by simp) ?_
   intro i hi
   repeat' (first|refine ru_seq ?_|refine ru_reg ?_|refine is_mv rfl ?_|refine is_fadr rfl rfl ?_|refine is_ldc rfl rfl rfl rfl ?_|refine is_nil rfl ?_|refine rk_seq ?_|refine is_lenM rfl ?_|(refine is_lss rfl rfl (fun _=>?_) (fun _=>?_)<;>try (exfalso;omega))|refine ru_iteT rfl ?_|refine ru_iteF rfl ?_|refine is_stb rfl rfl rfl (seal_refL _ (Nat.lt_succ_self _)) rfl rfl ?_|refine is_stb rfl rfl rfl (seal_trR _ (Nat.lt_succ_self _)) rfl rfl ?_|refine is_ixM rfl rfl (by omega) tr_wide (fun _ _=>?_)|refine is_ldl rfl (tr_part _) ?_|refine ru_skip ?_|refine ru_ret ?_|refine ru_exit ?_|refine ru_block ?_|refine rk_nil ?_|refine rk_seq_ex ?_|refine rk_blk_eq rfl ?_|refine rk_inv_ex ?_)
   ·rename_i t ht
    have ht2:l[i]?=some t:=ht
    have h5:=ih t (List.mem_of_getElem? ht2) (hk t (List.mem_of_getElem? ht2))
    have hlen:((l.take i).map Tr.own).length=i:=by rw [List.length_map,List.length_take];omega
    repeat' (first|refine ru_reg ?_|refine is_mv rfl ?_|refine is_nil rfl ?_|refine rk_seq ?_|refine is_addS rfl rfl (by omega) ?_|refine is_callE rfl rfl (by first|rfl|(simp only [List.nil_append,List.append_nil,List.cons_append,weaks,tr_weak,forceL];first|done|rfl)) (h5 _) ?_|refine is_bslTr1 rfl ?_|refine is_app1G rfl rfl rfl hlen.symm (by omega) ?_|refine rk_blk ?_|refine rk_inv ?_)
    refine ⟨i+1,⟨rfl,?_⟩,by omega,by omega⟩
    rw [take_succ_get ht2,List.map_append (f:=Tr.own)]
    rfl
   ·have hi':i=l.length:=by omega
    subst hi'
    rw [List.take_length]
    skip
    refine end_c hA (.inr rfl) rfl rfl rfl (tr_end (l:=l.map Tr.own) rfl (by simp)) rfl ?_
    rw [Tr.av,Tr.avO,Tr.avL_map]
end Go.Q15
namespace Go.Q15
open Go Go.QAbs
set_option maxRecDepth 100000
set_option maxHeartbeats 1000000
theorem ownO_getD (k:Option (List Tr)):(Tr.ownO k).getD []=(k.getD []).map Tr.own:=by
 cases k with
 | none=>rfl
 | some l=>simp [Tr.ownO,Tr.ownL_map]
theorem own_h (t:Tr):t.own.h=t.h:=by cases t;rfl
theorem own_bytes (t:Tr):t.own.bytes=t.bytes:=by
 induction t using Tr.ind with
 | step o h m s k ih =>
  rw [Tr.own,Tr.bytes,Tr.bytes,Tr.bytesO_getD,Tr.bytesO_getD,ownO_getD]
  generalize k.getD []=l at ih
  congr 1
  induction l with
  | nil=>rfl
  | cons a l ih2=>rw [List.map_cons,Tr.bytesL,Tr.bytesL,ih a (by simp),ih2 (fun t ht=>ih t (by simp [ht]))]
theorem own_val {N:Nodes} {t:Tr} (hv:Val N t):Val N t.own:=by
 induction hv with
 | kept h0 hx hok hh hm hk =>
  rw [Tr.own]
  exact .kept h0 hx hok hh hm (by rw [ownO_getD,hk];rfl)
 | leaf h1 h2 hk =>
  rw [Tr.own]
  exact .leaf h1 h2 (by rw [ownO_getD,hk];rfl)
 | inner hh h2 h4 hl hb hv ih =>
  rename_i h l
  rw [Tr.own,Tr.ownO,Tr.ownL_map]
  refine .inner hh (by rw [List.length_map];exact h2) (by rw [List.length_map];exact h4) ?_ ?_ ?_
  ·intro t ht
   obtain ⟨u,hu,rfl⟩:=List.mem_map.1 ht
   rw [own_h];exact hl u hu
  ·intro t ht q
   obtain ⟨u,hu,rfl⟩:=List.mem_map.1 ht
   rw [own_bytes];exact hb u hu q
  ·intro t ht
   obtain ⟨u,hu,rfl⟩:=List.mem_map.1 ht
   exact ih u hu
theorem own_ve {N:Nodes} {t:Tr} (h:VE N t):VE N t.own:=by
 rcases h with h|h
 ·obtain ⟨o,h',m,s,k⟩:=t
  obtain ⟨h1,h2,h3,h4,h5⟩:=h
  exact .inl ⟨h1,h2,h3,h4,by show (Tr.ownO k).getD []=[];rw [ownO_getD];simp only [Tr.ks] at h5;rw [h5];rfl⟩
 ·exact .inr (own_val h)
end Go.Q15
namespace Go.Q15
open Go Go.QAbs
set_option maxRecDepth 100000
set_option maxHeartbeats 8000000
theorem pick_c (x n:Int) (h0:0≤n) (h1:n<4611686018427387904) (st:St):S Tb F_quartolaw16_pick [.int .i64 x,.int .i64 n] st=some (.int .i64 (pickM x n),st):=by
 have hp:=pickM_bounds (x:=x) h0
 have hw:IntKind.u64.wrap (n+1)=n+1:=by rw [wrapU];omega
 have hx:=Int.emod_nonneg x (show (18446744073709551616:Int)≠0 by decide)
 have hrem:binV .rem (.int .u64 (IntKind.u64.wrap x)) (.int .u64 (n+1))=some (.int .u64 (pickM x n)):=by
  rw [wrapU]
  show (if n+1=0 then none else some (AV.int .u64 ((x % 18446744073709551616).tmod (n+1))))=_
  rw [if_neg (by omega),Int.tmod_eq_emod_of_nonneg hx];rfl
 refine s_of rfl (fun A hA=>?_)
 repeat' (first|refine ru_seq ?_|refine ru_reg ?_|refine is_mv rfl ?_|refine is_nil rfl ?_|refine rk_seq ?_)
 refine is_cint rfl ?_
 repeat' (first|refine is_mv rfl ?_|refine is_addS rfl rfl (by omega) ?_)
 refine is_cintW rfl hw ?_
 refine is_bin rfl rfl hrem ?_
 refine is_cintW rfl (wrap64 (by omega) (by omega)) ?_
 repeat' (first|refine is_mv rfl ?_|refine is_nil rfl ?_|refine rk_seq ?_|refine ru_ret ?_|refine rk_nil ?_)
 refine end_st hA (by first|exact .inl rfl|exact .inr rfl) rfl rfl rfl rfl ?_
 rfl
structure Ed where
 what:Nat
 n:Int
 at_:Int
 len:Int
 text:List UInt8
def Ed.av (y:Ed):AV:=.agg [.int .u8 y.what,.int .i64 y.n,.int .i64 y.at_,.int .i64 y.len,.str y.text]
def pickR (ros:List Ro) (x:Int):Option Ro:=ros[(pickM x ((ros.length:Int)-1)).toNat]?
noncomputable def planV (N:Nodes) (ros:List Ro) (y:Ed):Tr :=
 match pickR ros y.n with
 | none=>buildM y.text
 | some r=>(replM N (keepT r) (pickM y.at_ r.m.b) (pickM y.len (r.m.b-pickM y.at_ r.m.b)) y.text).own
theorem pickR_lt {ros:List Ro} {x:Int} (h:ros≠[]):∃ r,pickR ros x=some r∧r∈ros∧(pickM x ((ros.length:Int)-1)).toNat<ros.length:=by
 have hl:0<ros.length:=List.length_pos_iff.2 h
 have:=pickM_bounds (x:=x) (n:=(ros.length:Int)-1) (by omega)
 have hlt:(pickM x ((ros.length:Int)-1)).toNat<ros.length:=by omega
 exact ⟨ros[(pickM x ((ros.length:Int)-1)).toNat]'hlt,by unfold pickR;rw [List.getElem?_eq_getElem hlt],List.getElem_mem _,hlt⟩
theorem ro_part (r:Ro):partOf r.av true 0 5=some r.av:=by cases r;rfl
theorem len1L {O:Orc} {k:List Fr} {Q:Post} {e:Env} {st:St} {keep:List Nat} {is:List QAbs.PI} {d:Nat} {α:Type} {f:α→AV} {x:Opd} {l:List α} (hx:opdO e x=some (.lit (l.map f))) (h:Is O is keep k Q ((d,.int .i64 l.length)::e) st):Is O (⟨some d,none,false,.len 1 x⟩::is) keep k Q e st:=by
 refine is_lenL hx ?_
 rw [List.length_map];exact h
theorem wkPTIIS {lv ix:Nat} {t:Tr} {n m:Int} {s:List UInt8}:forceL (weaks ([]++[.ptr lv ix 0 0 0,t.av,.int .i64 n,.int .i64 m,.str s]++[]))=some [.ptr lv ix 0 0 0,t.av,.int .i64 n,.int .i64 m,.str s]:=by
 simp only [List.nil_append,List.append_nil,List.cons_append,weaks,tr_weak,forceL];rfl
structure PlanOk (N:Nodes) (ros:List Ro):Prop where
 rt:∀ r∈ros,RtOk N r∧(keepT r).bytes=r.m.b∧0≤r.m.b∧r.m.b≤60000
 len:ros.length<65536
theorem Rts.plan {N:Nodes} (hN:GoodN N) {ros:List Ro} {ss:List (List UInt8)} (h:Rts N ros ss) (hl:ros.length<65536) (hs:∀ s∈ss,s.length≤60000):PlanOk N ros:=by
 refine ⟨fun r hr=>?_,hl⟩
 obtain ⟨i,hi,rfl⟩:=List.getElem_of_mem hr
 have hi2:i<ss.length:=by rw [← h.1];exact hi
 have g:=h.2 i _ _ (List.getElem?_eq_getElem hi) (List.getElem?_eq_getElem hi2)
 obtain ⟨b1,b2⟩:=g.b hN
 have:=hs _ (List.getElem_mem hi2)
 exact ⟨g.rt,by rw [b1,b2],by omega,by omega⟩
theorem RtOk.keep {N:Nodes} {r:Ro} (h:RtOk N r):VE N (keepT r):=(Rt.keep ⟨h,rfl⟩).1
theorem planV_ok {N:Nodes} (hN:GoodN N) {ros:List Ro} (h:PlanOk N ros) {y:Ed} (hy:y.text.length≤200):VE N (planV N ros y)∧(planV N ros y).bytes≤60200:=by
 unfold planV
 match hq:pickR ros y.n with
 | none =>
  obtain ⟨b1,b2,b3⟩:=buildM_ok hN (s:=y.text) (by omega)
  exact ⟨b1,by show (buildM y.text).bytes≤_;omega⟩
 | some r =>
  obtain ⟨h1,h2,h3,h4⟩:=h.rt r (List.mem_of_getElem? (show ros[_]?=some r from hq))
  have p1:=pickM_bounds (x:=y.at_) h3
  have p2:=pickM_bounds (x:=y.len) (n:=r.m.b-pickM y.at_ r.m.b) (by omega)
  have:=replM_ok hN (s:=y.text) h1.keep (a:=pickM y.at_ r.m.b) (n:=pickM y.len (r.m.b-pickM y.at_ r.m.b)) p1.1 p2.1 (by omega) (by omega) (by omega)
  refine ⟨own_ve this.ve,?_⟩
  show (Tr.own _).bytes≤_
  rw [own_bytes,this.bytes];omega
theorem plans_c {st:St} {la b:Nat} {N:Nodes} (hN:GoodN N) (hR:Rd st la (b+5) N) {kx lv ver:Nat} {ros:List Ro} (hg:st.get lv kx=some (.arr 5 ver (ros.map Ro.av))) (hP:PlanOk N ros) {ys:List Ed} (hyl:ys.length<65536) (hy:∀ y∈ys,y.text.length≤200) :
 S Tb F_quartolaw16_plans [.ptr la (b+5) 0 0 0,.ref lv kx ver 0 ros.length,.lit (ys.map Ed.av)] st=some (.tup [.lit ((ys.map (planV N ros)).map Tr.av),.bool true],st):=by
 refine s_of rfl (fun A hA=>?_)
 have hr:=fun L=>hR.push hA (ro:=false) (L:=L)
 have gr:=fun L=>get_old hA (ro:=false) (L:=L) hg
 have hwi:∀ L,wIs 5 ver (St.get ⟨A,false,L⟩ lv kx)=true:=fun L=>by rw [gr];simp [wIs]
 have hpl:=hP.len
 repeat' (first|refine ru_seq ?_|refine ru_reg ?_|refine is_mv rfl ?_|refine is_nil rfl ?_|refine rk_seq ?_|refine is_onil rfl ?_|refine ru_block ?_)
 refine ru_loopP (α:=Nat × List Blk) (fun q=>[(0,.ptr la (b+5) 0 0 0),(1,.ref lv kx ver 0 ros.length),(2,.lit (ys.map Ed.av)),(8,.ref A.length 0 q.1 0 q.1),(9,.int .i64 q.1)])
  (fun q=>⟨A,false,.arr 7 q.1 (((ys.take q.1).map (planV N ros)).map Tr.av)::q.2⟩) (fun q=>q.1≤ys.length) (fun q=>ys.length-q.1) (0,[]) rfl rfl (Nat.zero_le _) ?_
 rintro ⟨i,G⟩ hi
 simp only at hi ⊢
 rcases Nat.lt_or_ge i ys.length with hlt|hge
 ·obtain ⟨y,hyi⟩:∃ y,ys[i]?=some y:=⟨ys[i]'(by omega),by simp [hlt]⟩
  have hy1:=hy y (List.mem_of_getElem? hyi)
  have hx:0≤((i:Nat):Int)∧ys[((i:Nat):Int).toNat]?=some y:=⟨by omega,by rw [show ((i:Nat):Int).toNat=i by omega];exact hyi⟩
  have hes:(((ys.take i).map (planV N ros)).map Tr.av).length=i:=by simp;omega
  have hfin:∀ c,planV N ros y=c→((ys.take (i+1)).map (planV N ros)).map Tr.av=((ys.take i).map (planV N ros)).map Tr.av++[c.av]:=fun c hc=>by
   rw [take_succ_get hyi,List.map_append,List.map_append,← hc];rfl
  generalize hES:((ys.take i).map (planV N ros)).map Tr.av=es at *
  have e0:(⟨A,false,.arr 7 i es::G⟩:St)=⟨A,false,(.arr 7 i es::G)++[]⟩:=by rw [List.append_nil]
  rw [e0]
  by_cases hros:ros=[]
  ·have hc:=hfin (buildM y.text) (by unfold planV;rw [show pickR ros y.n=none by subst hros;rfl])
   have h0:(ros.length:Int)=0:=by rw [hros];rfl
   have hBu:=fun st=>Build_c hN y.text (by omega) st
   generalize buildM y.text=c at *
   repeat' (first|refine len1L rfl ?_|refine is_lenR rfl ?_|refine is_ixKn rfl rfl hx (fun _=>rfl) ?_|refine is_boxA rfl rfl rfl rfl rfl ?_|refine is_ldA rfl rfl rfl (tr_part _) ?_|refine is_stA rfl rfl rfl rfl (tr_seal _ _ _) (tr_put _ _) rfl ?_|refine is_bslTr1 rfl ?_|refine ru_seq ?_|refine ru_reg ?_|refine is_mv rfl ?_|refine is_fadr rfl rfl ?_|refine is_ext rfl rfl ?_|refine is_nil rfl ?_|refine rk_seq ?_|refine is_ldl rfl rfl ?_|(refine is_lss rfl rfl (fun _=>?_) (fun _=>?_)<;>try (exfalso;omega))|(refine is_eql rfl rfl (fun _=>?_) (fun _=>?_)<;>try (exfalso;omega))|(refine is_neq rfl rfl (fun _=>?_) (fun _=>?_)<;>try (exfalso;omega))|refine ru_iteT rfl ?_|refine ru_iteF rfl ?_|refine is_callE rfl rfl (by first|rfl|(simp only [List.nil_append,List.append_nil,List.cons_append,weaks,tr_weak,forceL];first|done|rfl)) (hBu _) ?_|refine ru_skip ?_|refine ru_block ?_)
   all_goals try contradiction
   all_goals try (exfalso;omega)
   refine is_appG (es:=es) (ys:=[c].map Tr.av) rfl rfl rfl hes.symm (trs_wide _) (trs_seal _ _ _) (by rw [hes,List.length_map,List.length_singleton];omega) (by decide) ?_
   repeat' (first|refine ru_reg ?_|refine is_mv rfl ?_|refine is_nil rfl ?_|refine rk_seq ?_|refine is_addS rfl rfl (by omega) ?_|refine ru_exit ?_|refine rk_seq_ex ?_|refine rk_blk_eq rfl ?_|refine rk_inv ?_)
   refine ⟨(i+1,G++[.arr 7 0 [c.av]]),⟨rfl,?_⟩,by simp only;omega,by simp only;omega⟩
   simp only [hc]
   rfl
  ·obtain ⟨r,hr1,hr2,hr3⟩:=pickR_lt (x:=y.n) hros
   have hc:=hfin (replM N (keepT r) (pickM y.at_ r.m.b) (pickM y.len (r.m.b-pickM y.at_ r.m.b)) y.text).own (by unfold planV;rw [hr1])
   obtain ⟨h1,h2,h3,h4⟩:=hP.rt r hr2
   have hl0:0<ros.length:=List.length_pos_iff.2 hros
   have pn:=pickM_bounds (x:=y.n) (n:=(ros.length:Int)-1) (by omega)
   have p1:=pickM_bounds (x:=y.at_) h3
   have p2:=pickM_bounds (x:=y.len) (n:=r.m.b-pickM y.at_ r.m.b) (by omega)
   have hN1:=fun st=>pick_c y.n ((ros.length:Int)-1) (by omega) (by omega) st
   have hN2:=fun st=>pick_c y.at_ r.m.b (by omega) (by omega) st
   have hN3:=fun st=>pick_c y.len (r.m.b-pickM y.at_ r.m.b) (by omega) (by omega) st
   have hK:=fun L=>Keep_rt (hr L) h1
   have hRe:=fun L=>Replace_c hN (hr L) (s:=y.text) h1.keep (a:=pickM y.at_ r.m.b) (n:=pickM y.len (r.m.b-pickM y.at_ r.m.b)) p1.1 p2.1 (by omega) (by omega) (by omega)
   have gr2:(ros.map Ro.av)[0+(pickM y.n ((ros.length:Int)-1)).toNat]?=some r.av:=by
    rw [Nat.zero_add,List.getElem?_map,show ros[(pickM y.n ((ros.length:Int)-1)).toNat]?=some r from hr1];rfl
   generalize (replM N (keepT r) (pickM y.at_ r.m.b) (pickM y.len (r.m.b-pickM y.at_ r.m.b)) y.text).own=c at *
   generalize keepT r=kt at *
   repeat' (first|refine len1L rfl ?_|refine is_lenR rfl ?_|refine is_ixKn rfl rfl hx (fun _=>rfl) ?_|refine is_ixR rfl rfl (by omega) (hwi _) ?_|refine is_ld rfl (gr _) gr2 (ro_part _) ?_|refine is_boxA rfl rfl rfl rfl rfl ?_|refine is_ldA rfl rfl rfl rfl ?_|refine is_ldA rfl rfl rfl (tr_part _) ?_|refine is_stA rfl rfl rfl rfl (tr_seal _ _ _) (tr_put _ _) rfl ?_|refine is_stA rfl rfl rfl rfl rfl rfl rfl ?_|refine is_bslTr1 rfl ?_|refine ru_seq ?_|refine ru_reg ?_|refine is_mv rfl ?_|refine is_fadr rfl rfl ?_|refine is_ext rfl rfl ?_|refine is_nil rfl ?_|refine rk_seq ?_|refine is_ldl rfl rfl ?_|(refine is_lss rfl rfl (fun _=>?_) (fun _=>?_)<;>try (exfalso;omega))|(refine is_eql rfl rfl (fun _=>?_) (fun _=>?_)<;>try (exfalso;omega))|(refine is_neq rfl rfl (fun _=>?_) (fun _=>?_)<;>try (exfalso;omega))|refine ru_iteT rfl ?_|refine ru_iteF rfl ?_|refine is_subS rfl rfl (by omega) ?_|refine is_callE rfl rfl (by first|rfl|(simp only [List.nil_append,List.append_nil,List.cons_append,weaks,tr_weak,forceL];first|done|rfl)) (hN1 _) ?_|refine is_callE rfl rfl (by first|rfl|(simp only [List.nil_append,List.append_nil,List.cons_append,weaks,tr_weak,forceL];first|done|rfl)) (hN2 _) ?_|refine is_callP rfl rfl rfl (hN3 _) ?_|refine is_callE rfl rfl (by first|rfl|(simp only [List.nil_append,List.append_nil,List.cons_append,weaks,tr_weak,forceL];first|done|rfl)) (hK _) ?_|refine is_callE rfl rfl wkPTIIS (hRe _) ?_|refine ru_skip ?_|refine ru_block ?_)
   all_goals try contradiction
   all_goals try (exfalso;omega)
   refine is_appG (es:=es) (ys:=[c].map Tr.av) rfl rfl rfl hes.symm (trs_wide _) (trs_seal _ _ _) (by rw [hes,List.length_map,List.length_singleton];omega) (by decide) ?_
   repeat' (first|refine ru_reg ?_|refine is_mv rfl ?_|refine is_nil rfl ?_|refine rk_seq ?_|refine is_addS rfl rfl (by omega) ?_|refine rk_blk ?_|refine rk_inv ?_)
   refine ⟨(i+1,G++[.arr 5 0 [r.av],.arr 7 0 [c.av]]),⟨rfl,?_⟩,by simp only;omega,by simp only;omega⟩
   simp only [hc]
   rfl
 ·obtain rfl:i=ys.length:=by omega
  rw [List.take_length]
  repeat' (first|refine len1L rfl ?_|refine ru_seq ?_|refine ru_reg ?_|refine is_mv rfl ?_|refine is_nil rfl ?_|refine rk_seq ?_|(refine is_lss rfl rfl (fun _=>?_) (fun _=>?_)<;>try (exfalso;omega))|refine ru_iteF rfl ?_|refine ru_ret ?_|refine ru_exit ?_|refine rk_nil ?_|refine rk_seq_ex ?_|refine rk_blk_eq rfl ?_|refine rk_inv_ex ?_)
  all_goals try (exfalso;omega)
  exact end_ref1 hA (.inr rfl) rfl rfl (by simp) (fun v hv=>by obtain ⟨x,_,rfl⟩:=List.mem_map.1 hv;exact tr_imm 2 x) rfl rfl
end Go.Q15
namespace Go.Q15
open Go Go.QAbs
set_option maxRecDepth 100000
def mkEd (q:Nat × Int × Int × Int × List UInt8):Ed:=⟨q.1,q.2.1,q.2.2.1,q.2.2.2.1,q.2.2.2.2⟩
theorem run_to {T:Tab} {f:FuncId} (hc:∀ (texts:List (List UInt8)) (ys:List Ed),texts.length<9223372036854775808→(∀ s∈texts,s.length<9223372036854775808)→ys.length<9223372036854775808→(∀ y∈ys,y.text.length<9223372036854775808)→∀ st,S T f [.lit (texts.map .str),.lit (ys.map Ed.av)] st=some (.bool true,st))
 (ss:List (List UInt8)) (l:List (Nat × Int × Int × Int × List UInt8)) (h1:∀ s∈ss,s.length≤maxLen) (h2:ss.length≤maxLen) (h3:∀ s∈l,s.2.2.2.2.length≤maxLen) (h4:l.length≤maxLen) :
 ∃ st',S T f [.lit (ss.map .str),.lit (l.map fun q=>.agg [.int .u8 q.1,.int .i64 q.2.1,.int .i64 q.2.2.1,.int .i64 q.2.2.2.1,.str q.2.2.2.2])] .empty=some (.bool true,st'):=by
 have hm:maxLen<9223372036854775808:=by decide +kernel
 have:=hc ss (l.map mkEd) (by omega) (fun s hs=>by have:=h1 s hs;omega) (by rw [List.length_map];omega) (fun s hs=>by obtain ⟨q,hq,rfl⟩:=List.mem_map.1 hs;have:=h3 q hq;simp only [mkEd];omega) .empty
 rw [List.map_map] at this
 exact ⟨_,this⟩
end Go.Q15
namespace Go.Q15
open Go Go.QAbs
set_option maxRecDepth 100000
set_option maxHeartbeats 8000000
end Go.Q15
namespace Go.Q15
open Go Go.QAbs
set_option maxRecDepth 100000
set_option maxHeartbeats 8000000
def liveP (r:AR) (o:Nat):Prop:=handleP o∧r.states[o % 65536]?=some 1∧r.gens[o % 65536]?=some ((o / 65536:Nat):Int)
instance (r:AR) (o:Nat):Decidable (liveP r o):=by unfold liveP;exact inferInstance
theorem AROk.live {r:AR} (h:AROk r) {o:Nat} {x:Nd} (hx:lk r.nodes o=some x):liveP r o∧o<18446744073709551616:=by
 obtain ⟨s,g,k1,k2,k3,k4⟩:=h.key o x hx
 obtain ⟨h1,h2⟩:=h.hnd hx
 have:=h.n16
 have hm:o % 65536=s:=by omega
 have hd:o / 65536=g:=by omega
 unfold liveP
 rw [hm,hd]
 refine ⟨⟨h1,k3,k4⟩,?_⟩
 unfold handleP at h1
 omega
end Go.Q15
namespace Go.QAbs
end Go.QAbs
namespace Go.Q15
open Go Go.QAbs
set_option maxRecDepth 100000
set_option maxHeartbeats 8000000
def AR.give (r:AR) (o:Nat):AR :=
 if r.gens[o % 65536]?=some r.most then { r with states:=r.states.set (o % 65536) 2 }
 else { r with gens:=r.gens.set (o % 65536) ((o / 65536:Nat)+1),states:=r.states.set (o % 65536) 0,blk:=r.blk.take r.n++[((o % 65536:Nat):Int)],n:=r.n+1,ver:=r.ver+1 }
end Go.Q15
namespace Go.Q15
open Go Go.QAbs
set_option maxRecDepth 100000
set_option maxHeartbeats 8000000
end Go.Q15
namespace Go.Q15
open Go Go.QAbs
set_option maxRecDepth 100000
set_option maxHeartbeats 8000000
def longF:Nat→List (List UInt8)→Nat
 | n,[]=>n
 | n,t::ts=>if n≤900 then longF (n+min t.length 1000) ts else n
def longP (l:List (List UInt8)):Prop:=4<l.length∨900<longF 0 l
instance (l:List (List UInt8)):Decidable (longP l):=by unfold longP;infer_instance
theorem longF_ge:∀ (l:List (List UInt8)) (n:Nat),n≤longF n l
 | [],n=>by simp [longF]
 | t::ts,n=>by
  rw [longF]
  by_cases h:n≤900
  ·rw [if_pos h];have:=longF_ge ts (n+min t.length 1000);omega
  ·rw [if_neg h];exact Nat.le_refl _
theorem longF_sum:∀ (l:List (List UInt8)) (n:Nat),longF n l≤900→n+(l.map List.length).sum≤900
 | [],n,h=>by simpa [longF] using h
 | t::ts,n,h=>by
  rw [longF] at h
  by_cases hn:n≤900
  ·rw [if_pos hn] at h
   have h1:=longF_ge ts (n+min t.length 1000)
   have h2:=longF_sum ts _ h
   rw [List.map_cons,List.sum_cons];omega
  ·rw [if_neg hn] at h;omega
theorem drop_cons {α:Type} {l:List α} {i:Nat} {a:α} (h:l[i]?=some a):l.drop i=a::l.drop (i+1):=by
 obtain ⟨h1,h2⟩:=List.getElem?_eq_some_iff.1 h
 subst h2
 exact List.drop_eq_getElem_cons h1
theorem long_c (l:List (List UInt8)) (hb:l.length<9223372036854775808) (hs:∀ s∈l,s.length<9223372036854775808) (st:St):S Tb F_quartolaw15_Long [.lit (l.map .str)] st=some (.bool (decide (longP l)),st):=by
 refine s_of rfl (fun A hA=>?_)
 repeat' (first|refine ru_seq ?_|refine ru_reg ?_|refine is_mv rfl ?_|refine is_nil rfl ?_|refine rk_seq ?_|refine ru_block ?_)
 refine ru_loopP (α:=Nat × Nat) (fun p=>[(0,.lit (l.map .str)),(3,.int .i64 p.2),(4,.int .i64 p.1)]) (fun p=>⟨A,false,[]⟩) (fun p=>p.1≤l.length∧p.2≤1900∧longF p.2 (l.drop p.1)=longF 0 l) (fun p=>l.length-p.1) (0,0) rfl rfl ⟨Nat.zero_le _,Nat.zero_le _,rfl⟩ ?_
 rintro ⟨i,n⟩ ⟨h1,h2,h3⟩
 simp only at h1 h2 h3 ⊢
 repeat' (first|refine ru_seq ?_|refine ru_reg ?_|refine is_mv rfl ?_|refine is_gT rfl ?_|refine is_gF rfl rfl ?_|refine is_pick rfl rfl rfl rfl ?_|refine is_nil rfl ?_|refine rk_seq ?_|refine is_lenS rfl ?_|refine is_lenM rfl ?_|refine is_ldl rfl rfl ?_|refine is_ixM rfl rfl (by omega) (fun _=>rfl) (fun _ _=>?_)|(refine is_lss rfl rfl (fun _=>?_) (fun _=>?_)<;>try (exfalso;omega))|(refine is_leq rfl rfl (fun _=>?_) (fun _=>?_)<;>try (exfalso;omega))|(refine is_gtr rfl rfl (fun _=>?_) (fun _=>?_)<;>try (exfalso;omega))|refine ru_iteT rfl ?_|refine ru_iteF rfl ?_|refine is_mnx rfl rfl ?_|refine ru_skip ?_|refine ru_ret ?_|refine ru_exit ?_|refine ru_block ?_|refine rk_nil ?_|refine rk_seq_ex ?_|refine rk_blk_eq rfl ?_|refine rk_inv_ex ?_)
 ·rename_i hlt hn x hx
  have hx':l[i]?=some x:=by rw [show i=((i:Nat):Int).toNat by omega];exact hx
  have hxl:=hs x (List.mem_of_getElem? hx')
  have e1:(if false=true then max (x.length:Int) 1000 else min (x.length:Int) 1000)=((min x.length 1000:Nat):Int):=by
   simp only [Bool.false_eq_true,if_false];omega
  rw [e1]
  refine is_addS rfl rfl (by omega) ?_
  rw [show (n:Int)+((min x.length 1000:Nat):Int)=((n+min x.length 1000:Nat):Int) by omega]
  repeat' (first|refine ru_reg ?_|refine is_mv rfl ?_|refine is_nil rfl ?_|refine rk_seq ?_|refine is_addS rfl rfl (by omega) ?_|refine rk_blk ?_|refine rk_inv ?_)
  refine ⟨(i+1,n+min x.length 1000),⟨rfl,rfl⟩,⟨by simp only;omega,by simp only;omega,?_⟩,by simp only;omega⟩
  rw [← h3,drop_cons hx',longF,if_pos (by omega)]
 ·refine end_ofB hA (by first|exact .inl rfl|exact .inr rfl) rfl rfl ?_
  exact (decide_eq_true (.inl (by omega))).symm
 ·refine end_ofB hA (by first|exact .inl rfl|exact .inr rfl) rfl rfl ?_
  refine (decide_eq_true (.inr ?_)).symm
  have:=longF_ge (l.drop i) n
  omega
 ·refine end_ofB hA (by first|exact .inl rfl|exact .inr rfl) rfl rfl ?_
  exact (decide_eq_true (.inl (by omega))).symm
 ·refine end_ofB hA (by first|exact .inl rfl|exact .inr rfl) rfl rfl ?_
  refine (decide_eq_true (.inr ?_)).symm
  have:=longF_ge (l.drop i) n
  omega
 ·refine end_ofB hA (by first|exact .inl rfl|exact .inr rfl) rfl rfl ?_
  refine (decide_eq_false ?_).symm
  have:l.drop i=[]:=List.drop_eq_nil_of_le (by omega)
  rw [this,longF] at h3
  rintro (h|h)<;>omega
def manyQ (l:List Ed):Prop:=(∃ s∈l.take 100,200<s.text.length)∨60<l.length
open Classical in
noncomputable instance (l:List Ed):Decidable (manyQ l):=Classical.propDecidable _
theorem many16_c (l:List Ed) (hb:l.length<9223372036854775808) (hs:∀ s∈l,s.text.length<9223372036854775808) (st:St):S Tb F_quartolaw16_Many [.lit (l.map Ed.av)] st=some (.bool (decide (manyQ l)),st):=by
 refine s_of rfl (fun A hA=>?_)
 repeat' (first|refine ru_seq ?_|refine ru_reg ?_|refine is_mv rfl ?_|refine is_nil rfl ?_|refine rk_seq ?_|refine ru_block ?_)
 refine ru_loopP (α:=Nat) (fun i=>[(0,.lit (l.map Ed.av)),(3,.int .i64 i)]) (fun p=>⟨A,false,[]⟩) (fun i=>i≤l.length∧i≤100∧∀ j s,j<i→l[j]?=some s→s.text.length≤200) (fun i=>l.length-i) 0 rfl rfl ⟨Nat.zero_le _,Nat.zero_le _,fun j s h=>by omega⟩ ?_
 rintro i ⟨h1,h2,h3⟩
 have key:∀ {j:Nat} {s:Ed},(l.length:Int)≤i∨100≤(i:Int)→s∈l.take 100→s.text.length≤200:=by
  intro j s hi hm
  obtain ⟨j,hj⟩:=List.mem_iff_getElem?.1 hm
  have hj1:=(List.getElem?_eq_some_iff.1 hj).1
  rw [List.length_take] at hj1
  rw [List.getElem?_take,if_pos (by omega)] at hj
  exact h3 j s (by omega) hj
 repeat' (first|refine ru_seq ?_|refine ru_reg ?_|refine is_mv rfl ?_|refine is_fadr rfl rfl ?_|refine is_gT rfl ?_|refine is_gF rfl rfl ?_|refine is_pick rfl rfl rfl rfl ?_|refine is_nil rfl ?_|refine rk_seq ?_|refine is_lenS rfl ?_|refine is_lenM rfl ?_|refine is_ldl rfl rfl ?_|refine is_ixM rfl rfl (by omega) (fun _=>rfl) (fun _ _=>?_)|(refine is_lss rfl rfl (fun _=>?_) (fun _=>?_)<;>try (exfalso;omega))|(refine is_gtr rfl rfl (fun _=>?_) (fun _=>?_)<;>try (exfalso;omega))|refine ru_iteT rfl ?_|refine ru_iteF rfl ?_|refine is_addS rfl rfl (by omega) ?_|refine ru_skip ?_|refine ru_ret ?_|refine ru_exit ?_|refine ru_block ?_|refine rk_nil ?_|refine rk_seq_ret ?_|refine rk_seq_ex ?_|refine rk_blk ?_|refine rk_blk_ret ?_|refine rk_blk_eq rfl ?_|refine rk_inv ?_|refine rk_inv_ret ?_|refine rk_inv_ex ?_)
 ·rename_i hlt hn s hs' hbig
  have hs1:l[i]?=some s:=by rw [show i=((i:Nat):Int).toNat by omega];exact hs'
  refine end_ofB hA (by first|exact .inl rfl|exact .inr rfl) rfl rfl ?_
  refine (decide_eq_true (.inl ⟨s,?_,by omega⟩)).symm
  refine List.mem_iff_getElem?.2 ⟨i,?_⟩
  rw [List.getElem?_take,if_pos (by omega)];exact hs1
 ·rename_i hlt hn s hs' hbig
  have hs1:l[i]?=some s:=by rw [show i=((i:Nat):Int).toNat by omega];exact hs'
  refine ⟨i+1,⟨rfl,rfl⟩,⟨by omega,by omega,fun j s2 hj h=>?_⟩,by omega⟩
  rcases Nat.lt_or_ge j i with q|q
  ·exact h3 j s2 q h
  ·obtain rfl:j=i:=by omega
   rw [hs1] at h
   have:=Option.some.inj h
   subst this
   omega
 ·refine end_ofB hA (by first|exact .inl rfl|exact .inr rfl) rfl rfl ?_
  exact (decide_eq_true (.inr (by omega))).symm
 ·refine end_ofB hA (by first|exact .inl rfl|exact .inr rfl) rfl rfl ?_
  exact (decide_eq_true (.inr (by omega))).symm
 ·refine end_ofB hA (by first|exact .inl rfl|exact .inr rfl) rfl rfl ?_
  refine (decide_eq_false ?_).symm
  rintro (⟨s,h,hh⟩|h)
  ·have:=key (j:=0) (s:=s) (.inl (by omega)) h
   omega
  ·omega
theorem manyQ_no {l:List Ed} (h:¬ manyQ l):l.length≤60∧∀ s∈l,s.text.length≤200:=by
 have h1:l.length≤60:=by
  rcases Nat.lt_or_ge 60 l.length with q|q
  ·exact absurd (.inr q) h
  ·exact q
 refine ⟨h1,fun s hs=>?_⟩
 rcases Nat.lt_or_ge 200 s.text.length with q|q
 ·refine absurd (.inl ⟨s,?_,q⟩) h
  rw [List.take_of_length_le (by omega)];exact hs
 ·exact q
theorem longP_no {l:List (List UInt8)} (h:¬ longP l):l.length≤4∧(l.map List.length).sum≤900:=by
 have h1:¬ 4<l.length:=fun q=>h (.inl q)
 have h2:¬ 900<longF 0 l:=fun q=>h (.inr q)
 have:=longF_sum l 0 (by omega)
 exact ⟨by omega,by omega⟩
end Go.Q15
namespace Go.Q15
open Go Go.QAbs
set_option maxRecDepth 100000
set_option maxHeartbeats 8000000
end Go.Q15
namespace Go.Q15
open Go Go.QAbs
set_option maxRecDepth 100000
set_option maxHeartbeats 8000000
noncomputable def exR:AR:=(wrV (buildM exS) (newAR 8 4)).1
def exRo:Ro:=⟨65538,1,⟨17,17,0⟩⟩
theorem ex_ro:(wrV (buildM exS) (newAR 8 4)).2.1=exRo:=by
 rw [ex_build];rfl
theorem ex_nw:nw (buildM exS)=3:=by rw [ex_build];rfl
theorem small_c (A:List (Bool × List Blk)):S Tb F_quartolaw16_small [] ⟨A,false,[]⟩=some (.tup [.ptr A.length 6 0 0 0,exRo.av,.bool true],⟨A,false,[.arr 5 0 [exRo.av]]++(arB A.length 1 exR++[.arr 5 0 [exRo.av]])⟩):=by
 have hN:=arNew_c 8 4 (by omega) (by omega) A [.arr 5 0 [Ro.zero.av]]
 have h1:=rtNew_c (has_cur A [.arr 5 0 [Ro.zero.av]] [] (newAR 8 4)) (newAR_ok 8 4 (by omega) (by omega)) good_nil exS (by decide) (by rw [ex_nw];decide)
 rw [arSt_cur,ex_ro] at h1
 change S Tb F_rope_New [.ptr A.length 6 0 0 0,.str exS] ⟨A,false,_⟩=some (_,⟨A,false,[.arr 5 0 [Ro.zero.av]]++(arB A.length 1 exR++[])⟩) at h1
 refine s_keep rfl ?_
 repeat' (first|refine ru_seq ?_|refine ru_reg ?_|refine is_mv rfl ?_|refine is_gT rfl ?_|refine is_pick rfl rfl rfl rfl ?_|refine is_ext rfl rfl ?_|refine is_nil rfl ?_|refine rk_seq ?_|(refine is_neq rfl rfl (fun _=>?_) (fun _=>?_)<;>try (exfalso;omega))|refine ru_iteF rfl ?_|refine is_eqs rfl rfl rfl rfl ?_|refine is_box rfl rfl rfl ?_|refine is_callE rfl rfl rfl (hN) ?_|refine ru_skip ?_)
 all_goals try contradiction
 all_goals try (exfalso;omega)
 unfold exS at h1
 refine is_callE rfl rfl rfl h1 ?_
 change Is _ _ _ _ _ _ ⟨A,false,[.arr 5 0 [Ro.zero.av],exR.b0,exR.b1,exR.b2,exR.b3 A.length 1,exR.b4,exR.b5 A.length 1]⟩
 generalize hb0:exR.b0=b0 at *
 generalize hb1:exR.b1=b1 at *
 generalize hb2:exR.b2=b2 at *
 generalize hb3:exR.b3 A.length 1=b3 at *
 generalize hb4:exR.b4=b4 at *
 generalize hb5:exR.b5 A.length 1=b5 at *
 repeat' (first|refine is_hideLd rfl rfl rfl rfl rfl rfl ?_|refine is_plainSt rfl rfl rfl rfl rfl rfl rfl ?_|refine ru_seq ?_|refine ru_reg ?_|refine is_mv rfl ?_|refine is_ldc rfl rfl rfl rfl ?_|refine is_gT rfl ?_|refine is_pick rfl rfl rfl rfl ?_|refine is_ext rfl rfl ?_|refine is_nil rfl ?_|refine rk_seq ?_|(refine is_eql rfl rfl (fun _=>?_) (fun _=>?_)<;>try (exfalso;omega))|refine is_buildO rfl rfl rfl ?_|refine is_eqs rfl rfl rfl rfl ?_|refine is_box rfl rfl rfl ?_|refine is_stb rfl rfl rfl rfl rfl rfl ?_|refine ru_ret ?_|refine rk_nil ?_)
 ·refine (end_kc (.inr rfl) rfl rfl rfl rfl rfl).trans ?_
  subst hb0 hb1 hb2 hb3 hb4 hb5
  rfl
 all_goals done
theorem ex_ok:AROk exR∧GoodN exR.nodes∧Rt exR.nodes exRo exS:=by
 obtain ⟨b1,b2,b3⟩:=buildM_ok good_nil (s:=exS) (by decide)
 have ho:=newAR_ok 8 4 (by omega) (by omega)
 obtain ⟨w1,w2⟩:=wr_rt (r:=newAR 8 4) (has_cur [] [] [] _) ho good_nil b1 (by rw [b3];decide) (by rw [ex_nw];decide)
 rw [show (newAR 8 4).nodes=[] from rfl,b2,ex_ro] at w2
 exact ⟨w1.ok,w1.good,w2⟩
theorem works_c (st:St):S T3 F_quartolaw16_works [] st=some (.bool true,st):=by
 refine s_of (le3 F_quartolaw16_works (.pf p_quartolaw16_works) rfl) (fun A hA=>?_)
 obtain ⟨o1,o2,o3⟩:=ex_ok
 have hS:=up3 (small_c A)
 have hT:=fun T=>rtText_c o2 (has_cur A [.arr 5 0 [exRo.av]] T exR).r.rd o3.rt (by rw [o3.leaves o2];decide)
 rw [o3.leaves o2] at hT
 change ∀ T,S T3 F_rope_Text [.ptr A.length 6 0 0 0,exRo.av] ⟨A,false,.arr 5 0 [exRo.av]::exR.b0::exR.b1::exR.b2::exR.b3 A.length 1::exR.b4::exR.b5 A.length 1::T⟩=some (_,⟨A,false,.arr 5 0 [exRo.av]::exR.b0::exR.b1::exR.b2::exR.b3 A.length 1::exR.b4::exR.b5 A.length 1::T⟩) at hT
 change S T3 F_quartolaw16_small [] ⟨A,false,[]⟩=some (_,⟨A,false,.arr 5 0 [exRo.av]::exR.b0::exR.b1::exR.b2::exR.b3 A.length 1::exR.b4::exR.b5 A.length 1::[.arr 5 0 [exRo.av]]⟩) at hS
 generalize exR.b0=b0 at *
 generalize exR.b1=b1 at *
 generalize exR.b2=b2 at *
 generalize exR.b3 A.length 1=b3 at *
 generalize exR.b4=b4 at *
 generalize exR.b5 A.length 1=b5 at *
 unfold exS at hT
 repeat' (first|refine ru_seq ?_|refine ru_reg ?_|refine is_mv rfl ?_|refine is_ldc rfl rfl rfl rfl ?_|refine is_gT rfl ?_|refine is_pick rfl rfl rfl rfl ?_|refine is_ext rfl rfl ?_|refine is_nil rfl ?_|refine rk_seq ?_|(refine is_eql rfl rfl (fun _=>?_) (fun _=>?_)<;>try (exfalso;omega))|(refine is_eqlS rfl rfl (fun _=>?_) (fun _=>?_)<;>try contradiction)|refine ru_iteF rfl ?_|refine is_not rfl rfl ?_|refine is_box rfl rfl rfl ?_|refine is_stb rfl rfl rfl rfl rfl rfl ?_|refine is_callE rfl rfl rfl (hS) ?_|refine is_callE rfl rfl rfl (hT _) ?_|refine ru_skip ?_|refine ru_ret ?_|refine rk_nil ?_)
 all_goals try contradiction
 all_goals try (exfalso;omega)
 all_goals try exact absurd rfl ‹_›
 refine end_st hA (by first|exact .inl rfl|exact .inr rfl) rfl rfl rfl rfl ?_
 rfl
end Go.Q15
namespace Go.Q15
open Go Go.QAbs
set_option maxRecDepth 100000
set_option maxHeartbeats 16000000
end Go.Q15
namespace Go.Q15
open Go Go.QAbs
set_option maxRecDepth 100000
set_option maxHeartbeats 16000000
theorem RtOk.size {N:Nodes} (hN:GoodN N) {r:Ro} (h:RtOk N r) (h1:1≤r.h):(leastB r.h:Int)≤r.m.b:=by
 rcases h with rfl|⟨h0,x,h2,h3,h4,h5⟩
 ·simp [Ro.zero] at h1
 ·have hv:=(Rt.keep (N:=N) (r:=r) ⟨.inr ⟨h0,x,h2,h3,h4,h5⟩,rfl⟩).1
  have hk:keepT r=.keep r:=by unfold keepT;rw [if_neg h0]
  rw [hk] at hv
  rcases hv with q|q
  ·exact absurd q.old h0
  ·have:=q.size hN (fun q=>by simp only [Tr.keep,Tr.h] at q;omega)
   simpa [Tr.keep,Tr.h,Tr.bytes,Tr.bytesO] using this
def shL (n:Nat) (r:AR) (v:Nat) (ros:List Ro) (G:List Blk):List Blk :=
 r.b0::r.b1::r.b2::r.b3 n 0::r.b4::r.b5 n 0::.arr 5 v (ros.map Ro.av)::G
section
variable {A:List (Bool × List Blk)} {r:AR} {v:Nat} {ros:List Ro} {G:List Blk}
theorem sh_has:Has ⟨A,false,shL A.length r v ros G⟩ A.length 0 r:=has_cur A [] (.arr 5 v (ros.map Ro.av)::G) r
theorem sh_6 {n:Nat}:(shL n r v ros G)[6]?=some (.arr 5 v (ros.map Ro.av)):=rfl
end
end Go.Q15
namespace Go.Q15
open Go Go.QAbs
set_option maxRecDepth 100000
set_option maxHeartbeats 8000000
end Go.Q15
namespace Go.Q15
open Go Go.QAbs
set_option maxRecDepth 100000
set_option maxHeartbeats 16000000
end Go.Q15
namespace Go.Q15
open Go Go.QAbs
set_option maxRecDepth 100000
set_option maxHeartbeats 16000000
theorem guards {texts:List (List UInt8)} {ys:List Ed} (hl:¬ longP texts) (hm:¬ manyQ ys):(texts.flatten.length≤900∧texts.length≤4)∧ys.length≤60∧∀ y∈ys,y.text.length≤200:=by
 refine ⟨?_,manyQ_no hm⟩
 have:=longP_no hl
 rw [List.length_flatten]
 omega
theorem laid_sh (texts:List (List UInt8)) (h9:texts.flatten.length≤900∧texts.length≤4) (A:List (Bool × List Blk)) :
 ∃ r0 ros0 G0,S T3 F_quartolaw16_laid [.lit (texts.map .str)] ⟨A,false,[]⟩=some (.tup [.ptr A.length 5 0 0 0,.ref A.length 6 texts.length 0 texts.length,.bool true],⟨A,false,shL A.length r0 texts.length ros0 G0⟩) ∧
  AROk r0∧GoodN r0.nodes∧Rts r0.nodes ros0 texts∧laidV texts=(r0,ros0)∧G0=boxesR ros0:=by
 have hLd:=up3 (laid_c texts h9.1 h9.2 A [])
 have hLok:=laidV_ok texts h9.1 texts.length (Nat.le_refl _)
 rw [List.take_length] at hLok
 obtain ⟨r0,ros0,hV⟩:∃ r0 ros0,laidV texts=(r0,ros0):=⟨_,_,rfl⟩
 rw [hV] at hLd hLok
 exact ⟨r0,ros0,_,hLd,hLok.ok,hLok.good,hLok.rts,hV,rfl⟩
theorem laid_small {texts:List (List UInt8)} (h9:texts.flatten.length≤900):∀ s∈texts,s.length≤900:=by
 intro s hs
 obtain ⟨i,hi,rfl⟩:=List.getElem_of_mem hs
 have h1:=flat_get (l:=texts) (List.getElem?_eq_getElem hi)
 have h2:=flat_le texts (i+1)
 rw [h1,List.length_append] at h2
 omega
end Go.Q15
namespace Go.Q15
open Go Go.QAbs
set_option maxRecDepth 100000
set_option maxHeartbeats 16000000
theorem nodup_bound:∀ (n:Nat) (l:List Nat),l.Nodup→(∀ x∈l,x<n)→l.length≤n:=by
 intro n
 induction n with
 | zero=>intro l _ h;cases l with
  | nil=>exact Nat.le_refl _
  | cons a l=>have:=h a (by simp);omega
 | succ n ih =>
  intro l hd h
  by_cases hm:n∈l
  ·have := ih (l.erase n) (hd.erase n) (fun x hx => by
    have h1:=h x (List.mem_of_mem_erase hx)
    have h2:x≠n:=fun e=>by subst e;exact hd.not_mem_erase hx
    omega)
   rw [List.length_erase_of_mem hm] at this
   omega
  ·have := ih l hd (fun x hx => by
    have h1:=h x hx
    have h2:x≠n:=fun e=>hm (e▸hx)
    omega)
   omega
theorem AROk.few {r:AR} (h:AROk r) {l:List Nat} (hd:l.Nodup) (hl:∀ o∈l,∃ x,lk r.nodes o=some x):l.length≤16384:=by
 have h16:=h.n16
 have key:∀ o∈l,liveP r o:=fun o ho=>by obtain ⟨x,hx⟩:=hl o ho;exact (h.live hx).1
 have h1:(l.map (· % 65536)).Nodup:=by
  unfold List.Nodup at hd ⊢
  rw [List.pairwise_map]
  refine hd.imp_of_mem (fun {p o} hp ho hne e=>hne ?_)
  have a:=(key p hp).2.2
  have c:=(key o ho).2.2
  rw [e,c] at a
  have:=Option.some.inj a
  omega
 have:=nodup_bound r.states.length _ h1 (fun x hx=>by
  obtain ⟨o,ho,rfl⟩:=List.mem_map.1 hx
  exact (List.getElem?_eq_some_iff.1 (key o ho).2.1).1)
 rw [List.length_map] at this
 omega
theorem eqStats (r:AR):eqV [(0,0),(1,0),(2,0),(3,0),(4,0),(5,0),(6,0)] 0 r.statsAV r.statsAV=some true:=by
 unfold AR.statsAV
 show (if decide _=true then (if decide _=true then (if decide _=true then (if decide _=true then (if decide _=true then (if decide _=true then (if decide _=true then some true else some false) else some false) else some false) else some false) else some false) else some false) else some false)=_
 simp
theorem sh_len {n:Nat} {r:AR} {v:Nat} {ros:List Ro} {G:List Blk}:(shL n r v ros G).length=7+G.length:=by simp [shL];omega
end Go.Q15
namespace Go.Q15
open Go Go.QAbs
set_option maxRecDepth 100000
set_option maxHeartbeats 16000000
end Go.Q15
namespace Go.Q15
open Go Go.QAbs
set_option maxRecDepth 100000
set_option maxHeartbeats 16000000
end Go.Q15
namespace Go.Q15
open Go Go.QAbs
set_option maxRecDepth 100000
set_option maxHeartbeats 16000000
structure MkInv (r:AR) (ros:List Ro) (ss:List (List UInt8)) (n:Nat) (B:Nat):Prop where
 ok:AROk r
 good:GoodN r.nodes
 rts:Rts r.nodes ros ss
 len:ros.length=n
 n20:n≤20
 small:∀ s∈ss,s.length≤B
 nl:r.nodes.length+r.n=1500
theorem MkInv.plan {r:AR} {ros:List Ro} {ss:List (List UInt8)} {n B:Nat} (h:MkInv r ros ss n B) (hB:B≤60000):PlanOk r.nodes ros:=h.rts.plan h.good (by have:=h.len;have:=h.n20;omega) (fun s hs=>by have:=h.small s hs;omega)
theorem MkInv.mb {r:AR} {ros:List Ro} {ss:List (List UInt8)} {n B:Nat} (h:MkInv r ros ss n B):∀ ro∈ros,ro.m.b≤(B:Int):=by
 intro ro hr
 obtain ⟨i,hi,rfl⟩:=List.getElem_of_mem hr
 have hi2:i<ss.length:=by rw [← h.rts.1];exact hi
 have g:=h.rts.2 i _ _ (List.getElem?_eq_getElem hi) (List.getElem?_eq_getElem hi2)
 have:=(g.b h.good).2
 have:=h.small _ (List.getElem_mem hi2)
 omega
end Go.Q15
namespace Go.Q15
open Go Go.QAbs
set_option maxRecDepth 100000
set_option maxHeartbeats 8000000
end Go.Q15
namespace Go.Q15
open Go Go.QAbs
set_option maxRecDepth 100000
set_option maxHeartbeats 8000000
theorem eqvRo (a b c d f x y z u v:Int):eqV [(0,0),(1,0),(2,0),(3,0),(4,0)] 0 (.agg [.int .u64 a,.int .i64 b,.int .i64 c,.int .i64 d,.int .i64 f]) (.agg [.int .u64 x,.int .i64 y,.int .i64 z,.int .i64 u,.int .i64 v])=some (decide (a=x∧b=y∧c=z∧d=u∧f=v)):=by
 show (if decide (a=x)=true then (if decide (b=y)=true then (if decide (c=z)=true then (if decide (d=u)=true then (if decide (f=v)=true then some true else some false) else some false) else some false) else some false) else some false)=_
 by_cases h1:a=x<;>by_cases h2:b=y<;>by_cases h3:c=z<;>by_cases h4:d=u<;>by_cases h5:f=v<;>simp [h1,h2,h3,h4,h5]
end Go.Q15
namespace Go.Q15
open Go Go.QAbs
set_option maxRecDepth 100000
set_option maxHeartbeats 8000000
theorem cntO_getD (k:Option (List Tr)):Tr.cntO k=Tr.cntL (k.getD []):=by cases k<;>rfl
theorem cnt_own (t:Tr):t.own.cnt=t.cnt:=by
 induction t using Tr.ind with
 | step o h m s k ih =>
  rw [Tr.own,Tr.cnt,Tr.cnt,cntO_getD,cntO_getD,ownO_getD]
  generalize k.getD []=l at ih
  have:Tr.cntL (l.map Tr.own)=Tr.cntL l:=by
   induction l with
   | nil=>rfl
   | cons a l ih2=>rw [List.map_cons,Tr.cntL,Tr.cntL,ih a (by simp),ih2 (fun t ht=>ih t (by simp [ht]))]
  rw [this]
theorem nw_own (t:Tr):nw t.own=nw t:=by
 unfold nw
 rw [cnt_own,own_h]
 cases t;rfl
theorem wrO_getD (k:Option (List Tr)) (r:AR):Tr.wrO k r=Tr.wrL (k.getD []) r:=by cases k<;>rfl
theorem wr_own (t:Tr):∀ r,t.own.wr r=t.wr r:=by
 induction t using Tr.ind with
 | step o h m s k ih =>
  intro r
  have:∀ r,Tr.wrO (Tr.ownO k) r=Tr.wrO k r:=by
   intro r
   rw [wrO_getD,wrO_getD,ownO_getD]
   generalize k.getD []=l at ih
   induction l generalizing r with
   | nil=>rfl
   | cons a l ih2=>rw [List.map_cons,Tr.wrL,Tr.wrL,ih a (by simp),ih2 _ (fun t ht=>ih t (by simp [ht]))]
  rw [Tr.own,Tr.wr,Tr.wr,this]
theorem wrV_own (t:Tr) (r:AR):wrV t.own r=wrV t r:=by
 unfold wrV
 rw [wr_own,own_h]
 cases t;rfl
theorem eqvKid (k:Kid):eqV [(0,0),(1,0),(2,0),(3,0)] 0 k.av k.av=some true:=by
 unfold Kid.av
 show (if decide _=true then (if decide _=true then (if decide _=true then (if decide _=true then some true else some false) else some false) else some false) else some false)=_
 simp
theorem eqvRoT (r:Ro):eqV [(0,0),(1,0),(2,0),(3,0),(4,0)] 0 r.av r.av=some true:=by
 unfold Ro.av
 rw [eqvRo];simp
theorem EqualKids_c (ks:List Kid) (hl:ks.length<1000) (st:St):S Tb F_quartokit_EqualKids [.lit (ks.map Kid.av),.lit (ks.map Kid.av)] st=some (.bool true,st):=by
 refine s_of rfl (fun A hA=>?_)
 repeat' (first|refine len1L rfl ?_|refine ru_seq ?_|refine ru_reg ?_|refine is_mv rfl ?_|refine is_nil rfl ?_|refine rk_seq ?_|(refine is_neq rfl rfl (fun _=>?_) (fun _=>?_)<;>try (exfalso;omega))|refine ru_iteF rfl ?_|refine ru_skip ?_|refine ru_block ?_)
 all_goals try contradiction
 refine ru_loopP (α:=Nat) (fun i=>[(0,.lit (ks.map Kid.av)),(1,.lit (ks.map Kid.av)),(5,.int .i64 i)]) (fun i=>⟨A,false,[]⟩) (fun i=>i≤ks.length) (fun i=>ks.length-i) 0 rfl rfl (Nat.zero_le _) ?_
 intro i hi
 replace hi:i≤ks.length:=hi
 rcases Nat.lt_or_ge i ks.length with hlt|hge
 ·obtain ⟨k,hk⟩:∃ k,ks[i]?=some k:=⟨ks[i]'hlt,List.getElem?_eq_getElem _⟩
  have q:0≤((i:Nat):Int)∧ks[((i:Nat):Int).toNat]?=some k:=⟨by omega,by rw [show ((i:Nat):Int).toNat=i by omega];exact hk⟩
  have he:=eqvKid k
  unfold Kid.av at he
  repeat' (first|refine len1L rfl ?_|refine is_ixKn (f:=Kid.av) rfl rfl q (fun _=>rfl) ?_|refine is_eqs rfl rfl he rfl ?_|refine ru_seq ?_|refine ru_reg ?_|refine is_mv rfl ?_|refine is_nil rfl ?_|refine rk_seq ?_|refine is_ldl rfl rfl ?_|(refine is_lss rfl rfl (fun _=>?_) (fun _=>?_)<;>try (exfalso;omega))|refine ru_iteT rfl ?_|refine ru_iteF rfl ?_|refine is_addS rfl rfl (by omega) ?_|refine ru_skip ?_|refine ru_block ?_|refine rk_blk ?_|refine rk_inv ?_)
  all_goals try contradiction
  all_goals try (exfalso;omega)
  exact ⟨i+1,⟨rfl,rfl⟩,by omega,by omega⟩
 ·obtain rfl:i=ks.length:=by omega
  repeat' (first|refine len1L rfl ?_|refine ru_seq ?_|refine ru_reg ?_|refine is_mv rfl ?_|refine is_nil rfl ?_|refine rk_seq ?_|(refine is_lss rfl rfl (fun _=>?_) (fun _=>?_)<;>try (exfalso;omega))|refine ru_iteF rfl ?_|refine ru_ret ?_|refine ru_exit ?_|refine rk_nil ?_|refine rk_seq_ex ?_|refine rk_blk_eq rfl ?_|refine rk_inv_ex ?_)
  all_goals try (exfalso;omega)
  refine end_st hA (by first|exact .inl rfl|exact .inr rfl) rfl rfl rfl rfl ?_
  rfl
theorem EqualNode_c (x:Nd) (hl:x.ks.length<1000) (st:St):S Tb F_quartokit_EqualNode [x.copy.av,x.copy.av] st=some (.bool true,st):=by
 refine s_of rfl (fun A hA=>?_)
 have hcp:x.copy.av=.agg [.int .i64 x.h,.str x.text,.lit (x.ks.map Kid.av)]:=rfl
 have hK:=fun st=>EqualKids_c x.ks hl st
 rw [hcp]
 generalize x.ks=ks at *
 repeat' (first|refine ru_seq ?_|refine ru_reg ?_|refine is_mv rfl ?_|refine is_fadr rfl rfl ?_|refine is_ldc rfl rfl rfl rfl ?_|refine is_gT rfl ?_|refine is_pick rfl rfl rfl rfl ?_|refine is_nil rfl ?_|refine rk_seq ?_|(refine is_eql rfl rfl (fun _=>?_) (fun _=>?_)<;>try (exfalso;omega))|(refine is_eqlS rfl rfl (fun _=>?_) (fun _=>?_)<;>try contradiction)|refine is_box rfl rfl rfl ?_|refine is_callE rfl rfl rfl (hK _) ?_|refine ru_ret ?_|refine rk_nil ?_)
 all_goals try contradiction
 all_goals first|exact absurd rfl ‹_›|(refine end_st hA (by first|exact .inl rfl|exact .inr rfl) rfl rfl rfl rfl ?_;rfl)
theorem EqualRoots_c {st:St} {lv i1 i2 v1 v2 n:Nat} {ros:List Ro} (hn:n=ros.length) (h1:st.get lv i1=some (.arr 5 v1 (ros.map Ro.av))) (h2:st.get lv i2=some (.arr 5 v2 (ros.map Ro.av))) (hb:n<65536) :
 S Tb F_quartokit_EqualRoots [.ref lv i1 v1 0 n,.ref lv i2 v2 0 n] st=some (.bool true,st):=by
 refine s_of rfl (fun A hA=>?_)
 have g1:=fun L=>get_old hA (ro:=false) (L:=L) h1
 have g2:=fun L=>get_old hA (ro:=false) (L:=L) h2
 have w1:∀ L,wIs 5 v1 (St.get ⟨A,false,L⟩ lv i1)=true:=fun L=>by rw [g1];simp [wIs]
 have w2:∀ L,wIs 5 v2 (St.get ⟨A,false,L⟩ lv i2)=true:=fun L=>by rw [g2];simp [wIs]
 repeat' (first|refine ru_seq ?_|refine ru_reg ?_|refine is_mv rfl ?_|refine is_nil rfl ?_|refine rk_seq ?_|refine is_lenR rfl ?_|(refine is_neq rfl rfl (fun _=>?_) (fun _=>?_)<;>try (exfalso;omega))|refine ru_iteF rfl ?_|refine ru_skip ?_|refine ru_block ?_)
 all_goals try contradiction
 refine ru_loopP (α:=Nat) (fun i=>[(0,.ref lv i1 v1 0 n),(1,.ref lv i2 v2 0 n),(5,.int .i64 i)]) (fun i=>⟨A,false,[]⟩) (fun i=>i≤n) (fun i=>n-i) 0 rfl rfl (Nat.zero_le _) ?_
 intro i hi
 replace hi:i≤n:=hi
 rcases Nat.lt_or_ge i n with hlt|hge
 ·obtain ⟨ro,hro⟩:∃ x,ros[i]?=some x:=⟨ros[i]'(by omega),List.getElem?_eq_getElem _⟩
  have g6:(ros.map Ro.av)[0+((i:Nat):Int).toNat]?=some ro.av:=by rw [show 0+((i:Nat):Int).toNat=i by omega,List.getElem?_map,hro];rfl
  have he:=eqvRoT ro
  repeat' (first|refine is_eqs rfl rfl he rfl ?_|refine ru_seq ?_|refine ru_reg ?_|refine is_mv rfl ?_|refine is_nil rfl ?_|refine rk_seq ?_|refine is_lenR rfl ?_|(refine is_lss rfl rfl (fun _=>?_) (fun _=>?_)<;>try (exfalso;omega))|refine ru_iteT rfl ?_|refine ru_iteF rfl ?_|refine is_addS rfl rfl (by omega) ?_|refine is_ixR rfl rfl (by omega) (w1 _) ?_|refine is_ixR rfl rfl (by omega) (w2 _) ?_|refine is_ld rfl (g1 _) g6 (ro_part _) ?_|refine is_ld rfl (g2 _) g6 (ro_part _) ?_|refine ru_skip ?_|refine ru_block ?_|refine rk_blk ?_|refine rk_inv ?_)
  all_goals try contradiction
  all_goals try (exfalso;omega)
  exact ⟨i+1,⟨rfl,rfl⟩,by omega,by omega⟩
 ·obtain rfl:i=n:=by omega
  repeat' (first|refine ru_seq ?_|refine ru_reg ?_|refine is_mv rfl ?_|refine is_nil rfl ?_|refine rk_seq ?_|refine is_lenR rfl ?_|(refine is_lss rfl rfl (fun _=>?_) (fun _=>?_)<;>try (exfalso;omega))|refine ru_iteF rfl ?_|refine ru_ret ?_|refine ru_exit ?_|refine rk_nil ?_|refine rk_seq_ex ?_|refine rk_blk_eq rfl ?_|refine rk_inv_ex ?_)
  all_goals try (exfalso;omega)
  refine end_st hA (by first|exact .inl rfl|exact .inr rfl) rfl rfl rfl rfl ?_
  rfl
def arL (L:List Blk) (n b:Nat) (r:AR):List Blk:=(((((L.set b r.b0).set (b+1) r.b1).set (b+2) r.b2).set (b+3) (r.b3 n b)).set (b+4) r.b4).set (b+5) (r.b5 n b)
theorem arSt_L (A:List (Bool × List Blk)) (L:List Blk) (b:Nat) (r:AR):arSt ⟨A,false,L⟩ A.length b r=⟨A,false,arL L A.length b r⟩:=by
 simp [arSt,arK,arB,putC,St.upd,arL]
theorem arL_ne {L:List Blk} {n b i:Nat} (r:AR) (h:¬ (b≤i∧i≤b+5)):(arL L n b r)[i]?=L[i]?:=by
 unfold arL
 rw [List.getElem?_set_ne (by omega),List.getElem?_set_ne (by omega),List.getElem?_set_ne (by omega),List.getElem?_set_ne (by omega),List.getElem?_set_ne (by omega),List.getElem?_set_ne (by omega)]
theorem arL_len {L:List Blk} {n b:Nat} (r:AR):(arL L n b r).length=L.length:=by simp [arL]
theorem Has.frmL {A:List (Bool × List Blk)} {L L':List Blk} {b:Nat} {r:AR} (h:Has ⟨A,false,L⟩ A.length b r) (hg:∀ i,b≤i→i≤b+5→L'[i]?=L[i]?):Has ⟨A,false,L'⟩ A.length b r:=by
 have e:∀ i,b≤i→i≤b+5→St.get ⟨A,false,L'⟩ A.length i=St.get ⟨A,false,L⟩ A.length i:=fun i h1 h2=>by rw [St.get_cur,St.get_cur,hg i h1 h2]
 exact ⟨by simp [St.wr],(e _ (by omega) (by omega)).trans h.h0,(e _ (by omega) (by omega)).trans h.h1,(e _ (by omega) (by omega)).trans h.h2,(e _ (by omega) (by omega)).trans h.h3,(e _ (by omega) (by omega)).trans h.h4,(e _ (by omega) (by omega)).trans h.h5⟩
theorem get_lt {A:List (Bool × List Blk)} {ro:Bool} {L:List Blk} {i:Nat} {b:Blk} (h:St.get ⟨A,ro,L⟩ A.length i=some b):i<L.length:=by
 rw [St.get_cur] at h
 exact (List.getElem?_eq_some_iff.1 (vis_noH h).1).1
theorem Has.app {A:List (Bool × List Blk)} {L:List Blk} {b:Nat} {r:AR} (h:Has ⟨A,false,L⟩ A.length b r) (T:List Blk):Has ⟨A,false,L++T⟩ A.length b r :=
 h.frmL fun i h1 h2=>by
  have:=get_lt h.h5
  rw [List.getElem?_append_left (by omega)]
theorem PenS.app {A:List (Bool × List Blk)} {L:List Blk} {ip tx ver la b:Nat} {cls:List AV} {its:List It} {F:List (Nat × Blk)} {keys:List Nat} {rx:Nat} {ρ:Nat→Ro} {j:Nat} (h:PenS ⟨A,false,L⟩ A.length ip tx ver la b cls its F keys rx ρ j) (T:List Blk):PenS ⟨A,false,L++T⟩ A.length ip tx ver la b cls its F keys rx ρ j:=by
 refine h.frm rfl (fun i hi=>?_)
 have hlt:i<L.length:=by
  rcases hi with rfl|⟨hc,rfl⟩|q|⟨p,hp,rfl⟩
  ·obtain ⟨td,h1,_⟩:=h.pen;exact get_lt h1
  ·obtain ⟨td,_,h2⟩:=h.pen
   rcases h2 with ⟨w,_⟩|⟨_,_,w⟩
   ·exact absurd w hc
   ·exact get_lt w
  ·exact get_lt (h.rts i q)
  ·exact get_lt (h.fx p hp)
 rw [List.getElem?_append_left hlt]
theorem step_L (A:List (Bool × List Blk)) (L:List Blk) (ip tx ver b len rx k:Nat) (r2:AR) (ro:Ro) (j:Nat) :
 stepSt ⟨A,false,L⟩ A.length ip tx ver A.length b len rx r2 k ro j=⟨A,false,((arL L A.length b r2).set k (.arr 5 0 [ro.av])).set ip (.arr 3 0 [.agg [.ptr A.length (b+5) 0 0 0,.ref A.length tx ver (j+1) (len-j-1),.ptr A.length rx 0 0 0]])⟩:=by
 rw [stepSt,arSt_L]
 simp [St.upd]
theorem RunOk.ext {its:List It} {r r':AR} {ρ ρ':Nat→Ro} {hs:List Nat} (h:RunOk its r ρ r' ρ' hs):AROk r→Ext r.nodes r'.nodes:=by
 induction h with
 | nil=>intro _;exact Ext.refl _
 | cons hn hx hk h ih=>intro ho;exact (ext_add ho hn _).trans (ih (ho.add hn _))
end Go.Q15
namespace Go.Q15
open Go Go.QAbs
set_option maxRecDepth 100000
set_option maxHeartbeats 16000000
structure PnI (A:List (Bool × List Blk)) (L:List Blk) (B0 i13 ip tx ver rx:Nat) (cs:List AV) (its:List It) (F:List (Nat × Blk)) (keys:List Nat) (r':AR) (ρ':Nat→Ro) (hs:List Nat) (ro:Ro) (k:Nat) (rk:AR) (ρk:Nat→Ro):Prop where
 ps:PenS ⟨A,false,L⟩ A.length ip tx ver A.length B0 cs its F keys rx ρk k
 ha:Has ⟨A,false,L⟩ A.length 0 r'
 hb:Has ⟨A,false,L⟩ A.length B0 rk
 ok:AROk rk
 run:RunOk (its.drop k) rk ρk r' ρ' (hs.drop k)
 b13:L[i13]?=some (.arr 5 0 [ro.av])
 kl:k≤its.length
theorem pens_loop {A:List (Bool × List Blk)} {L0:List Blk} {B0 i13 ip tx ver rx:Nat} {cs:List AV} {its:List It} {F:List (Nat × Blk)} {keys:List Nat} {r':AR} {ρ':Nat→Ro} {hs:List Nat} {ro:Ro} {rb:AR} {ρb:Nat→Ro}
 (h0:PnI A L0 B0 i13 ip tx ver rx cs its F keys r' ρ' hs ro 0 rb ρb) (hhl:hs.length=its.length) (hB:5<B0∧B0+5<i13∧i13<ip) (hkeys:∀ k∈keys,i13<k) {k:List Fr} {Q:Post} {v11 v12:AV}
 (hQ:∀ L ρ,PnI A L B0 i13 ip tx ver rx cs its F keys r' ρ' hs ro its.length r' ρ→ρ rx=ρ' rx→Rk (S T3) k Q .norm [(5,.ptr A.length 5 0 0 0),(8,.ptr A.length (B0+5) 0 0 0),(11,v11),(12,v12),(13,.ptr A.length i13 0 0 0),(14,.lit (hs.map hnAV)),(16,.ptr A.length ip 0 0 0),(18,.int .i64 hs.length),(119,.bool false)] ⟨A,false,L⟩) :
 Ru (S T3) p_quartolaw16_RopePens_29.loop (.blk 2::k) Q [(5,.ptr A.length 5 0 0 0),(8,.ptr A.length (B0+5) 0 0 0),(11,v11),(12,v12),(13,.ptr A.length i13 0 0 0),(14,.lit (hs.map hnAV)),(16,.ptr A.length ip 0 0 0),(18,.int .i64 0)] ⟨A,false,L0⟩:=by
 have hcl:=h0.ps.cl.len
 have hc6:=h0.ps.len
 refine ru_loopP (α:=Nat × AR × (Nat→Ro) × List Blk) (fun p=>[(5,.ptr A.length 5 0 0 0),(8,.ptr A.length (B0+5) 0 0 0),(11,v11),(12,v12),(13,.ptr A.length i13 0 0 0),(14,.lit (hs.map hnAV)),(16,.ptr A.length ip 0 0 0),(18,.int .i64 p.1)])
  (fun p=>⟨A,false,p.2.2.2⟩) (fun p=>PnI A p.2.2.2 B0 i13 ip tx ver rx cs its F keys r' ρ' hs ro p.1 p.2.1 p.2.2.1) (fun p=>its.length-p.1) (0,rb,ρb,L0) rfl rfl h0 ?_
 rintro ⟨j,rj,ρj,L⟩ hI
 simp only at hI ⊢
 have hjl:=hI.kl
 rcases Nat.lt_or_ge j its.length with hlt|hge
 ·obtain ⟨it,hit⟩:∃ it,its[j]?=some it:=⟨its[j]'hlt,List.getElem?_eq_getElem _⟩
  have hd:its.drop j=it::its.drop (j+1):=drop_cons hit
  have hrun:=hI.run
  rw [hd] at hrun
  obtain ⟨hs2,e1,hn1,hx1,hk1,hr1⟩:=hrun.inv
  have hdj:hs[j]?=some rj.next:=by
   have:=List.getElem?_drop (xs:=hs) (i:=j) (j:=0)
   rw [e1] at this
   simpa using this.symm
  have hd2:hs.drop (j+1)=hs2:=by
   rw [← List.drop_drop,e1];rfl
  have hRo:=up3 (Root_no hI.ps (by omega))
  have psA:=hI.ps.app [.arr 5 0 [Ro.zero.av]]
  have hbA:=hI.hb.app [.arr 5 0 [Ro.zero.av]]
  have haA:=hI.ha.app [.arr 5 0 [Ro.zero.av]]
  obtain ⟨p1,p2,p3⟩:=psA.step hbA hI.ok hn1 hit hx1 hk1
  obtain ⟨k1,k2⟩:=psA.key it (List.mem_of_getElem? hit)
  have hk13:=hkeys _ k1
  have hkar:=psA.ar it.rx (.inr (.inr (.inl k1)))
  have hpar:=psA.ar ip (.inl rfl)
  rw [step_L] at p1 p2 p3
  obtain ⟨x,hx⟩:∃ x,x=ndOf ρj it.c:=⟨_,rfl⟩
  rw [← hx] at p1 p2 p3 hr1 hx1
  have hokj:AROk (rj.add x):=hI.ok.add hn1 x
  obtain ⟨L3,hL3⟩:∃ L3,L3=((arL (L++[.arr 5 0 [Ro.zero.av]]) A.length B0 (rj.add x)).set it.rx (.arr 5 0 [((ρj it.rx).wr rj.next).av])).set ip (.arr 3 0 [.agg [.ptr A.length (B0+5) 0 0 0,.ref A.length tx ver (j+1) (cs.length-j-1),.ptr A.length rx 0 0 0]]):=⟨_,rfl⟩
  rw [← hL3] at p1 p2 p3
  have hne:∀ i,¬ (B0≤i∧i≤B0+5)→i≠it.rx→i≠ip→L3[i]?=(L++[.arr 5 0 [Ro.zero.av]])[i]?:=fun i h1 h2 h3=>by
   rw [hL3,List.getElem?_set_ne (fun w=>h3 w.symm),List.getElem?_set_ne (fun w=>h2 w.symm),arL_ne _ h1]
  have ha3:Has ⟨A,false,L3⟩ A.length 0 r':=haA.frmL fun i h1 h2=>hne i (by omega) (by omega) (by omega)
  have hb13:L3[i13]?=some (.arr 5 0 [ro.av]):=by
   rw [hne i13 (by omega) (by omega) (by omega)]
   have:=(List.getElem?_eq_some_iff.1 hI.b13).1
   rw [List.getElem?_append_left this];exact hI.b13
  have hlk:lk (rj.add x).nodes rj.next=some x.copy:=by rw [lk_add hI.ok hn1,if_pos rfl]
  have hlk2:lk r'.nodes rj.next=some x.copy:=hr1.ext hokj _ _ hlk
  have hks4:x.copy.ks.length≤4:=hx1.len
  have hGa:=up3 (Get_c (ha3.r.rd) hlk2 hks4)
  have hGb:=up3 (Get_c ((p3.app [.arr 3 0 [x.copy.av]]).r.rd) hlk hks4)
  have hcc:x.copy.copy=x.copy:=rfl
  rw [hcc] at hGa hGb
  have hEq:=fun st=>up3 (EqualNode_c x (by have:x.ks.length≤4:=hks4;omega) st)
  have q:0≤((j:Nat):Int)∧hs[((j:Nat):Int).toNat]?=some rj.next:=⟨by omega,by rw [show ((j:Nat):Int).toNat=j by omega];exact hdj⟩
  have p1:=up3 p1
  have hend:PnI A (L3++[.arr 3 0 [x.copy.av]]++[.arr 3 0 [x.copy.av]]) B0 i13 ip tx ver rx cs its F keys r' ρ' hs ro (j+1) (rj.add x) (rset ρj it.rx rj.next) :=
   ⟨(p2.app _).app _,(ha3.app _).app _,(p3.app _).app _,hokj,by rw [hd2];exact hr1,by
    have:=(List.getElem?_eq_some_iff.1 hb13).1
    rw [List.getElem?_append_left (by rw [List.length_append];omega),List.getElem?_append_left this];exact hb13,hlt⟩
  have hcp:x.copy.av=.agg [.int .i64 x.h,.str x.text,.lit (x.ks.map Kid.av)]:=rfl
  rw [hcp] at hGa hGb hEq hend
  clear hL3 hne
  have f24:∀ b c:Blk,(L3++[b]++[c])[L3.length]?=some b:=fun b c=>by
   rw [List.getElem?_append_left (by simp)];exact List.getElem?_concat_length ..
  by_cases hlast:cs.length=j+1
  ·rw [decide_eq_true hlast] at p1
   repeat' (first|refine len1L rfl ?_|refine is_ixKn (f:=hnAV) rfl rfl q (fun _=>rfl) ?_|refine is_ldc rfl (f24 _ _) rfl rfl ?_|refine ru_seq ?_|refine ru_reg ?_|refine is_mv rfl ?_|refine is_gT rfl ?_|refine is_pick rfl rfl rfl rfl ?_|refine is_ext rfl rfl ?_|refine is_nil rfl ?_|refine rk_seq ?_|refine is_ldT rfl rfl rfl ?_|refine is_ldl rfl rfl ?_|(refine is_lss rfl rfl (fun _=>?_) (fun _=>?_)<;>try (exfalso;omega))|(refine is_eql rfl rfl (fun _=>?_) (fun _=>?_)<;>try (exfalso;omega))|(refine is_neq rfl rfl (fun _=>?_) (fun _=>?_)<;>try (exfalso;omega))|refine ru_iteT rfl ?_|refine ru_iteF rfl ?_|refine is_not rfl rfl ?_|refine is_addS rfl rfl (by omega) ?_|refine is_subS rfl rfl (by omega) ?_|refine is_eqs rfl rfl rfl rfl ?_|refine is_boxG rfl rfl rfl ?_|refine is_stT rfl rfl rfl rfl rfl rfl ?_|refine is_callE rfl rfl rfl (hRo) ?_|refine is_callE rfl rfl rfl (p1) ?_|refine is_callE rfl rfl rfl (hGa) ?_|refine is_callE rfl rfl rfl (hGb) ?_|refine is_callE rfl rfl rfl (hEq _) ?_|refine ru_skip ?_|refine ru_block ?_|refine rk_blk ?_|refine rk_inv ?_)
   all_goals try contradiction
   all_goals try (exfalso;omega)
   all_goals first|exact absurd rfl ‹_›|exact ⟨(j+1,rj.add x,rset ρj it.rx rj.next,_),⟨rfl,rfl⟩,hend,by simp only;omega⟩
  ·rw [decide_eq_false hlast] at p1
   repeat' (first|refine len1L rfl ?_|refine is_ixKn (f:=hnAV) rfl rfl q (fun _=>rfl) ?_|refine is_ldc rfl (f24 _ _) rfl rfl ?_|refine ru_seq ?_|refine ru_reg ?_|refine is_mv rfl ?_|refine is_gT rfl ?_|refine is_pick rfl rfl rfl rfl ?_|refine is_ext rfl rfl ?_|refine is_nil rfl ?_|refine rk_seq ?_|refine is_ldT rfl rfl rfl ?_|refine is_ldl rfl rfl ?_|(refine is_lss rfl rfl (fun _=>?_) (fun _=>?_)<;>try (exfalso;omega))|(refine is_eql rfl rfl (fun _=>?_) (fun _=>?_)<;>try (exfalso;omega))|(refine is_neq rfl rfl (fun _=>?_) (fun _=>?_)<;>try (exfalso;omega))|refine ru_iteT rfl ?_|refine ru_iteF rfl ?_|refine is_not rfl rfl ?_|refine is_addS rfl rfl (by omega) ?_|refine is_subS rfl rfl (by omega) ?_|refine is_eqs rfl rfl rfl rfl ?_|refine is_boxG rfl rfl rfl ?_|refine is_stT rfl rfl rfl rfl rfl rfl ?_|refine is_callE rfl rfl rfl (hRo) ?_|refine is_callE rfl rfl rfl (p1) ?_|refine is_callE rfl rfl rfl (hGa) ?_|refine is_callE rfl rfl rfl (hGb) ?_|refine is_callE rfl rfl rfl (hEq _) ?_|refine ru_skip ?_|refine ru_block ?_|refine rk_blk ?_|refine rk_inv ?_)
   all_goals try contradiction
   all_goals try (exfalso;omega)
   all_goals first|exact absurd rfl ‹_›|exact ⟨(j+1,rj.add x,rset ρj it.rx rj.next,_),⟨rfl,rfl⟩,hend,by simp only;omega⟩
 ·obtain rfl:j=its.length:=by omega
  have hrun:=hI.run
  rw [List.drop_length] at hrun
  obtain ⟨_,e2,e3⟩:=hrun.nil_inv
  subst e2
  rw [← hhl]
  repeat' (first|refine len1L rfl ?_|refine ru_seq ?_|refine ru_reg ?_|refine is_mv rfl ?_|refine is_nil rfl ?_|refine rk_seq ?_|(refine is_lss rfl rfl (fun _=>?_) (fun _=>?_)<;>try (exfalso;omega))|refine ru_iteF rfl ?_|refine ru_exit ?_|refine rk_seq_ex ?_|refine rk_blk_eq rfl ?_|refine rk_inv_ex ?_)
  all_goals try (exfalso;omega)
  exact hQ L ρj hI (by rw [e3])
end Go.Q15
namespace Go.Q15
open Go Go.QAbs
set_option maxRecDepth 100000
set_option maxHeartbeats 16000000
structure PnO (A:List (Bool × List Blk)) (L:List Blk) (B0:Nat) (N0:Nodes) (r:AR):Prop where
 ha:Has ⟨A,false,L⟩ A.length 0 r
 hb:Has ⟨A,false,L⟩ A.length B0 r
 ok:AROk r
 good:GoodN r.nodes
 ext:Ext N0 r.nodes
theorem RopePens_c (texts:List (List UInt8)) (ys:List Ed) (hb:texts.length<9223372036854775808) (hbs:∀ s∈texts,s.length<9223372036854775808) (hy:ys.length<9223372036854775808) (hys:∀ y∈ys,y.text.length<9223372036854775808) (st:St) :
 S T3 F_quartolaw16_RopePens [.lit (texts.map .str),.lit (ys.map Ed.av)] st=some (.bool true,st):=by
 refine s_of (le3 F_quartolaw16_RopePens (.pf p_quartolaw16_RopePens) rfl) (fun A hA=>?_)
 have hLg:=fun st=>up3 (long_c texts hb hbs st)
 have hMn:=fun st=>up3 (many16_c ys hy hys st)
 have hWk:=fun st=>works_c st
 by_cases hl:longP texts
 ·simp only [decide_eq_true hl] at hLg
  repeat' (first|refine ru_seq ?_|refine ru_reg ?_|refine is_mv rfl ?_|refine is_gF rfl rfl ?_|refine is_pick rfl rfl rfl rfl ?_|refine is_nil rfl ?_|refine rk_seq ?_|refine ru_iteT rfl ?_|refine is_callE rfl rfl rfl (hLg _) ?_|refine is_callE rfl rfl rfl (hWk _) ?_|refine ru_ret ?_|refine rk_nil ?_|refine rk_seq_ret ?_)
  all_goals try contradiction
  all_goals try (exfalso;omega)
  all_goals refine end_st hA (by first|exact .inl rfl|exact .inr rfl) rfl rfl rfl rfl ?_
  all_goals rfl
 simp only [decide_eq_false hl] at hLg
 by_cases hm:manyQ ys
 ·simp only [decide_eq_true hm] at hMn
  repeat' (first|refine ru_seq ?_|refine ru_reg ?_|refine is_mv rfl ?_|refine is_gT rfl ?_|refine is_gF rfl rfl ?_|refine is_pick rfl rfl rfl rfl ?_|refine is_nil rfl ?_|refine rk_seq ?_|refine ru_iteT rfl ?_|refine is_callE rfl rfl rfl (hLg _) ?_|refine is_callE rfl rfl rfl (hMn _) ?_|refine is_callE rfl rfl rfl (hWk _) ?_|refine ru_ret ?_|refine rk_nil ?_|refine rk_seq_ret ?_)
  all_goals try contradiction
  all_goals try (exfalso;omega)
  all_goals refine end_st hA (by first|exact .inl rfl|exact .inr rfl) rfl rfl rfl rfl ?_
  all_goals rfl
 simp only [decide_eq_false hm] at hMn
 obtain ⟨h9,hm60⟩:=guards hl hm
 obtain ⟨r0,ros0,G0,hLd,hok,hgd,hrt,hlv,_⟩:=laid_sh texts h9 A
 have hP:PlanOk r0.nodes ros0:=hrt.plan hgd (by have:=hrt.1;omega) (fun s hs=>by have:=laid_small h9.1 s hs;omega)
 have hrl:=hrt.1
 have hL2:=up3 (laid_c texts h9.1 h9.2 A (shL A.length r0 texts.length ros0 G0))
 rw [hlv] at hL2
 simp only at hL2
 obtain ⟨X,hX⟩:∃ X,X=shL A.length r0 texts.length ros0 G0:=⟨_,rfl⟩
 obtain ⟨Y,hY⟩:∃ Y,Y=X++(arB A.length X.length r0++(.arr 5 texts.length (ros0.map Ro.av)::boxesR ros0)):=⟨_,rfl⟩
 have hXl:7≤X.length:=by rw [hX,sh_len];omega
 have ha0:Has ⟨A,false,Y⟩ A.length 0 r0:=by rw [hY];refine Has.app ?_ _;rw [hX];exact sh_has
 have hb0:Has ⟨A,false,Y⟩ A.length X.length r0:=by rw [hY];exact has_cur A X _ r0
 have y6:Y[6]?=some (.arr 5 texts.length (ros0.map Ro.av)):=by rw [hY,List.getElem?_append_left (by omega),hX];exact sh_6
 have y7:Y[X.length+6]?=some (.arr 5 texts.length (ros0.map Ro.av)):=by rw [hY,get_app];rfl
 have hEq:=up3 (EqualRoots_c (st:=⟨A,false,Y⟩) (lv:=A.length) (i1:=6) (i2:=X.length+6) (v1:=texts.length) (v2:=texts.length) (n:=texts.length) hrl.symm (get_top y6 rfl) (get_top y7 rfl) (by omega))
 have hPl:=up3 (plans_c (b:=0) hgd ha0.r.rd (get_top y6 rfl) hP (ys:=ys) (by omega) hm60.2)
 rw [hrl] at hPl
 rw [← hX] at hLd hL2
 rw [← hY] at hL2
 repeat' (first|refine len1L rfl ?_|refine ru_seq ?_|refine ru_reg ?_|refine is_mv rfl ?_|refine is_gT rfl ?_|refine is_pick rfl rfl rfl rfl ?_|refine is_ext rfl rfl ?_|refine is_nil rfl ?_|refine rk_seq ?_|(refine is_gtr rfl rfl (fun _=>?_) (fun _=>?_)<;>try (exfalso;omega))|refine ru_iteT rfl ?_|refine ru_iteF rfl ?_|refine is_not rfl rfl ?_|refine is_callE rfl rfl rfl (hLg _) ?_|refine is_callE rfl rfl rfl (hMn _) ?_|refine is_callE rfl rfl rfl (hWk _) ?_|refine is_callE rfl rfl rfl (hLd) ?_|refine is_callE rfl rfl rfl (hL2) ?_|refine is_callE rfl rfl rfl (hEq) ?_|refine is_callE rfl rfl rfl (hPl) ?_|refine ru_skip ?_|refine ru_ret ?_|refine ru_block ?_|refine rk_nil ?_|refine rk_seq_ret ?_)
 all_goals try contradiction
 all_goals try (exfalso;omega)
 ·refine end_st hA (by first|exact .inl rfl|exact .inr rfl) rfl rfl rfl rfl ?_
  rfl
 rename_i h15
 obtain ⟨B0,hB0⟩:∃ B0,B0=X.length:=⟨_,rfl⟩
 rw [← hB0] at hb0 hXl ⊢
 clear hL2 hEq hPl hLd
 refine ru_loopP (α:=Nat × AR × List Blk) (fun q=>[(5,.ptr A.length 5 0 0 0),(8,.ptr A.length (B0+5) 0 0 0),(11,.lit ((ys.map (planV r0.nodes ros0)).map Tr.av)),(12,.int .i64 q.1)])
  (fun q=>⟨A,false,q.2.2⟩) (fun q=>q.1≤ys.length∧PnO A q.2.2 B0 r0.nodes q.2.1) (fun q=>ys.length-q.1) (0,r0,Y) rfl rfl ⟨Nat.zero_le _,ha0,hb0,hok,hgd,Ext.refl _⟩ ?_
 rintro ⟨i,r,L⟩ ⟨hi,hI⟩
 simp only at hi hI ⊢
 have hyl:(ys.map (planV r0.nodes ros0)).length=ys.length:=List.length_map ..
 have o1:=hI.ok.n16
 have o2:=hI.ok.nn
 rcases Nat.lt_or_ge i ys.length with hlt|hge
 ·obtain ⟨y,hyi⟩:∃ y,ys[i]?=some y:=⟨ys[i]'(by omega),by simp [hlt]⟩
  have hy2:=hm60.2 y (List.mem_of_getElem? hyi)
  obtain ⟨hv,hvb⟩:=planV_ok hgd hP hy2
  have hti:(ys.map (planV r0.nodes ros0))[i]?=some (planV r0.nodes ros0 y):=by rw [List.getElem?_map,hyi];rfl
  generalize planV r0.nodes ros0 y=t at *
  generalize ys.map (planV r0.nodes ros0)=ts at *
  have q:0≤((i:Nat):Int)∧ts[((i:Nat):Int).toNat]?=some t:=⟨by omega,by rw [show ((i:Nat):Int).toNat=i by omega];exact hti⟩
  replace hv:=hv.ext hI.ext
  have hvo:=own_ve hv
  have hCp:=fun st=>up3 (Copy_c t hv.pos.1 st)
  have hbl:=get_lt hI.hb.h5
  rcases Nat.lt_or_ge r.n (nw t) with hfull|hroom
  ·have hWr:=up3 (Write_full hI.ha hI.ok hI.good hv (by omega) hfull)
   have hBg:=up3 (begin_full (hI.hb.app [.arr 5 0 [Ro.zero.av]]).r hI.ok.nb o1 (by omega) hI.good hvo (by rw [own_bytes];omega) (by rw [nw_own];exact hfull))
   repeat' (first|refine len1L rfl ?_|refine is_ixKn rfl rfl q tr_wide ?_|refine is_callE rfl rfl (wk1 _) (hCp _) ?_|refine ru_seq ?_|refine ru_reg ?_|refine is_mv rfl ?_|refine is_gT rfl ?_|refine is_pick rfl rfl rfl rfl ?_|refine is_ext rfl rfl ?_|refine is_nil rfl ?_|refine rk_seq ?_|(refine is_lss rfl rfl (fun _=>?_) (fun _=>?_)<;>try (exfalso;omega))|(refine is_neq rfl rfl (fun _=>?_) (fun _=>?_)<;>try (exfalso;omega))|refine ru_iteT rfl ?_|refine ru_iteF rfl ?_|refine is_eqs rfl rfl rfl rfl ?_|refine is_boxG rfl rfl rfl ?_|refine is_stT rfl rfl rfl rfl rfl rfl ?_|refine is_ldl rfl (tr_part _) ?_|refine is_callE rfl rfl (by first|rfl|(simp only [List.nil_append,List.append_nil,List.cons_append,weaks,tr_weak,forceL];first|done|rfl)) (hWr) ?_|refine is_callE rfl rfl (by first|rfl|(simp only [List.nil_append,List.append_nil,List.cons_append,weaks,tr_weak,forceL];first|done|rfl)) (hBg) ?_|refine is_callE rfl rfl (by first|rfl|(simp only [List.nil_append,List.append_nil,List.cons_append,weaks,tr_weak,forceL];first|done|rfl)) (hWk _) ?_|refine ru_skip ?_|refine ru_ret ?_|refine ru_block ?_|refine rk_nil ?_|refine rk_seq_ret ?_|refine rk_blk_ret ?_|refine rk_inv_ret ?_)
   all_goals try contradiction
   all_goals try (exfalso;omega)
   all_goals refine end_st hA (by first|exact .inl rfl|exact .inr rfl) rfl rfl rfl rfl ?_
   all_goals rfl
  ·have hWr:=up3 (Write_c hI.ha hI.ok hI.good hv (by omega) hroom)
   obtain ⟨w1,w2⟩:=wr_rt hI.ha hI.ok hI.good hv (by omega) hroom
   rw [arSt_L] at hWr
   obtain ⟨L1,hL1⟩:∃ L1,L1=arL L A.length 0 (wrV t r).1:=⟨_,rfl⟩
   have hl1:L1.length=L.length:=by rw [hL1,arL_len]
   have ha1:Has ⟨A,false,L1⟩ A.length 0 (wrV t r).1:=by
    have:=hI.ha.put (wrV t r).1
    rw [arSt_L,← hL1] at this
    exact this
   have hb1:Has ⟨A,false,L1⟩ A.length B0 r:=hI.hb.frmL fun i h1 h2=>by rw [hL1,arL_ne _ (by omega)]
   rw [← hL1] at hWr
   obtain ⟨L2,tx,ver,cs,its,F,keys,rx,ρ,hS,hBg⟩:=begin_c (hb1.app [.arr 5 0 [(wrV t r).2.1.av]]).r hI.ok.nb o1 (by omega) hvo (by rw [own_bytes];omega) (by rw [nw_own];exact hroom)
   obtain ⟨ρ',hrun,hro⟩:=hBg.pi.run hI.ok hI.good hvo (by rw [own_bytes];omega) (by rw [nw_own];exact hroom)
   rw [wrV_own] at hrun hro
   have hla:(L1++[Blk.arr 5 0 [(wrV t r).2.1.av]]).length=L1.length+1:=by simp
   have h2l:=hBg.len
   have old:=hBg.old
   rw [hla] at h2l old
   have n1:=w1.ok.n16
   have n2:=w1.ok.nn
   generalize (wrV t r).1=r2 at *
   generalize (wrV t r).2.1=ro at *
   generalize (wrV t r).2.2=hh at *
   have hhl:=hrun.len
   have hcl:=hBg.ps.cl.len
   have hP0:PnI A L2 B0 L1.length ((L1++[Blk.arr 5 0 [ro.av]]).length+1) tx ver rx cs its F keys r2 ρ' hh ro 0 r ρ:=by
    refine ⟨hBg.ps,(ha1.app [.arr 5 0 [ro.av]]).frmL fun i h1 h2=>old i (by omega),(hb1.app [.arr 5 0 [ro.av]]).frmL fun i h1 h2=>old i (by omega),hI.ok,by rw [List.drop_zero,List.drop_zero];exact hrun,?_,Nat.zero_le _⟩
    rw [old _ (by omega)];exact List.getElem?_concat_length ..
   have hkk:∀ k∈keys,L1.length<k:=fun k hk=>by have:=hBg.klo k hk;rw [hla] at this;omega
   have hS:=up3 hS
   have f13:(L1++[Blk.arr 5 0 [ro.av]])[L1.length]?=some (.arr 5 0 [ro.av]):=List.getElem?_concat_length ..
   repeat' (first|refine pens_loop hP0 hhl ⟨by omega,by omega,by omega⟩ hkk (fun L3 ρ3 hI3 hρ3=>?_)|refine len1L rfl ?_|refine is_ixKn rfl rfl q tr_wide ?_|refine is_callE rfl rfl (wk1 _) (hCp _) ?_|refine ru_seq ?_|refine ru_reg ?_|refine is_mv rfl ?_|refine is_gT rfl ?_|refine is_pick rfl rfl rfl rfl ?_|refine is_ext rfl rfl ?_|refine is_nil rfl ?_|refine rk_seq ?_|(refine is_lss rfl rfl (fun _=>?_) (fun _=>?_)<;>try (exfalso;omega))|(refine is_neq rfl rfl (fun _=>?_) (fun _=>?_)<;>try (exfalso;omega))|refine ru_iteT rfl ?_|refine ru_iteF rfl ?_|refine is_eqs rfl rfl rfl rfl ?_|refine is_boxG rfl rfl rfl ?_|refine is_stT rfl rfl rfl rfl rfl rfl ?_|refine is_ldl rfl (tr_part _) ?_|refine is_callE rfl rfl (by first|rfl|(simp only [List.nil_append,List.append_nil,List.cons_append,weaks,tr_weak,forceL];first|done|rfl)) (hWr) ?_|refine is_callE rfl rfl (by first|rfl|(simp only [List.nil_append,List.append_nil,List.cons_append,weaks,tr_weak,forceL];first|done|rfl)) (hS) ?_|refine ru_skip ?_|refine ru_block ?_)
   all_goals try contradiction
   all_goals try (exfalso;omega)
   have hSt:=up3 (Stats_c hI3.hb.r w1.ok.nb n1 (by omega))
   have hSe:=up3 (Step_end (hI3.ps.app [.arr 7 0 [r2.statsAV]]) (by omega))
   have hRt:=up3 (Root_c (hI3.ps.app [.arr 7 0 [r2.statsAV]]) (by omega))
   rw [hρ3,hro] at hRt
   have hSp:=up3 (Stats_c ((hI3.hb.app [.arr 7 0 [r2.statsAV]]).app [.arr 5 0 [ro.av]]).r.allRo w1.ok.nb n1 (by omega))
   have he1:=eqvRoT ro
   have he2:=eqStats r2
   have hl13:=(List.getElem?_eq_some_iff.1 hI3.b13).1
   have f13:∀ b c:Blk,(L3++[b]++[c])[L1.length]?=some (.arr 5 0 [ro.av]):=fun b c=>by
    rw [List.getElem?_append_left (by rw [List.length_append];omega),List.getElem?_append_left hl13];exact hI3.b13
   have f28:∀ b c:Blk,(L3++[b]++[c])[L3.length]?=some b:=fun b c=>by
    rw [List.getElem?_append_left (by simp)];exact List.getElem?_concat_length ..
   have hend:PnO A (L3++[.arr 7 0 [r2.statsAV]]++[.arr 5 0 [ro.av]]) B0 r0.nodes r2:=⟨(hI3.ha.app _).app _,(hI3.hb.app _).app _,w1.ok,w1.good,hI.ext.trans w1.ext⟩
   unfold AR.statsAV Ro.av at *
   repeat' (first|refine is_ldc rfl (f13 _ _) rfl rfl ?_|refine is_ldc rfl (f28 _ _) rfl rfl ?_|refine is_eqs rfl rfl he1 rfl ?_|refine is_eqs rfl rfl he2 rfl ?_|refine ru_seq ?_|refine ru_reg ?_|refine is_mv rfl ?_|refine is_gT rfl ?_|refine is_pick rfl rfl rfl rfl ?_|refine is_ext rfl rfl ?_|refine is_nil rfl ?_|refine rk_seq ?_|refine is_ldT rfl rfl rfl ?_|(refine is_neq rfl rfl (fun _=>?_) (fun _=>?_)<;>try (exfalso;omega))|refine ru_iteF rfl ?_|refine is_not rfl rfl ?_|refine is_addS rfl rfl (by omega) ?_|refine is_boxG rfl rfl rfl ?_|refine is_stT rfl rfl rfl rfl rfl rfl ?_|refine is_callE rfl rfl rfl (hSt) ?_|refine is_callE rfl rfl rfl (hSe) ?_|refine is_callE rfl rfl rfl (hRt) ?_|refine is_callP rfl rfl rfl hSp ?_|refine ru_skip ?_|refine rk_blk ?_|refine rk_inv ?_)
   all_goals try contradiction
   all_goals try (exfalso;omega)
   exact ⟨(i+1,r2,_),⟨rfl,rfl⟩,⟨by simp only;omega,hend⟩,by simp only;omega⟩
 ·obtain rfl:i=ys.length:=by omega
  repeat' (first|refine len1L rfl ?_|refine ru_seq ?_|refine ru_reg ?_|refine is_mv rfl ?_|refine is_nil rfl ?_|refine rk_seq ?_|(refine is_lss rfl rfl (fun _=>?_) (fun _=>?_)<;>try (exfalso;omega))|refine ru_iteF rfl ?_|refine is_callE rfl rfl rfl (hWk _) ?_|refine ru_ret ?_|refine ru_exit ?_|refine rk_nil ?_|refine rk_seq_ex ?_|refine rk_blk_eq rfl ?_|refine rk_inv_ex ?_)
  all_goals try (exfalso;omega)
  refine end_st hA (by first|exact .inl rfl|exact .inr rfl) rfl rfl rfl rfl ?_
  rfl
end Go.Q15
namespace Go.Q15
open Go Go.QAbs
theorem ropePens_run (ss:List (List UInt8)) (l:List (Nat × Int × Int × Int × List UInt8)) (h1:∀ s∈ss,s.length≤maxLen) (h2:ss.length≤maxLen) (h3:∀ s∈l,s.2.2.2.2.length≤maxLen) (h4:l.length≤maxLen) :
 ∃ st',S T3 F_quartolaw16_RopePens [.lit (ss.map .str),.lit (l.map fun q=>.agg [.int .u8 q.1,.int .i64 q.2.1,.int .i64 q.2.2.1,.int .i64 q.2.2.2.1,.str q.2.2.2.2])] .empty=some (.bool true,st') :=
 run_to RopePens_c ss l h1 h2 h3 h4
end Go.Q15
