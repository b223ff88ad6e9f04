/- A part of the proof: MW, M33, M34, M35, M36, M40, M37, M38, M39, M41, M42, PS, M43, M45, M44, M46, M47, M48, M49, M50, M51. No condition. -/
import Derived.Test.YtajokjfjifcdkaaT7
set_option linter.unusedVariables false
set_option linter.unusedSimpArgs false
namespace Go.Q15
open Go Go.QAbs
set_option maxRecDepth 100000
set_option maxHeartbeats 4000000
def hd (N:Nodes):Nat:=1*65536+N.length
def Ord (N:Nodes):Prop:=∀ i p,N[i]?=some p→p.1=1*65536+i
theorem lk_none:∀ {N:Nodes} {o:Nat},(∀ p∈N,p.1≠o)→lk N o=none
 | [],o,_=>rfl
 | p::N,o,h=>by
  rw [lk,if_neg (h p (by simp))]
  exact lk_none (fun q hq=>h q (by simp [hq]))
theorem lk_app:∀ {N M:Nodes} {o:Nat},lk (N++M) o=(lk N o).or (lk M o)
 | [],M,o=>by simp [lk]
 | p::N,M,o=>by
  rw [List.cons_append,lk,lk]
  by_cases c:p.1=o
  ·rw [if_pos c,if_pos c];rfl
  ·rw [if_neg c,if_neg c,lk_app]
theorem lk_mono {N M:Nodes} {o:Nat} {x:Nd} (h:lk N o=some x):lk (N++M) o=some x:=by rw [lk_app,h];rfl
theorem Ord.fresh {N:Nodes} (h:Ord N):lk N (hd N)=none:=by
 refine lk_none (fun p hp=>?_)
 obtain ⟨i,hi⟩:=List.mem_iff_getElem?.1 hp
 have h1:=h i p hi
 have h2:=(List.getElem?_eq_some_iff.1 hi).1
 unfold hd;omega
theorem Ord.snoc {N:Nodes} (h:Ord N) (x:Nd):Ord (N++[(hd N,x)]):=by
 intro i p hp
 rcases Nat.lt_trichotomy i N.length with q|q|q
 ·rw [List.getElem?_append_left q] at hp;exact h i p hp
 ·subst q
  rw [List.getElem?_append_right (Nat.le_refl _)] at hp
  simp at hp
  rw [← hp];rfl
 ·have:=(List.getElem?_eq_some_iff.1 hp).1
  simp at this;omega
theorem lk_snoc {N:Nodes} (h:Ord N) (x:Nd):lk (N++[(hd N,x)]) (hd N)=some x:=by
 rw [lk_app,h.fresh,lk,if_pos rfl];rfl
theorem lk_snoc_inv {N:Nodes} {x y:Nd} {o:Nat} (h:lk (N++[(hd N,x)]) o=some y):lk N o=some y∨(o=hd N∧y=x):=by
 rw [lk_app] at h
 cases q:lk N o with
 | some z=>rw [q] at h;exact .inl h
 | none =>
  rw [q] at h
  simp only [Option.none_or,lk] at h
  by_cases c:hd N=o
  ·rw [if_pos c] at h;exact .inr ⟨c.symm,(Option.some.inj h).symm⟩
  ·rw [if_neg c] at h;simp at h
theorem GoodN.snoc {N:Nodes} (hN:GoodN N) {x:Nd} (hx:NdOk x) (hk:∀ k∈x.ks,k.at_≠0∧∃ y,lk N k.at_=some y∧y.h+1=x.h∧y.mea=k.m):GoodN (N++[(hd N,x)]):=by
 intro o y hy
 rcases lk_snoc_inv hy with q|⟨_,rfl⟩
 ·refine ⟨(hN o y q).1,fun k hk=>?_⟩
  obtain ⟨h0,z,h1,h2⟩:=(hN o y q).2 k hk
  exact ⟨h0,z,lk_mono h1,h2⟩
 ·refine ⟨hx,fun k hk'=>?_⟩
  obtain ⟨h0,z,h1,h2⟩:=hk k hk'
  exact ⟨h0,z,lk_mono h1,h2⟩
theorem good_nil:GoodN []:=fun o x h=>by simp [lk] at h
theorem ord_nil:Ord []:=fun i p h=>by simp at h
def Chain (P:Nodes→Tr→Nodes→Kid→Prop):Nodes→List Tr→Nodes→List Kid→Prop
 | N,[],N',l=>N'=N∧l=[]
 | N,t::ts,N',l=>∃ N1 k l1,P N t N1 k∧Chain P N1 ts N' l1∧l=k::l1
def WrH:Nat→Nodes→Tr→Nodes→Kid→Prop
 | 0,N,t,N',k=>∃ s ks,t=.mk 0 0 .zero s ks∧ks.getD []=[]∧leafP s∧N'=N++[(hd N,⟨0,s,some []⟩)]∧k=⟨hd N,meaT s⟩
 | n + 1, N, t, N', k => ∃ ts N1 l, t = .mk 0 (n + 1) .zero [] (some ts) ∧ (2 ≤ ts.length ∧ ts.length ≤ 4) ∧ n ≤ 15 ∧ Chain (WrH n) N ts N1 l ∧ l.length = ts.length ∧ (∀ k ∈ l, KidOk n k) ∧ (sumM (l.map Kid.m)).b ≤ 65536 ∧ KidsLive N1 n l ∧
     N'=N1++[(hd N1,⟨n+1,[],some l⟩)]∧k=⟨hd N1,sumM (l.map Kid.m)⟩
theorem feeds_begins (s:List UInt8):s.countP feedsB≤s.countP beginsB:=by
 refine List.countP_mono_left (fun b _ h=>?_)
 unfold feedsB at h
 unfold beginsB
 simp at h ⊢
 omega
theorem NdOk.kid {y:Nd} (h:NdOk y) (hl:(leastB y.h:Int)≤y.mea.b) {a:Nat} (ha:handleP a):KidOk y.h ⟨a,y.mea⟩:=by
 rcases h with h|⟨n,ks,h⟩
 ·have hm:y.mea=meaT y.text:=by unfold Nd.mea;rw [if_pos h.h]
  have h1:=h.hi
  have h2:=feeds_begins y.text
  have h3:=List.countP_le_length (p:=beginsB) (l:=y.text)
  refine ⟨ha,hl,?_,?_,?_,?_,?_⟩
  all_goals simp only [hm,meaT,h.h,mostB]
  all_goals omega
 ·have e:=h.eq
  subst e
  have hms:Nd.mea ⟨n+1,[],some ks⟩=sumM (ks.map Kid.m):=rfl
  have hs:=h.sum
  have hhi:=h.hi
  have hk:=h.kid
  have key:∀ (l:List Kid),(∀ k∈l,KidOk n k)→(sumM (l.map Kid.m)).b≤l.length*(mostB n:Int)∧0≤(sumM (l.map Kid.m)).r∧(sumM (l.map Kid.m)).r≤(sumM (l.map Kid.m)).b∧0≤(sumM (l.map Kid.m)).l∧(sumM (l.map Kid.m)).l≤(sumM (l.map Kid.m)).r:=by
   intro l
   induction l with
   | nil=>intro _;simp [sumM,Mea.zero]
   | cons k l ih =>
    intro hk
    obtain ⟨i1,i2,i3,i4,i5⟩:=ih (fun k hk'=>hk k (by simp [hk']))
    have hk1:=hk k (by simp)
    have a1:=hk1.hi
    have a2:=hk1.r0
    have a3:=hk1.rb
    have a4:=hk1.l0
    have a5:=hk1.lr
    simp only [List.map_cons,sumM,Mea.add,List.length_cons]
    have:((l.length+1:Nat):Int)*(mostB n:Int)=l.length*(mostB n:Int)+mostB n:=by
     rw [Int.natCast_add,Int.add_mul];simp
    refine ⟨?_,?_,?_,?_,?_⟩<;>omega
  obtain ⟨k1,k2,k3,k4,k5⟩:=key ks hk
  have h4:(ks.length:Int)*(mostB n:Int)≤4*(mostB n:Int):=Int.mul_le_mul_of_nonneg_right (by omega) (by omega)
  have hm:=mostB_le n
  refine ⟨ha,hl,?_,?_,?_,?_,?_⟩
  all_goals simp only [hms,mostB]
  all_goals omega
structure Wrote (n:Nat) (N:Nodes) (t:Tr) (N':Nodes) (k:Kid) (T:Nodes):Prop where
 wr:WrH n N t N' k
 app:N'=N++T
 good:GoodN N'
 ord:Ord N'
 live:∃ y,lk N' k.at_=some y∧NdOk y∧y.h=n∧y.mea=k.m
 hnd:handleP k.at_
 bytes:k.m.b=t.bytes
 few:4*(T.length:Int)≤t.bytes+4
 big:Big t→4*(T.length:Int)+4≤t.bytes
theorem chain_ex {n:Nat} (hn:n≤15) (ih:∀ t,Val [] t→t.h=n→∀ N,GoodN N→Ord N→4*(N.length:Int)+t.bytes≤65000→∃ N' k T,Wrote n N t N' k T) :
 ∀ ts:List Tr,(∀ t∈ts,Val [] t∧t.h=n∧Big t)→∀ N,GoodN N→Ord N→4*(N.length:Int)+Tr.bytesL ts≤65000 →
  ∃ N' l T,Chain (WrH n) N ts N' l∧N'=N++T∧GoodN N'∧Ord N'∧l.length=ts.length∧(∀ k∈l,KidOk n k)∧KidsLive N' n l∧(sumM (l.map Kid.m)).b=Tr.bytesL ts∧4*(T.length:Int)+4*ts.length≤Tr.bytesL ts∧(∀ k∈l,k.at_≠0):=by
 intro ts
 induction ts with
 | nil=>intro _ N g o _;exact ⟨N,[],[],⟨rfl,rfl⟩,by simp,g,o,rfl,by simp,fun k hk=>by simp at hk,rfl,by simp [Tr.bytesL],by simp⟩
 | cons t ts iht =>
  intro h N g o hb
  obtain ⟨v,hh,big⟩:=h t (by simp)
  rw [Tr.bytesL] at hb
  have hp:=Tr.bytesL_nonneg (l:=ts) (fun u hu=>(h u (by simp [hu])).1.pos.1.nonneg)
  obtain ⟨N1,k,T1,w⟩:=ih t v hh N g o (by omega)
  have w1:=w.big big
  have wa:=w.app
  have hlen:N1.length=N.length+T1.length:=by rw [wa,List.length_append]
  obtain ⟨N',l,T,c1,c2,c3,c4,c5,c6,c7,c8,c9,c10⟩:=iht (fun u hu=>h u (by simp [hu])) N1 w.good w.ord (by omega)
  obtain ⟨y,y1,y2,y3,y4⟩:=w.live
  have hk:KidOk n k:=by
   have hs:=v.size good_nil big
   have:=y2.kid (a:=k.at_) (by rw [y3,y4,w.bytes,← hh];exact hs) w.hnd
   rw [y3,y4] at this
   exact this
  refine ⟨N',k::l,T1++T,⟨N1,k,l,w.wr,c1,rfl⟩,by rw [c2,wa,List.append_assoc],c3,c4,by simp [c5],?_,?_,?_,?_,?_⟩
  ·intro k' hk'
   rcases List.mem_cons.1 hk' with rfl|q
   ·exact hk
   ·exact c6 k' q
  ·intro k' hk'
   rcases List.mem_cons.1 hk' with rfl|q
   ·exact ⟨y,by rw [c2];exact lk_mono y1,y2,y3,y4⟩
   ·exact c7 k' q
  ·simp only [List.map_cons,sumM,Mea.add,Tr.bytesL,c8,w.bytes]
  ·simp only [List.length_append,List.length_cons,Tr.bytesL];omega
  ·intro k' hk'
   rcases List.mem_cons.1 hk' with rfl|q
   ·intro q;exact absurd w.hnd.2.1 (by rw [q];decide)
   ·exact c10 k' q
theorem wr_ex:∀ n t,Val [] t→t.h=n→∀ N,GoodN N→Ord N→4*(N.length:Int)+t.bytes≤65000→∃ N' k T,Wrote n N t N' k T:=by
 intro n
 have hnd:∀ N:Nodes,4*(N.length:Int)≤65000→handleP (hd N):=by
  intro N h
  unfold hd;constructor<;>omega
 induction n with
 | zero =>
  intro t v hh N g o hb
  cases v with
  | kept h0 hx=>simp [lk] at hx
  | @leaf s k h1 h2 hk =>
   have hx:NdOk ⟨0,s,some []⟩:=.inl ⟨rfl,h1,h2,rfl⟩
   have e:(Tr.mk 0 0 .zero s k).bytes=s.length:=by rw [Tr.bytes,Tr.bytesO_getD,hk];simp [Tr.bytesL,Mea.zero]
   rw [e] at hb
   refine ⟨_,_,[(hd N,⟨0,s,some []⟩)],⟨⟨s,k,rfl,hk,⟨h1,h2⟩,rfl,rfl⟩,rfl,g.snoc hx (fun k hk=>by simp [Nd.ks] at hk),o.snoc _,⟨_,lk_snoc o _,hx,rfl,rfl⟩,hnd N (by omega),?_,?_,?_⟩⟩
   ·simp only [meaT,e]
   ·rw [e];simp;omega
   ·intro hb;have:=hb rfl;simp;omega
  | inner hh=>simp [Tr.h] at *
 | succ n ih =>
  intro t v hh N g o hb
  cases v with
  | kept h0 hx=>simp [lk] at hx
  | leaf=>simp [Tr.h] at hh
  | @inner h ts h16 h2 h4 hl hb8 hv =>
   obtain rfl:h=n:=by simpa [Tr.h] using hh
   have e:(Tr.mk 0 (h+1) .zero [] (some ts)).bytes=Tr.bytesL ts:=by rw [Tr.bytes,Tr.bytesO];simp [Mea.zero]
   rw [e] at hb
   obtain ⟨N1,l,T,c1,c2,c3,c4,c5,c6,c7,c8,c9,c10⟩:=chain_ex (n:=h) (by omega) ih ts (fun t ht=>⟨hv t ht,hl t ht,fun q=>hb8 t ht (by rw [← hl t ht];exact q)⟩) N g o hb
   have hx:NdOk ⟨h+1,[],some l⟩:=.inr ⟨h,l,rfl,by omega,by omega,by omega,c6,by rw [c8];omega⟩
   have hlen:N1.length=N.length+T.length:=by rw [c2,List.length_append]
   refine ⟨_,_,T++[(hd N1,⟨h+1,[],some l⟩)],⟨⟨ts,N1,l,rfl,⟨h2,h4⟩,by omega,c1,c5,c6,by rw [c8];omega,c7,rfl,rfl⟩,?_,c3.snoc hx ?_,c4.snoc _,⟨_,lk_snoc c4 _,hx,rfl,rfl⟩,hnd N1 (by omega),?_,?_,?_⟩⟩
   ·rw [← List.append_assoc,← c2]
   ·intro k hk
    obtain ⟨y,y1,y2,y3,y4⟩:=c7 k hk
    exact ⟨c10 k hk,y,y1,by rw [y3],y4⟩
   ·simp only [c8,e]
   ·rw [e];simp only [List.length_append,List.length_singleton];omega
   ·intro _;rw [e];simp only [List.length_append,List.length_singleton];omega
theorem chain_mono {P:Nodes→Tr→Nodes→Kid→Prop} (hP:∀ N t N' k,P N t N' k→N.length<N'.length):∀ ts N N' l,Chain P N ts N' l→N.length≤N'.length
 | [],N,N',l,h=>by rw [h.1];exact Nat.le_refl _
 | t::ts,N,N',l,⟨N1,k,l1,h1,h2,_⟩=>by
  have:=hP _ _ _ _ h1
  have:=chain_mono hP ts N1 N' l1 h2
  omega
theorem wr_mono:∀ n N t N' k,WrH n N t N' k→N.length<N'.length
 | 0,N,t,N',k,⟨s,ks,_,_,_,h,_⟩=>by rw [h];simp
 | n+1,N,t,N',k,⟨ts,N1,l,_,_,_,h,_,_,_,_,h2,_⟩=>by
  have:=chain_mono (wr_mono n) ts N N1 l h
  rw [h2];simp;omega
def arOf (N:Nodes):AR:={ newAR 700 3 with n:=700-N.length,states:=(List.range 700).map fun (j:Nat)=>if j<N.length then (1:Int) else 0,nodes:=N,allocs:=N.length }
theorem arOf_nil:arOf []=newAR 700 3:=by
 unfold arOf newAR
 congr 1
theorem states_set {n k:Nat} (h:k<n):((List.range n).map fun (j:Nat)=>if j<k then (1:Int) else 0).set k 1=(List.range n).map fun (j:Nat)=>if j<k+1 then (1:Int) else 0:=by
 apply List.ext_getElem
 ·simp
 ·intro j hj hj'
  simp only [List.getElem_set,List.getElem_map,List.getElem_range]
  by_cases q:k=j
  ·subst q;simp
  ·rw [if_neg q]
   have:j<k+1↔j<k:=by omega
   simp only [this]
theorem arOf_alloc (N:Nodes) (x:Nd) (hl:N.length<700):(arOf N).alloc N.length 1 x=arOf (N++[(hd N,x.copy)]):=by
 unfold AR.alloc AR.take arOf
 simp only [List.length_append,List.length_singleton,states_set hl]
 rfl
theorem arOf_can {N:Nodes} (ho:Ord N) (hl:N.length<700):CanTake (arOf N) (699-N.length) N.length 1 where
 n:=by simp only [arOf];omega
 blk:=by
  simp only [arOf,newAR]
  rw [List.getElem?_map,List.getElem?_range (by omega)]
  simp only [Option.map_some]
  congr 1;omega
 st:=by simp [arOf];omega
 s16:=by omega
 gen:=by
  simp only [arOf,newAR]
  rw [List.getElem?_replicate,if_pos hl];rfl
 g1:=by omega
 g2:=by omega
 big:=by simp only [arOf];omega
 new:=by simp only [arOf];exact ho.fresh
 al:=by simp only [arOf];omega
end Go.Q15
namespace Go.Q15
open Go Go.QAbs
set_option maxRecDepth 100000
set_option maxHeartbeats 8000000
def Nd.lit (x:Nd):Nd:=⟨x.h,x.text,some x.ks⟩
theorem NdOk.lit {x:Nd} (h:NdOk x):NdOk x.lit:=by
 rcases h with h|⟨n,ks,h⟩
 ·exact .inl ⟨h.h,h.lo,h.hi,h.ks⟩
 ·refine .inr ⟨n,ks,?_⟩
  obtain ⟨rfl,a,b,c,d,e⟩:=h
  exact ⟨rfl,a,b,c,d,e⟩
theorem Nd.lit_mea (x:Nd):x.lit.mea=x.mea:=rfl
theorem refKids_leaf {st:St} {lv ix:Nat} (text:List UInt8):S Tb F_quartoref13_Arena_kids [.ptr lv ix 0 0 0,.agg [.int .i64 (0:Nat),.str text,.nils]] st=some (.int .i64 0,st):=by
 refine s_of rfl (fun A hA=>?_)
 repeat' (first|refine ru_seq ?_|refine ru_reg ?_|refine is_mv rfl ?_|refine is_fadr rfl rfl ?_|refine is_ldc rfl rfl rfl rfl ?_|refine is_nil rfl ?_|refine rk_seq ?_|refine is_lenN rfl ?_|(refine is_lss rfl rfl (fun _=>?_) (fun _=>?_)<;>try (exfalso;omega))|refine ru_iteF rfl ?_|refine is_box rfl rfl rfl ?_|refine ru_unroll ?_|refine ru_ret ?_|refine ru_exit ?_|refine ru_block ?_|refine rk_nil ?_|refine rk_seq_ex ?_|refine rk_blk_eq rfl ?_)
 all_goals refine end_st hA (by first|exact .inl rfl|exact .inr rfl) rfl rfl rfl rfl ?_
 all_goals rfl
theorem RRd.push {st:St} {A:List (Bool × List Blk)} {ro:Bool} {L:List Blk} (hA:A=st.A++[(st.ro,st.L)]) {lv ix:Nat} {N:Nodes} (h:RRd st lv ix N):RRd ⟨A,ro,L⟩ lv ix N:=by
 obtain ⟨l,v,c0,c1,c2,c3,c4,c5,c6,h1,h2⟩:=h
 exact ⟨l,v,c0,c1,c2,c3,c4,c5,c6,get_old hA h1,h2.push hA⟩
theorem refKids_in {st:St} {lv ix:Nat} {N:Nodes} (hr:RRd st lv ix N) (hl:N.length<4294967296) (n:Nat) (hn:n≤15) (ks:List Kid) (hk:ks.length≤4) (hL:KidsLive N n ks) {kl kx ver:Nat} (hk2:KRef st kl kx ver ks) :
 S Tb F_quartoref13_Arena_kids [.ptr lv ix 0 0 0,ndR (n+1) kl kx ver ks.length] st=some (.int .i64 0,st):=by
 have hr0:=hr
 obtain ⟨l,v,c0,c1,c2,c3,c4,c5,c6,h1,h2⟩:=hr
 refine s_of rfl (fun A hA=>?_)
 have hR:=fun L=>hr0.push hA (ro:=false) (L:=L)
 have g1:=fun L=>get_old hA (ro:=false) (L:=L) h1
 obtain ⟨es,gk,ge⟩:=hk2
 have gA:=fun L=>get_old hA (ro:=false) (L:=L) gk
 have hwi:∀ L,wIs 4 ver (St.get ⟨A,false,L⟩ kl kx)=true:=fun L=>by rw [gA];simp [wIs]
 unfold ndR
 repeat' (first|refine ru_seq ?_|refine ru_reg ?_|refine is_mv rfl ?_|refine is_nil rfl ?_|refine rk_seq ?_|refine is_box rfl rfl rfl ?_|refine ru_block ?_)
 refine ru_loopP (α:=Nat × List Blk) (fun p=>[(0,.ptr lv ix 0 0 0),(3,.ptr A.length 0 0 0 0),(5,.int .i64 p.1)]) (fun p=>⟨A,false,.arr 3 0 [.agg [.int .i64 ((n+1:Nat):Int),.str [],.ref kl kx ver 0 ks.length]]::p.2⟩) (fun p=>p.1≤ks.length) (fun p=>ks.length-p.1) (0,[]) rfl rfl (by simp) ?_
 rintro ⟨i,G⟩ hi
 simp only at hi ⊢
 repeat' (first|refine ru_seq ?_|refine ru_reg ?_|refine is_mv rfl ?_|refine is_fadr rfl rfl ?_|refine is_ldc rfl rfl rfl rfl ?_|refine is_nil rfl ?_|refine rk_seq ?_|refine is_lenR rfl ?_|(refine is_lss rfl rfl (fun _=>?_) (fun _=>?_)<;>try (exfalso;omega))|refine ru_iteT rfl ?_|refine ru_iteF rfl ?_|refine ru_skip ?_|refine ru_ret ?_|refine ru_exit ?_|refine ru_block ?_|refine rk_nil ?_|refine rk_seq_ex ?_|refine rk_blk_eq rfl ?_|refine rk_inv_ex ?_)
 ·rename_i hlt
  obtain ⟨kd,hk'⟩:∃ k,ks[i]?=some k:=⟨ks[i]'(by omega),by simp [show i<ks.length by omega]⟩
  obtain ⟨y,y1,y2,y3,y4⟩:=hL kd (List.mem_of_getElem? hk')
  obtain ⟨j,j1,j2⟩:=lk_ix y1
  have hF:=fun L=>find_c (hR L) j1 j2 hl
  have hMe:=fun st=>refNMeasure_c y.lit y2.lit st
  rw [Nd.lit_mea,y4] at hMe
  have hjl:j<N.length:=(List.getElem?_eq_some_iff.1 j1).1
  simp only [Nd.lit,Nd.av,slV,Mea.av] at hMe
  refine is_ixR rfl rfl (by omega) (hwi _) ?_
  refine is_fadr rfl rfl ?_
  refine is_ld (x:=kd.av) rfl (gA _) (kid_get ge hk') rfl ?_
  cases h2 with
  | nil=>simp at j1
  | @ref lv' ix' ver' m N es' hg hm he =>
   have g2:=fun L=>get_old hA (ro:=false) (L:=L) hg
   have hwi':∀ L,wIs 4 ver' (St.get ⟨A,false,L⟩ lv' ix')=true:=fun L=>by rw [g2];simp [wIs]
   have hit:=item_get hm he j1
   subst y3
   repeat' (first|refine ru_seq ?_|refine ru_reg ?_|refine is_mv rfl ?_|refine is_fadr rfl rfl ?_|refine is_nil rfl ?_|refine rk_seq ?_|refine is_nilck rfl rfl ?_|(refine is_lss rfl rfl (fun _=>?_) (fun _=>?_)<;>try (exfalso;omega))|refine ru_iteF rfl ?_|refine is_callE rfl rfl rfl (hF _) ?_|refine is_ld rfl (g1 _) rfl rfl ?_|refine ru_skip ?_)
   refine is_ixR rfl rfl (by omega) (hwi' _) ?_
   refine is_fadr rfl rfl ?_
   refine is_ld (x:=itemAV (kd.at_,y)) rfl (g2 _) hit rfl ?_
   repeat' (first|refine ru_seq ?_|refine ru_reg ?_|refine is_mv rfl ?_|refine is_fadr rfl rfl ?_|refine is_ldc rfl rfl rfl rfl ?_|refine is_gT rfl ?_|refine is_gF rfl rfl ?_|refine is_pick rfl rfl rfl rfl ?_|refine is_ext rfl rfl ?_|refine is_nil rfl ?_|refine rk_seq ?_|refine is_ldT rfl rfl rfl ?_|(refine is_neq rfl rfl (fun _=>?_) (fun _=>?_)<;>try (exfalso;omega))|refine ru_iteT rfl ?_|refine is_subS rfl rfl (by omega) ?_|refine is_boxG rfl rfl rfl ?_|refine is_stT rfl rfl rfl rfl rfl rfl ?_|refine is_callE rfl rfl rfl (hMe _) ?_|refine is_ld1 rfl rfl rfl ?_|refine ru_ret ?_|refine rk_nil ?_|refine rk_seq_ret ?_|refine rk_blk_ret ?_|refine rk_inv_ret ?_)
   ·rename_i q
    exact absurd (show (y.h:Int)=((y.h+1:Nat):Int)-1 by omega) q
   ·refine is_ixR rfl rfl (by omega) (hwi _) ?_
    refine is_gT rfl ?_
    refine is_fadr rfl rfl ?_
    refine is_gT rfl ?_
    refine is_ld (x:=kd.av) rfl (gA _) (kid_get ge hk') rfl ?_
    repeat' (first|refine ru_seq ?_|refine ru_reg ?_|refine is_mv rfl ?_|refine is_gT rfl ?_|refine is_pick rfl rfl rfl rfl ?_|refine is_nil rfl ?_|refine rk_seq ?_|refine ru_iteT rfl ?_|refine ru_iteF rfl ?_|refine is_addS rfl rfl (by omega) ?_|(refine is_eqsB rfl rfl (eqv3 _ _ _ _ _ _) (fun _=>?_) (fun _=>?_))|refine ru_skip ?_|refine ru_ret ?_|refine rk_nil ?_|refine rk_seq_ret ?_|refine rk_blk ?_|refine rk_blk_ret ?_|refine rk_inv ?_|refine rk_inv_ret ?_)
    ·exact ⟨(i+1,G++[_]++[_]),⟨rfl,rfl⟩,by simp only;omega,by simp only;omega⟩
    ·rename_i q
     exact (q ⟨rfl,rfl,rfl⟩).elim
 ·refine end_st hA (by first|exact .inl rfl|exact .inr rfl) rfl rfl rfl rfl ?_
  rfl
end Go.Q15
namespace Go.Q15
open Go Go.QAbs
set_option maxRecDepth 100000
set_option maxHeartbeats 8000000
section
variable {O:Orc} {k:List Fr} {Q:Post} {e:Env} {A:List (Bool × List Blk)} {L L0 T T':List Blk} {keep:List Nat} {is:List PI} {d:Nat}
theorem is_appNA {w bytes m:Nat} {s x:Opd} {y:AV} (hs:opdO e s=some .nils) (hx:opdO e x=some (.lit [y])) (hw:bytes≤4096) (hsm:y.wide=some w) (hm:lenO T=some m) (hL:forceB (T++[Blk.arr w 0 [y]])=some T')
 (h:Is O is keep k Q ((d,.ref A.length (L0.length+m) 0 0 1)::e) ⟨A,false,L0++T'⟩):Is O (⟨some d,none,false,.app w bytes s x⟩::is) keep k Q e ⟨A,false,L0++T⟩:=by
 rw [← forceB_some hL,← lenO_some hm,← List.append_assoc,← List.length_append] at h
 refine is_of (v:=.ref A.length (L0++T).length 0 0 1) (st':=⟨A,false,L0++T++[Blk.arr w 0 [y]]⟩) ?_ h
 have hw2:sameW w [y]=true:=by simp [sameW,hsm]
 simp only [evalPI,evalPO,opdO_some hs,opdO_some hx,elems,Option.bind_some,appendV,hw2,List.length_singleton,if_pos (show 1<4294967296∧bytes≤4096∧True from ⟨by decide,hw,trivial⟩),St.new_cur,newRefK]
theorem is_appRA {w bytes:Nat} {s x:Opd} {ix ver n:Nat} {es:List AV} {y:AV} (hs:opdO e s=some (.ref A.length (L0.length+ix) ver 0 n)) (hx:opdO e x=some (.lit [y])) (hg:T[ix]?=some (Blk.arr w ver es)) (hb:n=es.length)
 (hl:es.length+1<4294967296) (hw:bytes≤4096) (hsm:y.wide=some w) (hm:sealV deep (A.length+1) ⟨A,false,L0++T⟩ y=some (y,⟨A,false,L0++T⟩)) (hL:forceB (T.set ix (Blk.arr w (ver+1) (es++[y])))=some T')
 (h:Is O is keep k Q ((d,.ref A.length (L0.length+ix) (ver+1) 0 (n+1))::e) ⟨A,false,L0++T'⟩):Is O (⟨some d,none,false,.app w bytes s x⟩::is) keep k Q e ⟨A,false,L0++T⟩:=by
 rw [← forceB_some hL,← set_app] at h
 exact is_app1N hs hx (by rw [get_app];exact hg) hb hl hw hsm hm h
end
def r0 (lv b k:Nat):Blk:=.arr 4 0 [.agg [.int .u64 3,.ref lv (b+1) 699 0 700,.ref lv (b+2) 699 0 700,.ref lv (b+3) 699 0 (700-k)]]
def r1 (k:Nat):Blk:=.arr 1 699 (((List.range 700).map fun (j:Nat)=>if j<k then (1:Int) else 0).map (.int .i64))
def r2:Blk:=.arr 1 699 (List.replicate 700 (.int .u64 1))
def r3:Blk:=.arr 1 699 ((List.range 700).map fun (j:Nat)=>.int .i64 ((700:Int)-1-j))
def itV (lv it:Nat):Nodes→AV
 | []=>.nils
 | p::N=>.ref lv it N.length 0 (N.length+1)
def r4 (lv b it:Nat) (N:Nodes):Blk:=.arr 9 0 [.agg [.ptr lv b 0 0 0,itV lv it N,.int .i64 0,.int .i64 0,.int .i64 0,.int .i64 0,.int .i64 N.length,.int .i64 0,.int .i64 0]]
theorem rlNew_c (m g:Nat) (hm:m<16384) (hg:1≤g∧g≤4294967295) (A:List (Bool × List Blk)) (L0:List Blk) :
 S Tb F_quartoref11_New [.int .i64 ((m+1:Nat):Int),.int .u64 g] ⟨A,false,L0⟩=some (.tup [.ptr A.length (L0.length+0) 0 0 0,.int .i64 0],⟨A,false,L0 ++
  [.arr 4 0 [.agg [.int .u64 g,.ref A.length (L0.length+1) m 0 (m+1),.ref A.length (L0.length+2) m 0 (m+1),.ref A.length (L0.length+3) m 0 (m+1)]],
   .arr 1 m (List.replicate (m+1) (.int .i64 0)),.arr 1 m (List.replicate (m+1) (.int .u64 1)),.arr 1 m ((List.range (m+1)).map fun (j:Nat)=>.int .i64 (((m+1:Nat):Int)-1-j))]⟩):=by
 refine s_keep rfl ?_
 have e0:(⟨A,false,L0⟩:St)=⟨A,false,L0++[]⟩:=by rw [List.append_nil]
 rw [e0]
 repeat' (first|refine is_boxA rfl rfl rfl rfl rfl ?_|refine ru_seq ?_|refine ru_reg ?_|refine is_mv rfl ?_|refine is_gT rfl ?_|refine is_pick rfl rfl rfl rfl ?_|refine is_nil rfl ?_|refine rk_seq ?_|(refine is_lss rfl rfl (fun _=>?_) (fun _=>?_)<;>try (exfalso;omega))|(refine is_gtr rfl rfl (fun _=>?_) (fun _=>?_)<;>try (exfalso;omega))|refine ru_iteF rfl ?_|refine is_buildO rfl rfl rfl ?_|refine ru_skip ?_|refine ru_block ?_)
 refine ru_unroll ?_
 repeat' (first|refine is_ldA rfl rfl rfl rfl ?_|refine is_appNA rfl rfl (by decide) rfl rfl rfl ?_|refine is_stA rfl rfl rfl rfl (seal_refL _ (Nat.lt_succ_self _)) rfl rfl ?_|refine ru_seq ?_|refine ru_reg ?_|refine is_mv rfl ?_|refine is_fadr rfl rfl ?_|refine is_nil rfl ?_|refine rk_seq ?_|refine is_nilck rfl rfl ?_|(refine is_lss rfl rfl (fun _=>?_) (fun _=>?_)<;>try (exfalso;omega))|refine ru_iteT rfl ?_|refine is_addS rfl rfl (by omega) ?_|refine is_subS rfl rfl (by omega) ?_|refine is_bslFO rfl rfl rfl rfl ?_|refine ru_skip ?_|refine ru_block ?_|refine rk_blk ?_)
 refine ru_loopP (α:=Nat) (fun j=>[(0,.int .i64 ((m+1:Nat):Int)),(6,.ptr A.length (L0.length+0) 0 0 0),(7,.int .i64 ((j+1:Nat):Int))])
  (fun j=>⟨A,false,L0++[.arr 4 0 [.agg [.int .u64 g,.ref A.length (L0.length+1) j 0 (j+1),.ref A.length (L0.length+2) j 0 (j+1),.ref A.length (L0.length+3) j 0 (j+1)]],
   .arr 1 j (List.replicate (j+1) (.int .i64 0)),.arr 1 j (List.replicate (j+1) (.int .u64 1)),.arr 1 j ((List.range (j+1)).map fun (q:Nat)=>.int .i64 (((m+1:Nat):Int)-1-q))]⟩)
  (fun j=>j≤m) (fun j=>m-j) 0 rfl rfl (Nat.zero_le _) ?_
 intro j hj
 have r1:∀ x:AV,List.replicate (j+1) x++[x]=List.replicate (j+1+1) x:=fun x=>by rw [List.replicate_succ' (n:=j+1)]
 have r2:((List.range (j+1)).map fun (q:Nat)=>AV.int .i64 (((m+1:Nat):Int)-1-q))++[.int .i64 (((m+1:Nat):Int)-1-((j+1:Nat):Int))]=(List.range (j+1+1)).map fun (q:Nat)=>AV.int .i64 (((m+1:Nat):Int)-1-q):=by
  rw [List.range_succ (n:=j+1),List.map_append];rfl
 repeat' (first|refine is_ldA rfl rfl rfl rfl ?_|refine ru_seq ?_|refine ru_reg ?_|refine is_mv rfl ?_|refine is_fadr rfl rfl ?_|refine is_nil rfl ?_|refine rk_seq ?_|refine is_nilck rfl rfl ?_|(refine is_lss rfl rfl (fun _=>?_) (fun _=>?_)<;>try (exfalso;omega))|refine ru_iteT rfl ?_|refine ru_iteF rfl ?_|refine is_bslFO rfl rfl rfl rfl ?_|refine ru_skip ?_|refine ru_ret ?_|refine ru_exit ?_|refine ru_block ?_|refine rk_nil ?_|refine rk_seq_ex ?_|refine rk_blk_eq rfl ?_|refine rk_inv_ex ?_)
 ·refine is_appRA rfl rfl rfl (by simp) (by simp;omega) (by decide) rfl rfl rfl ?_
  rw [r1]
  repeat' (first|refine is_ldA rfl rfl rfl rfl ?_|refine is_stA rfl rfl rfl rfl (seal_refL _ (Nat.lt_succ_self _)) rfl rfl ?_|refine ru_seq ?_|refine ru_reg ?_|refine is_mv rfl ?_|refine is_fadr rfl rfl ?_|refine is_nil rfl ?_|refine rk_seq ?_|refine is_nilck rfl rfl ?_|refine is_bslFO rfl rfl rfl rfl ?_)
  refine is_appRA rfl rfl rfl (by simp) (by simp;omega) (by decide) rfl rfl rfl ?_
  rw [r1]
  repeat' (first|refine is_ldA rfl rfl rfl rfl ?_|refine is_stA rfl rfl rfl rfl (seal_refL _ (Nat.lt_succ_self _)) rfl rfl ?_|refine ru_reg ?_|refine is_mv rfl ?_|refine is_fadr rfl rfl ?_|refine is_nil rfl ?_|refine rk_seq ?_|refine is_nilck rfl rfl ?_|refine is_subS rfl rfl (by omega) ?_|refine is_bslFO rfl rfl rfl rfl ?_)
  refine is_appRA rfl rfl rfl (by simp) (by simp;omega) (by decide) rfl rfl rfl ?_
  rw [r2]
  repeat' (first|refine is_stA rfl rfl rfl rfl (seal_refL _ (Nat.lt_succ_self _)) rfl rfl ?_|refine ru_reg ?_|refine is_mv rfl ?_|refine is_fadr rfl rfl ?_|refine is_nil rfl ?_|refine rk_seq ?_|refine is_nilck rfl rfl ?_|refine is_addS rfl rfl (by omega) ?_|refine rk_blk ?_|refine rk_inv ?_)
  exact ⟨j+1,⟨rfl,rfl⟩,by omega,by omega⟩
 ·obtain rfl:j=m:=by omega
  rfl
theorem r1_zero:r1 0=.arr 1 699 (List.replicate (699+1) (.int .i64 0)):=by
 unfold r1
 simp only [Nat.not_lt_zero,if_false,List.map_const',List.length_range,List.map_replicate]
theorem rNew_c (A:List (Bool × List Blk)) (L0:List Blk) :
 S Tb F_quartoref13_New [.int .i64 700,.int .u64 3] ⟨A,false,L0⟩=some (.tup [.ptr A.length (L0.length+4) 0 0 0,.int .i64 0],⟨A,false,L0++[r0 A.length L0.length 0,r1 0,r2,r3,r4 A.length L0.length 0 []]⟩):=by
 refine s_keep rfl ?_
 have hN:=rlNew_c 699 3 (by decide) ⟨by decide,by decide⟩ A L0
 repeat' (first|refine is_boxA rfl rfl rfl rfl rfl ?_|refine ru_seq ?_|refine ru_reg ?_|refine is_mv rfl ?_|refine is_ext rfl rfl ?_|refine is_nil rfl ?_|refine rk_seq ?_|(refine is_neq rfl rfl (fun _=>?_) (fun _=>?_)<;>try (exfalso;omega))|refine ru_iteF rfl ?_|refine is_buildO rfl rfl rfl ?_|refine is_callE rfl rfl rfl (hN) ?_|refine ru_skip ?_|refine ru_ret ?_|refine rk_nil ?_)
 rw [r1_zero]
 rfl
end Go.Q15
namespace Go.Q15
open Go Go.QAbs
set_option maxRecDepth 100000
set_option maxHeartbeats 8000000
structure RL (st:St) (lv b k:Nat):Prop where
 wr:st.wr lv
 h0:st.get lv b=some (r0 lv b k)
 h1:st.get lv (b+1)=some (r1 k)
 h2:st.get lv (b+2)=some r2
 h3:st.get lv (b+3)=some r3
def takeR (st:St) (lv b k:Nat):St:=(st.upd lv b (r0 lv b (k+1))).upd lv (b+1) (r1 (k+1))
theorem takeR_get {st:St} {lv b k:Nat} (h:RL st lv b k) (l' i':Nat):(takeR st lv b k).get l' i'=if l'=lv∧i'=b+1 then some (r1 (k+1)) else if l'=lv∧i'=b then some (r0 lv b (k+1)) else st.get l' i':=by
 have g1:∀ l' i',(st.upd lv b (r0 lv b (k+1))).get l' i'=if l'=lv∧i'=b then some (r0 lv b (k+1)) else st.get l' i':=fun l' i'=>St.get_upd h.h0 rfl
 have b1:(st.upd lv b (r0 lv b (k+1))).get lv (b+1)=some (r1 k):=by rw [g1,if_neg (by omega)];exact h.h1
 rw [takeR,St.get_upd b1 rfl,g1]
theorem RL.take {st:St} {lv b k:Nat} (h:RL st lv b k):RL (takeR st lv b k) lv b (k+1):=by
 refine ⟨St.wr_upd (St.wr_upd h.wr h.wr) (St.wr_upd h.wr h.wr),?_,?_,?_,?_⟩
 ·rw [takeR_get h,if_neg (by omega),if_pos ⟨rfl,rfl⟩]
 ·rw [takeR_get h,if_pos ⟨rfl,rfl⟩]
 ·rw [takeR_get h,if_neg (by omega),if_neg (by omega)];exact h.h2
 ·rw [takeR_get h,if_neg (by omega),if_neg (by omega)];exact h.h3
theorem r3_get {k:Nat} (hk:k<700):((List.range 700).map fun (j:Nat)=>AV.int .i64 ((700:Int)-1-j))[699-k]?=some (.int .i64 k):=by
 rw [List.getElem?_map,List.getElem?_range (by omega)]
 simp only [Option.map_some]
 congr 2;omega
theorem rTake_c {st:St} {lv b k:Nat} (h:RL st lv b k) (hk:k<700) :
 S Tb F_quartoref11_List_Take [.ptr lv b 0 0 0] st=some (.tup [.int .u64 ((1*65536+k:Nat):Int),.int .i64 0],takeR st lv b k):=by
 refine s_ofW rfl (fun A hA=>?_)
 have g0:=fun L=>get_old hA (ro:=false) (L:=L) h.h0
 have g3:=fun L=>get_old hA (ro:=false) (L:=L) h.h3
 unfold r0 at g0
 unfold r3 at g3
 obtain ⟨q,hq⟩:∃ q,700-k=q+1:=⟨699-k,by omega⟩
 rw [hq] at g0
 have hM:=fun st=>refMake_c k 1 (by omega) ⟨by omega,by omega⟩ st
 repeat' (first|refine ru_seq ?_|refine ru_reg ?_|refine is_mv rfl ?_|refine is_fadr rfl rfl ?_|refine is_nil rfl ?_|refine rk_seq ?_|refine is_nilck rfl rfl ?_|refine is_lenR rfl ?_|(refine is_eql rfl rfl (fun _=>?_) (fun _=>?_)<;>try (exfalso;omega))|refine ru_iteF rfl ?_|refine is_subS rfl rfl (by omega) ?_|refine is_eqs rfl rfl rfl rfl ?_|refine is_ld rfl (g0 _) rfl rfl ?_|refine ru_skip ?_)
 all_goals try (exfalso;omega)
 have hw1:∀ L,wIs 1 699 (St.get ⟨A,false,L⟩ lv (b+3))=true:=fun L=>by rw [g3];simp [wIs]
 refine is_ixR rfl rfl (by omega) (hw1 _) ?_
 refine is_ld (x:=.int .i64 k) rfl (g3 _) (by rw [show 0+(((q+1:Nat):Int)-1).toNat=699-k by omega];exact r3_get hk) rfl ?_
 repeat' (first|refine ru_seq ?_|refine ru_reg ?_|refine is_mv rfl ?_|refine is_fadr rfl rfl ?_|refine is_nil rfl ?_|refine rk_seq ?_|refine is_nilck rfl rfl ?_|refine is_lenR rfl ?_|refine is_subS rfl rfl (by omega) ?_|refine is_ld rfl (g0 _) rfl rfl ?_)
 refine is_slcR_hi rfl rfl (by omega) (hw1 _) ?_
 repeat' (first|refine is_fadr rfl rfl ?_|refine is_nilck rfl rfl ?_)
 have hle:=St.get_le h.h0
 have h0':=h.h0
 unfold r0 at h0'
 rw [hq] at h0'
 refine is_stP hA rfl rfl h.wr h0' rfl (seal_refL _ (Nat.lt_succ_self _)) rfl (fun A1 hA1=>?_)
 have eB:Blk.arr 4 0 ([AV.agg [.int .u64 3,.ref lv (b+1) 699 0 700,.ref lv (b+2) 699 0 700,.ref lv (b+3) 699 0 (q+1)]].set 0 (.agg [.int .u64 3,.ref lv (b+1) 699 0 700,.ref lv (b+2) 699 0 700,.ref lv (b+3) 699 0 (((q+1:Nat):Int)-1).toNat]))=r0 lv b (k+1):=by
  rw [show (((q+1:Nat):Int)-1).toNat=700-(k+1) by omega]
  rfl
 rw [eB] at hA1
 have q1:∀ l' i',(st.upd lv b (r0 lv b (k+1))).get l' i'=if l'=lv∧i'=b then some (r0 lv b (k+1)) else st.get l' i':=fun l' i'=>St.get_upd h.h0 rfl
 have hw:=St.wr_upd (b:=r0 lv b (k+1)) (ix:=b) h.wr h.wr
 have k0:(st.upd lv b (r0 lv b (k+1))).get lv b=some (r0 lv b (k+1)):=by rw [q1,if_pos ⟨rfl,rfl⟩]
 have k1:(st.upd lv b (r0 lv b (k+1))).get lv (b+1)=some (r1 k):=by rw [q1,if_neg (by omega)];exact h.h1
 have k2:(st.upd lv b (r0 lv b (k+1))).get lv (b+2)=some r2:=by rw [q1,if_neg (by omega)];exact h.h2
 have et:takeR st lv b k=(st.upd lv b (r0 lv b (k+1))).upd lv (b+1) (r1 (k+1)):=rfl
 rw [et]
 generalize st.upd lv b (r0 lv b (k+1))=st1 at *
 unfold r1 at k1
 have k0':=k0
 unfold r0 at k0'
 have m0:=fun L=>get_old hA1 (ro:=false) (L:=L) k0'
 have m1:=fun L=>get_old hA1 (ro:=false) (L:=L) k1
 have hw0:∀ L,wIs 1 699 (St.get ⟨A1,false,L⟩ lv (b+1))=true:=fun L=>by rw [m1];simp [wIs]
 repeat' (first|refine ru_seq ?_|refine ru_reg ?_|refine is_mv rfl ?_|refine is_fadr rfl rfl ?_|refine is_nil rfl ?_|refine rk_seq ?_|refine is_nilck rfl rfl ?_|refine is_ld rfl (m0 _) rfl rfl ?_|refine is_ixR rfl rfl (by omega) (hw0 _) ?_)
 refine is_stP hA1 (y:=.int .i64 0) rfl rfl hw k1 ?_ rfl rfl (fun A2 hA2=>?_)
 ·rw [show 0+((k:Nat):Int).toNat=k by omega,List.getElem?_map,List.getElem?_map,List.getElem?_range (by omega)]
  simp
 have eS:Blk.arr 1 699 ((((List.range 700).map fun (j:Nat)=>if j<k then (1:Int) else 0).map (AV.int .i64)).set (0+((k:Nat):Int).toNat) (.int .i64 1))=r1 (k+1):=by
  rw [show 0+((k:Nat):Int).toNat=k by omega]
  unfold r1
  rw [← states_set hk,List.map_set]
 rw [eS] at hA2
 have q2:∀ l' i',(st1.upd lv (b+1) (r1 (k+1))).get l' i'=if l'=lv∧i'=b+1 then some (r1 (k+1)) else st1.get l' i':=fun l' i'=>St.get_upd k1 rfl
 have n2:(st1.upd lv (b+1) (r1 (k+1))).get lv (b+2)=some r2:=by rw [q2,if_neg (by omega)];exact k2
 have n0:(st1.upd lv (b+1) (r1 (k+1))).get lv b=some (r0 lv b (k+1)):=by rw [q2,if_neg (by omega)];exact k0
 generalize st1.upd lv (b+1) (r1 (k+1))=st2 at *
 unfold r2 at n2
 unfold r0 at n0
 have o2:=fun L=>get_old hA2 (ro:=false) (L:=L) n2
 have o0:=fun L=>get_old hA2 (ro:=false) (L:=L) n0
 have hw2:∀ L,wIs 1 699 (St.get ⟨A2,false,L⟩ lv (b+2))=true:=fun L=>by rw [o2];simp [wIs]
 repeat' (first|refine ru_seq ?_|refine ru_reg ?_|refine is_mv rfl ?_|refine is_fadr rfl rfl ?_|refine is_nil rfl ?_|refine rk_seq ?_|refine is_nilck rfl rfl ?_|refine is_ld rfl (o0 _) rfl rfl ?_|refine is_ixR rfl rfl (by omega) (hw2 _) ?_)
 refine is_ld (x:=.int .u64 1) rfl (o2 _) (by rw [show 0+((k:Nat):Int).toNat=k by omega,List.getElem?_replicate,if_pos hk]) rfl ?_
 repeat' (first|refine is_mv rfl ?_|refine is_ext rfl rfl ?_|refine is_nil rfl ?_|refine rk_seq ?_|refine is_callE rfl rfl rfl (hM _) ?_|refine ru_ret ?_|refine rk_nil ?_)
 refine end_st hA2 (.inr rfl) rfl rfl rfl rfl ?_
 rfl
end Go.Q15
namespace Go.Q15
open Go Go.QAbs
set_option maxRecDepth 100000
set_option maxHeartbeats 8000000
section
variable {O:Orc} {k:List Fr} {Q:Post} {e:Env} {A:List (Bool × List Blk)} {L L0 T T':List Blk} {keep:List Nat} {is:List PI} {d:Nat}
theorem is_wImm1 {st:St} {w:Nat} {x:Opd} {z v:AV} (hx:opdO e x=some v) (hw:v.wide=some w) (hi:imm 6 v=true) (h:Is O is keep k Q ((d,.lit [v])::e) st):Is O (⟨some d,none,false,.w .imm (.bslice false w [z] [(0,x)])⟩::is) keep k Q e st:=by
 refine is_w (v:=.lit [v]) (st':=st) ?_ h
 have hf:fillE w [z] [(0,v)]=some [v]:=by simp [fillE,hw]
 simp only [evalW,immW,partsE,opdO_some hx,hf,Option.bind_some,immK,List.all_cons,List.all_nil,hi,Bool.and_self,if_true,List.isEmpty_cons,Bool.false_eq_true,if_false]
end
structure RHas (A:List (Bool × List Blk)) (L:List Blk) (b it:Nat) (N:Nodes):Prop where
 h0:L[b]?=some (r0 A.length b N.length)
 h1:L[b+1]?=some (r1 N.length)
 h2:L[b+2]?=some r2
 h3:L[b+3]?=some r3
 h4:L[b+4]?=some (r4 A.length b it N)
 hi:N≠[]→L[it]?=some (.arr 4 (N.length-1) (N.map itemAV))
 ne:N≠[]→(it<b∨b+4<it)
theorem cur_get {A:List (Bool × List Blk)} {L:List Blk} {i:Nat} {w v:Nat} {es:List AV} (h:L[i]?=some (.arr w v es)):St.get ⟨A,false,L⟩ A.length i=some (.arr w v es):=by
 rw [St.get_cur,h];rfl
theorem RHas.rrd {A:List (Bool × List Blk)} {L:List Blk} {b it:Nat} {N:Nodes} (h:RHas A L b it N):RRd ⟨A,false,L⟩ A.length (b+4) N:=by
 refine ⟨_,_,_,_,_,_,_,_,_,cur_get h.h4,?_⟩
 cases N with
 | nil=>exact .nil
 | cons p N =>
  refine .ref (cur_get (h.hi (by simp))) rfl ?_
  rw [List.take_of_length_le (by simp)]
theorem RHas.rl {A:List (Bool × List Blk)} {L:List Blk} {b it:Nat} {N:Nodes} (h:RHas A L b it N):RL ⟨A,false,L⟩ A.length b N.length :=
 ⟨by simp [St.wr],cur_get h.h0,cur_get h.h1,cur_get h.h2,cur_get h.h3⟩
theorem RHas.frame {A:List (Bool × List Blk)} {L L':List Blk} {b it:Nat} {N:Nodes} (h:RHas A L b it N) (h0:∀ i,b≤i→i≤b+4→L'[i]?=L[i]?) (h1:N≠[]→L'[it]?=L[it]?):RHas A L' b it N :=
 ⟨by rw [h0 _ (by omega) (by omega)];exact h.h0,by rw [h0 _ (by omega) (by omega)];exact h.h1,by rw [h0 _ (by omega) (by omega)];exact h.h2,by rw [h0 _ (by omega) (by omega)];exact h.h3,by rw [h0 _ (by omega) (by omega)];exact h.h4,fun q=>by rw [h1 q];exact h.hi q,h.ne⟩
theorem upd_cur {A:List (Bool × List Blk)} {L:List Blk} {i:Nat} {b:Blk}:St.upd ⟨A,false,L⟩ A.length i b=⟨A,false,L.set i b⟩:=by simp [St.upd]
def takeL (A:List (Bool × List Blk)) (L:List Blk) (b k:Nat):List Blk:=(L.set b (r0 A.length b (k+1))).set (b+1) (r1 (k+1))
theorem takeR_cur {A:List (Bool × List Blk)} {L T:List Blk} {b k:Nat} (h:b+1<L.length):takeR ⟨A,false,L++T⟩ A.length b k=⟨A,false,takeL A L b k++T⟩:=by
 unfold takeR takeL
 rw [upd_cur,upd_cur,List.set_append_left _ _ (by omega),List.set_append_left _ _ (by simp;omega)]
structure RPost (A:List (Bool × List Blk)) (L:List Blk) (b it:Nat) (N:Nodes) (x:Nd) (L':List Blk) (it':Nat):Prop where
 has:RHas A L' b it' (N++[(hd N,x)])
 len:L.length<L'.length
 old:∀ i,i<L.length→(i<b∨b+4<i)→(N=[]∨i≠it)→L'[i]?=L[i]?
 it:(N≠[]∧it'=it)∨(L.length≤it'∧it'<L'.length)
theorem takeL_len {A:List (Bool × List Blk)} {L:List Blk} {b k:Nat}:(takeL A L b k).length=L.length:=by simp [takeL]
theorem takeL_get {A:List (Bool × List Blk)} {L:List Blk} {b k j:Nat} (hj:j≠b∧j≠b+1):(takeL A L b k)[j]?=L[j]?:=by
 unfold takeL;rw [List.getElem?_set_ne (by omega),List.getElem?_set_ne (by omega)]
theorem takeL_0 {A:List (Bool × List Blk)} {L:List Blk} {b k:Nat} (h:b<L.length):(takeL A L b k)[b]?=some (r0 A.length b (k+1)):=by
 unfold takeL;rw [List.getElem?_set_ne (by omega),List.getElem?_set_self h]
theorem takeL_1 {A:List (Bool × List Blk)} {L:List Blk} {b k:Nat} (h:b+1<L.length):(takeL A L b k)[b+1]?=some (r1 (k+1)):=by
 unfold takeL;rw [List.getElem?_set_self (by simpa using h)]
theorem rAlloc_end {A:List (Bool × List Blk)} {L:List Blk} {b it:Nat} {N:Nodes} (h:RHas A L b it N) (hl:N.length<700) (n:Nat) (s:List UInt8) (ks:List Kid) (w:AV) (hw:w.one=true)
 (hC:∀ T,S Tb F_quartoref12_CopyNode [.agg [.int .i64 n,.str s,w]] (St.allRo ⟨A,false,takeL A L b N.length++T⟩)=some (Nd.av ⟨n,s,some ks⟩,St.allRo ⟨A,false,takeL A L b N.length++T⟩)) :
 Ru (S Tb) (.seq p_quartoref13_Arena_Alloc_9 (.seq (.seq p_quartoref13_Arena_Alloc_10 (.ite (.s 32) (.seq p_quartoref13_Arena_Alloc_11 .ret) .skip)) (.seq p_quartoref13_Arena_Alloc_12 (.seq p_quartoref13_Arena_Alloc_13 (.seq p_quartoref13_Arena_Alloc_14 .ret))))) []
  (fun x e st'=>∃ v st'',endK true [RV.s 4,RV.s 5] (x,e,st')=some (v,st'')∧v=.tup [.int .u64 ((hd N:Nat):Int),.int .i64 0]∧∃ L' it',st''=⟨A,false,L'⟩∧RPost A L b it N ⟨n,s,some ks⟩ L' it')
  [(0,.ptr A.length (b+4) 0 0 0),(3,.ptr A.length (L.length+0) 0 0 0),(7,.int .i64 0),(21,.bool false)] ⟨A,false,L++[.arr 3 0 [.agg [.int .i64 n,.str s,w]]]⟩:=by
 have hb4:=(List.getElem?_eq_some_iff.1 h.h4).1
 have hF:∀ T,RHas A (L++T) b it N:=fun T=>h.frame (fun i h1 h2=>List.getElem?_append_left (by omega)) (fun q=>List.getElem?_append_left (List.getElem?_eq_some_iff.1 (h.hi q)).1)
 have hT:=fun T=>rTake_c (hF T).rl hl
 simp only [takeR_cur (show b+1<L.length by omega)] at hT
 have g4:∀ T,(L++T)[b+4]?=some (r4 A.length b it N):=fun T=>(hF T).h4
 unfold r4 at g4
 repeat' (first|refine is_ldc rfl (g4 _) rfl rfl ?_|refine ru_seq ?_|refine ru_reg ?_|refine is_mv rfl ?_|refine is_fadr rfl rfl ?_|refine is_ext rfl rfl ?_|refine is_nil rfl ?_|refine rk_seq ?_|refine is_nilck rfl rfl ?_|(refine is_neq rfl rfl (fun _=>?_) (fun _=>?_)<;>try (exfalso;omega))|refine ru_iteF rfl ?_|refine is_callE rfl rfl rfl (hT _) ?_|refine ru_skip ?_)
 have tl:=takeL_len (A:=A) (L:=L) (b:=b) (k:=N.length)
 have k0:=takeL_0 (A:=A) (k:=N.length) (show b<L.length by omega)
 have k1:=takeL_1 (A:=A) (k:=N.length) (show b+1<L.length by omega)
 have kj:=fun j (hj:j≠b∧j≠b+1)=>takeL_get (A:=A) (L:=L) (k:=N.length) hj
 generalize takeL A L b N.length=L1 at *
 rw [← tl]
 have q4:∀ T,(L1++T)[b+4]?=some (r4 A.length b it N):=fun T=>by
  rw [List.getElem?_append_left (by omega),kj _ (by omega)];exact h.h4
 unfold r4 at q4
 simp only [Nd.av,slV] at hC
 repeat' (first|refine is_ldA rfl rfl rfl rfl ?_|refine is_ldc rfl (q4 _) rfl rfl ?_|refine is_mv rfl ?_|refine is_buildO rfl rfl rfl ?_|refine is_callP rfl rfl rfl (hC _) ?_|refine is_wImm1 rfl rfl rfl ?_)
 cases N with
 | nil =>
  refine is_appNA rfl rfl (by decide) rfl rfl rfl ?_
  have q5:∀ T,(L1++T)[b+4]?=some (r4 A.length b it []):=q4
  unfold r4 itV at q5
  repeat' (first|refine is_fadr rfl rfl ?_|refine is_nilck rfl rfl ?_)
  refine is_stn (q5 _) rfl rfl rfl (seal_refL _ (Nat.lt_succ_self _)) rfl ?_
  generalize hL2:List.set _ (b+4) _=L2
  have l2:L2.length=L1.length+2:=by rw [← hL2];simp
  have g2:L2[b+4]?=some (.arr 9 0 [.agg [.ptr A.length b 0 0 0,.ref A.length (L1.length+1) 0 0 1,.int .i64 0,.int .i64 0,.int .i64 0,.int .i64 0,.int .i64 0,.int .i64 0,.int .i64 0]]):=by
   rw [← hL2,List.getElem?_set_self (by simp;omega)];rfl
  have o2:∀ j,j≠b+4→L2[j]?=(L1++[Blk.arr 3 0 [AV.agg [AV.int .i64 n,.str s,w]],Blk.arr 4 0 [itemAV (hd [],⟨n,s,some ks⟩)]])[j]?:=by
   intro j hj
   rw [← hL2,List.getElem?_set_ne (by omega)];rfl
  clear hL2
  repeat' (first|refine is_ldc rfl g2 rfl rfl ?_|refine ru_seq ?_|refine ru_reg ?_|refine is_mv rfl ?_|refine is_fadr rfl rfl ?_|refine is_nil rfl ?_|refine rk_seq ?_|refine is_nilck rfl rfl ?_|refine is_addS rfl rfl (by omega) ?_)
  refine is_stn g2 rfl rfl rfl rfl rfl ?_
  repeat' (first|refine ru_seq ?_|refine ru_reg ?_|refine is_mv rfl ?_|refine is_nil rfl ?_|refine rk_seq ?_|refine ru_ret ?_|refine rk_nil ?_)
  have n4:∀ j,j≠b+4→∀ X,(L2.set (b+4) X)[j]?=(L1++[Blk.arr 3 0 [AV.agg [AV.int .i64 n,.str s,w]],Blk.arr 4 0 [itemAV (hd [],⟨n,s,some ks⟩)]])[j]?:=by
   intro j hj X
   rw [List.getElem?_set_ne (by omega),o2 j hj]
  refine ⟨_,_,end_keep (.inr rfl) rfl rfl rfl rfl,rfl,_,L1.length+1,rfl,⟨⟨?_,?_,?_,?_,?_,?_,?_⟩,?_,?_,?_⟩⟩
  ·rw [n4 _ (by omega),List.getElem?_append_left (by omega)];exact k0
  ·rw [n4 _ (by omega),List.getElem?_append_left (by omega)];exact k1
  ·rw [n4 _ (by omega),List.getElem?_append_left (by omega),kj _ (by omega)];exact h.h2
  ·rw [n4 _ (by omega),List.getElem?_append_left (by omega),kj _ (by omega)];exact h.h3
  ·rw [List.getElem?_set_self (by omega)];rfl
  ·intro _;rw [n4 _ (by omega),List.getElem?_append_right (by omega)]
   rw [show L1.length+1-L1.length=1 by omega];rfl
  ·intro _;omega
  ·rw [List.length_set];omega
  ·intro i h1 h2 h3
   rw [n4 _ (by omega),List.getElem?_append_left (by omega),kj _ (by omega)]
  ·rw [List.length_set];right;omega
 | cons p N =>
  have hit:=h.hi (by simp)
  have hne:=h.ne (by simp)
  have hil:=(List.getElem?_eq_some_iff.1 hit).1
  have q6:∀ T,(L1++T)[it]?=some (.arr 4 N.length ((p::N).map itemAV)):=fun T=>by
   rw [List.getElem?_append_left (by omega),kj _ (by omega)];exact hit
  refine is_app1N rfl rfl (q6 _) (by simp) (by simp at hl ⊢;omega) (by decide) rfl rfl ?_
  generalize hL3:List.set _ it _=L3
  have l3:L3.length=L1.length+1:=by rw [← hL3];simp
  have i3:L3[it]?=some (.arr 4 (N.length+1) ((p::N++[(hd (p::N),(⟨n,s,some ks⟩:Nd))]).map itemAV)):=by
   rw [← hL3,List.getElem?_set_self (by simp;omega),List.map_append];rfl
  have o3:∀ j,j≠it→L3[j]?=(L1++[Blk.arr 3 0 [AV.agg [AV.int .i64 n,.str s,w]]])[j]?:=by
   intro j hj
   rw [← hL3,List.getElem?_set_ne (by omega)]
  clear hL3
  have q5:L3[b+4]?=some (r4 A.length b it (p::N)):=by rw [o3 _ (by omega)];exact q4 _
  unfold r4 itV at q5
  repeat' (first|refine is_fadr rfl rfl ?_|refine is_nilck rfl rfl ?_)
  refine is_stn q5 rfl rfl rfl (seal_refL _ (Nat.lt_succ_self _)) rfl ?_
  generalize hL2:List.set _ (b+4) _=L2
  have l2:L2.length=L1.length+1:=by rw [← hL2];simp;omega
  have g2:L2[b+4]?=some (.arr 9 0 [.agg [.ptr A.length b 0 0 0,.ref A.length it (N.length+1) 0 (N.length+1+1),.int .i64 0,.int .i64 0,.int .i64 0,.int .i64 0,.int .i64 ((p::N).length:Nat),.int .i64 0,.int .i64 0]]):=by
   rw [← hL2,List.getElem?_set_self (by omega)];rfl
  have o2:∀ j,j≠b+4→L2[j]?=L3[j]?:=by
   intro j hj
   rw [← hL2,List.getElem?_set_ne (by omega)]
  clear hL2
  repeat' (first|refine is_ldc rfl g2 rfl rfl ?_|refine ru_seq ?_|refine ru_reg ?_|refine is_mv rfl ?_|refine is_fadr rfl rfl ?_|refine is_nil rfl ?_|refine rk_seq ?_|refine is_nilck rfl rfl ?_|refine is_addS rfl rfl (by omega) ?_)
  refine is_stn g2 rfl rfl rfl rfl rfl ?_
  repeat' (first|refine ru_seq ?_|refine ru_reg ?_|refine is_mv rfl ?_|refine is_nil rfl ?_|refine rk_seq ?_|refine ru_ret ?_|refine rk_nil ?_)
  have n4:∀ j,j≠b+4→∀ X,(L2.set (b+4) X)[j]?=L3[j]?:=by
   intro j hj X
   rw [List.getElem?_set_ne (by omega),o2 j hj]
  refine ⟨_,_,end_keep (.inr rfl) rfl rfl rfl rfl,rfl,_,it,rfl,⟨⟨?_,?_,?_,?_,?_,?_,?_⟩,?_,?_,?_⟩⟩
  ·rw [n4 _ (by omega),o3 _ (by omega),List.getElem?_append_left (by omega),List.length_append];exact k0
  ·rw [n4 _ (by omega),o3 _ (by omega),List.getElem?_append_left (by omega),List.length_append];exact k1
  ·rw [n4 _ (by omega),o3 _ (by omega),List.getElem?_append_left (by omega),kj _ (by omega)];exact h.h2
  ·rw [n4 _ (by omega),o3 _ (by omega),List.getElem?_append_left (by omega),kj _ (by omega)];exact h.h3
  ·rw [List.getElem?_set_self (by omega)]
   simp only [r4,itV,List.cons_append,List.length_append,List.length_cons,List.length_nil]
   rfl
  ·intro _;rw [n4 _ (by omega),i3]
   simp
  ·intro _;omega
  ·rw [List.length_set];omega
  ·intro i h1 h2 h3
   have h4:i≠it:=by rcases h3 with q|q;simp at q;exact q
   rw [n4 _ (by omega),o3 _ h4,List.getElem?_append_left (by omega),kj _ (by omega)]
  ·exact .inl ⟨by simp,rfl⟩
theorem rAlloc_leaf {A:List (Bool × List Blk)} {L:List Blk} {b it:Nat} {N:Nodes} (h:RHas A L b it N) (hl:N.length<700) (s:List UInt8) (hs:leafP s) :
 ∃ L' it',S Tb F_quartoref13_Arena_Alloc [.ptr A.length (b+4) 0 0 0,.agg [.int .i64 (0:Nat),.str s,.nils]] ⟨A,false,L⟩=some (.tup [.int .u64 ((hd N:Nat):Int),.int .i64 0],⟨A,false,L'⟩)∧RPost A L b it N ⟨0,s,some []⟩ L' it':=by
 have hN:=fun st=>refNCheck_c ⟨0,s,none⟩ (.inl ⟨rfl,hs.1,hs.2,rfl⟩) st
 simp only [Nd.av,slV] at hN
 have hK:=fun st=>refKids_leaf (lv:=A.length) (ix:=b+4) s (st:=st)
 suffices q:Sp Tb F_quartoref13_Arena_Alloc [.ptr A.length (b+4) 0 0 0,.agg [.int .i64 (0:Nat),.str s,.nils]] ⟨A,false,L⟩ fun v st'=>v=.tup [.int .u64 ((hd N:Nat):Int),.int .i64 0]∧∃ L' it',st'=⟨A,false,L'⟩∧RPost A L b it N ⟨0,s,some []⟩ L' it' by
  obtain ⟨v,st',h1,rfl,L',it',rfl,h2⟩:=q
  exact ⟨L',it',h1,h2⟩
 refine sp_keep rfl ?_
 have e0:(⟨A,false,L⟩:St)=⟨A,false,L++[]⟩:=by rw [List.append_nil]
 rw [e0]
 repeat' (first|refine is_boxA rfl rfl rfl rfl rfl ?_|refine is_ldA rfl rfl rfl rfl ?_|exact rAlloc_end h hl 0 s [] .nils rfl (fun T=>copyNode_leaf s _)|refine ru_seq ?_|refine ru_reg ?_|refine is_mv rfl ?_|refine is_nil rfl ?_|refine rk_seq ?_|(refine is_neq rfl rfl (fun _=>?_) (fun _=>?_)<;>try (exfalso;omega))|refine ru_iteF rfl ?_|refine is_eqs rfl rfl rfl rfl ?_|refine is_callE rfl rfl rfl (hN _) ?_|refine is_callE rfl rfl rfl (hK _) ?_|refine ru_skip ?_)
theorem rAlloc_in {A:List (Bool × List Blk)} {L:List Blk} {b it:Nat} {N:Nodes} (h:RHas A L b it N) (hl:N.length<700) (n:Nat) (hn:n≤15) (ks:List Kid) (hk:2≤ks.length∧ks.length≤4) (hs:∀ k∈ks,KidOk n k) (hsum:(sumM (ks.map Kid.m)).b≤65536) (hL:KidsLive N n ks)
 {kx ver:Nat} (hr:KRef ⟨A,false,L⟩ A.length kx ver ks) (hne:kx≠b∧kx≠b+1) :
 ∃ L' it',S Tb F_quartoref13_Arena_Alloc [.ptr A.length (b+4) 0 0 0,ndR (n+1) A.length kx ver ks.length] ⟨A,false,L⟩=some (.tup [.int .u64 ((hd N:Nat):Int),.int .i64 0],⟨A,false,L'⟩)∧RPost A L b it N ⟨n+1,[],some ks⟩ L' it':=by
 obtain ⟨es,g,ge⟩:=hr
 have g0:L[kx]?=some (.arr 4 ver es):=by rw [St.get_cur] at g;exact vis_some g
 have hkl:=(List.getElem?_eq_some_iff.1 g0).1
 have hr1:∀ T,KRef ⟨A,false,L++T⟩ A.length kx ver ks:=fun T=>⟨es,cur_get (by rw [List.getElem?_append_left hkl];exact g0),ge⟩
 have hr2:∀ T,KRef ⟨A,false,takeL A L b N.length++T⟩ A.length kx ver ks:=fun T=>⟨es,cur_get (by rw [List.getElem?_append_left (by rw [takeL_len];exact hkl),takeL_get hne];exact g0),ge⟩
 have hF:∀ T,RHas A (L++T) b it N:=fun T=>h.frame (fun i h1 h2=>List.getElem?_append_left (by have:=(List.getElem?_eq_some_iff.1 h.h4).1;omega)) (fun q=>List.getElem?_append_left (List.getElem?_eq_some_iff.1 (h.hi q)).1)
 have hN:=fun T=>refNCheck_ref n hn ks hk hs hsum _ (hr1 T)
 have hK:=fun T=>refKids_in (hF T).rrd (by omega) n hn ks hk.2 hL (hr1 T)
 have hE:=rAlloc_end h hl (n+1) [] ks (.ref A.length kx ver 0 ks.length) rfl (fun T=>copyNode_ref n ks hk.2 _ (hr2 T).allRo)
 unfold ndR at *
 suffices q:Sp Tb F_quartoref13_Arena_Alloc [.ptr A.length (b+4) 0 0 0,.agg [.int .i64 ((n+1:Nat):Int),.str [],.ref A.length kx ver 0 ks.length]] ⟨A,false,L⟩ fun v st'=>v=.tup [.int .u64 ((hd N:Nat):Int),.int .i64 0]∧∃ L' it',st'=⟨A,false,L'⟩∧RPost A L b it N ⟨n+1,[],some ks⟩ L' it' by
  obtain ⟨v,st',h1,rfl,L',it',rfl,h2⟩:=q
  exact ⟨L',it',h1,h2⟩
 refine sp_keep rfl ?_
 have e0:(⟨A,false,L⟩:St)=⟨A,false,L++[]⟩:=by rw [List.append_nil]
 rw [e0]
 repeat' (first|refine is_boxA rfl rfl rfl rfl rfl ?_|refine is_ldA rfl rfl rfl rfl ?_|exact hE|refine ru_seq ?_|refine ru_reg ?_|refine is_mv rfl ?_|refine is_nil rfl ?_|refine rk_seq ?_|(refine is_neq rfl rfl (fun _=>?_) (fun _=>?_)<;>try (exfalso;omega))|refine ru_iteF rfl ?_|refine is_eqs rfl rfl rfl rfl ?_|refine is_callE rfl rfl rfl (hN _) ?_|refine is_callE rfl rfl rfl (hK _) ?_|refine ru_skip ?_)
end Go.Q15
namespace Go.Q15
open Go Go.QAbs
set_option maxRecDepth 100000
set_option maxHeartbeats 8000000
def longF:Nat→List (List UInt8)→Nat
 | n,[]=>n
 | n,t::ts=>if n≤900 then longF (n+min t.length 1000) ts else n
def longP (l:List (List UInt8)):Prop:=4<l.length∨900<longF 0 l
instance (l:List (List UInt8)):Decidable (longP l):=by unfold longP;infer_instance
theorem longF_ge:∀ (l:List (List UInt8)) (n:Nat),n≤longF n l
 | [],n=>by simp [longF]
 | t::ts,n=>by
  rw [longF]
  by_cases h:n≤900
  ·rw [if_pos h];have:=longF_ge ts (n+min t.length 1000);omega
  ·rw [if_neg h];exact Nat.le_refl _
theorem longF_sum:∀ (l:List (List UInt8)) (n:Nat),longF n l≤900→n+(l.map List.length).sum≤900
 | [],n,h=>by simpa [longF] using h
 | t::ts,n,h=>by
  rw [longF] at h
  by_cases hn:n≤900
  ·rw [if_pos hn] at h
   have h1:=longF_ge ts (n+min t.length 1000)
   have h2:=longF_sum ts _ h
   rw [List.map_cons,List.sum_cons];omega
  ·rw [if_neg hn] at h;omega
theorem drop_cons {α:Type} {l:List α} {i:Nat} {a:α} (h:l[i]?=some a):l.drop i=a::l.drop (i+1):=by
 obtain ⟨h1,h2⟩:=List.getElem?_eq_some_iff.1 h
 subst h2
 exact List.drop_eq_getElem_cons h1
theorem is_len1L {O:Orc} {k:List Fr} {Q:Post} {e:Env} {st:St} {keep:List Nat} {is:List PI} {d:Nat} {α:Type} {f:α→AV} {x:Opd} {l:List α} (hx:opdO e x=some (.lit (l.map f))) (h:Is O is keep k Q ((d,.int .i64 l.length)::e) st):Is O (⟨some d,none,false,.len 1 x⟩::is) keep k Q e st:=by
 refine is_lenL hx ?_
 rw [List.length_map];exact h
theorem long_c (l:List (List UInt8)) (hb:l.length<9223372036854775808) (hs:∀ s∈l,s.length<9223372036854775808) (st:St):S Tb F_quartolaw15_Long [.lit (l.map .str)] st=some (.bool (decide (longP l)),st):=by
 refine s_of rfl (fun A hA=>?_)
 repeat' (first|refine ru_seq ?_|refine ru_reg ?_|refine is_mv rfl ?_|refine is_nil rfl ?_|refine rk_seq ?_|refine ru_block ?_)
 refine ru_loopP (α:=Nat × Nat) (fun p=>[(0,.lit (l.map .str)),(3,.int .i64 p.2),(4,.int .i64 p.1)]) (fun p=>⟨A,false,[]⟩) (fun p=>p.1≤l.length∧p.2≤1900∧longF p.2 (l.drop p.1)=longF 0 l) (fun p=>l.length-p.1) (0,0) rfl rfl ⟨Nat.zero_le _,Nat.zero_le _,rfl⟩ ?_
 rintro ⟨i,n⟩ ⟨h1,h2,h3⟩
 simp only at h1 h2 h3 ⊢
 repeat' (first|refine ru_seq ?_|refine ru_reg ?_|refine is_mv rfl ?_|refine is_gT rfl ?_|refine is_gF rfl rfl ?_|refine is_pick rfl rfl rfl rfl ?_|refine is_nil rfl ?_|refine rk_seq ?_|refine is_lenS rfl ?_|refine is_lenM rfl ?_|refine is_ldl rfl rfl ?_|refine is_ixM rfl rfl (by omega) (fun _=>rfl) (fun _ _=>?_)|(refine is_lss rfl rfl (fun _=>?_) (fun _=>?_)<;>try (exfalso;omega))|(refine is_leq rfl rfl (fun _=>?_) (fun _=>?_)<;>try (exfalso;omega))|(refine is_gtr rfl rfl (fun _=>?_) (fun _=>?_)<;>try (exfalso;omega))|refine ru_iteT rfl ?_|refine ru_iteF rfl ?_|refine is_mnx rfl rfl ?_|refine ru_skip ?_|refine ru_ret ?_|refine ru_exit ?_|refine ru_block ?_|refine rk_nil ?_|refine rk_seq_ex ?_|refine rk_blk_eq rfl ?_|refine rk_inv_ex ?_)
 ·rename_i hlt hn x hx
  have hx':l[i]?=some x:=by rw [show i=((i:Nat):Int).toNat by omega];exact hx
  have hxl:=hs x (List.mem_of_getElem? hx')
  have e1:(if false=true then max (x.length:Int) 1000 else min (x.length:Int) 1000)=((min x.length 1000:Nat):Int):=by
   simp only [Bool.false_eq_true,if_false];omega
  rw [e1]
  refine is_addS rfl rfl (by omega) ?_
  rw [show (n:Int)+((min x.length 1000:Nat):Int)=((n+min x.length 1000:Nat):Int) by omega]
  repeat' (first|refine ru_reg ?_|refine is_mv rfl ?_|refine is_nil rfl ?_|refine rk_seq ?_|refine is_addS rfl rfl (by omega) ?_|refine rk_blk ?_|refine rk_inv ?_)
  refine ⟨(i+1,n+min x.length 1000),⟨rfl,rfl⟩,⟨by simp only;omega,by simp only;omega,?_⟩,by simp only;omega⟩
  rw [← h3,drop_cons hx',longF,if_pos (by omega)]
 ·refine end_ofB hA (by first|exact .inl rfl|exact .inr rfl) rfl rfl ?_
  exact (decide_eq_true (.inl (by omega))).symm
 ·refine end_ofB hA (by first|exact .inl rfl|exact .inr rfl) rfl rfl ?_
  refine (decide_eq_true (.inr ?_)).symm
  have:=longF_ge (l.drop i) n
  omega
 ·refine end_ofB hA (by first|exact .inl rfl|exact .inr rfl) rfl rfl ?_
  exact (decide_eq_true (.inl (by omega))).symm
 ·refine end_ofB hA (by first|exact .inl rfl|exact .inr rfl) rfl rfl ?_
  refine (decide_eq_true (.inr ?_)).symm
  have:=longF_ge (l.drop i) n
  omega
 ·refine end_ofB hA (by first|exact .inl rfl|exact .inr rfl) rfl rfl ?_
  refine (decide_eq_false ?_).symm
  have:l.drop i=[]:=List.drop_eq_nil_of_le (by omega)
  rw [this,longF] at h3
  rintro (h|h)<;>omega
structure Stp where
 what:Nat
 at_:Int
 n:Int
 text:List UInt8
def Stp.av (y:Stp):AV:=.agg [.int .u8 y.what,.int .i64 y.at_,.int .i64 y.n,.str y.text]
def manyP (l:List Stp):Prop:=(∃ s∈l.take 100,200<s.text.length)∨30<l.length
open Classical in
noncomputable instance (l:List Stp):Decidable (manyP l):=Classical.propDecidable _
theorem many_c (l:List Stp) (hb:l.length<9223372036854775808) (hs:∀ s∈l,s.text.length<9223372036854775808) (st:St):S Tb F_quartolaw15_many [.lit (l.map Stp.av)] st=some (.bool (decide (manyP l)),st):=by
 refine s_of rfl (fun A hA=>?_)
 repeat' (first|refine ru_seq ?_|refine ru_reg ?_|refine is_mv rfl ?_|refine is_nil rfl ?_|refine rk_seq ?_|refine ru_block ?_)
 refine ru_loopP (α:=Nat) (fun i=>[(0,.lit (l.map Stp.av)),(3,.int .i64 i)]) (fun p=>⟨A,false,[]⟩) (fun i=>i≤l.length∧i≤100∧∀ j s,j<i→l[j]?=some s→s.text.length≤200) (fun i=>l.length-i) 0 rfl rfl ⟨Nat.zero_le _,Nat.zero_le _,fun j s h=>by omega⟩ ?_
 rintro i ⟨h1,h2,h3⟩
 have key:∀ {j:Nat} {s:Stp},(l.length:Int)≤i∨100≤(i:Int)→s∈l.take 100→s.text.length≤200:=by
  intro j s hi hm
  obtain ⟨j,hj⟩:=List.mem_iff_getElem?.1 hm
  have hj1:=(List.getElem?_eq_some_iff.1 hj).1
  rw [List.length_take] at hj1
  rw [List.getElem?_take,if_pos (by omega)] at hj
  exact h3 j s (by omega) hj
 repeat' (first|refine ru_seq ?_|refine ru_reg ?_|refine is_mv rfl ?_|refine is_fadr rfl rfl ?_|refine is_gT rfl ?_|refine is_gF rfl rfl ?_|refine is_pick rfl rfl rfl rfl ?_|refine is_nil rfl ?_|refine rk_seq ?_|refine is_lenS rfl ?_|refine is_lenM rfl ?_|refine is_ldl rfl rfl ?_|refine is_ixM rfl rfl (by omega) (fun _=>rfl) (fun _ _=>?_)|(refine is_lss rfl rfl (fun _=>?_) (fun _=>?_)<;>try (exfalso;omega))|(refine is_gtr rfl rfl (fun _=>?_) (fun _=>?_)<;>try (exfalso;omega))|refine ru_iteT rfl ?_|refine ru_iteF rfl ?_|refine is_addS rfl rfl (by omega) ?_|refine ru_skip ?_|refine ru_ret ?_|refine ru_exit ?_|refine ru_block ?_|refine rk_nil ?_|refine rk_seq_ret ?_|refine rk_seq_ex ?_|refine rk_blk ?_|refine rk_blk_ret ?_|refine rk_blk_eq rfl ?_|refine rk_inv ?_|refine rk_inv_ret ?_|refine rk_inv_ex ?_)
 ·rename_i hlt hn s hs' hbig
  have hs1:l[i]?=some s:=by rw [show i=((i:Nat):Int).toNat by omega];exact hs'
  refine end_ofB hA (by first|exact .inl rfl|exact .inr rfl) rfl rfl ?_
  refine (decide_eq_true (.inl ⟨s,?_,by omega⟩)).symm
  refine List.mem_iff_getElem?.2 ⟨i,?_⟩
  rw [List.getElem?_take,if_pos (by omega)];exact hs1
 ·rename_i hlt hn s hs' hbig
  have hs1:l[i]?=some s:=by rw [show i=((i:Nat):Int).toNat by omega];exact hs'
  refine ⟨i+1,⟨rfl,rfl⟩,⟨by omega,by omega,fun j s2 hj h=>?_⟩,by omega⟩
  rcases Nat.lt_or_ge j i with q|q
  ·exact h3 j s2 q h
  ·obtain rfl:j=i:=by omega
   rw [hs1] at h
   have:=Option.some.inj h
   subst this
   omega
 ·refine end_ofB hA (by first|exact .inl rfl|exact .inr rfl) rfl rfl ?_
  exact (decide_eq_true (.inr (by omega))).symm
 ·refine end_ofB hA (by first|exact .inl rfl|exact .inr rfl) rfl rfl ?_
  exact (decide_eq_true (.inr (by omega))).symm
 ·refine end_ofB hA (by first|exact .inl rfl|exact .inr rfl) rfl rfl ?_
  refine (decide_eq_false ?_).symm
  rintro (⟨s,h,hh⟩|h)
  ·have:=key (j:=0) (s:=s) (.inl (by omega)) h
   omega
  ·omega
theorem manyP_no {l:List Stp} (h:¬ manyP l):l.length≤30∧∀ s∈l,s.text.length≤200:=by
 have h1:l.length≤30:=by
  rcases Nat.lt_or_ge 30 l.length with q|q
  ·exact absurd (.inr q) h
  ·exact q
 refine ⟨h1,fun s hs=>?_⟩
 rcases Nat.lt_or_ge 200 s.text.length with q|q
 ·refine absurd (.inl ⟨s,?_,q⟩) h
  rw [List.take_of_length_le (by omega)];exact hs
 ·exact q
theorem longP_no {l:List (List UInt8)} (h:¬ longP l):l.length≤4∧(l.map List.length).sum≤900:=by
 have h1:¬ 4<l.length:=fun q=>h (.inl q)
 have h2:¬ 900<longF 0 l:=fun q=>h (.inr q)
 have:=longF_sum l 0 (by omega)
 exact ⟨by omega,by omega⟩
end Go.Q15
namespace Go.Q15
open Go Go.QAbs
set_option maxRecDepth 100000
set_option maxHeartbeats 8000000
structure APost (P:List Blk→Nodes→(Nat→Prop)→Prop) (L:List Blk) (I:Nat→Prop) (N':Nodes) (L':List Blk) (I':Nat→Prop):Prop where
 p:P L' N' I'
 len:L.length≤L'.length
 old:∀ i,i<L.length→¬ I i→L'[i]?=L[i]?
 own:∀ i,I' i→I i∨L.length≤i
structure Allocs (A:List (Bool × List Blk)) (g:FuncId) (P:List Blk→Nodes→(Nat→Prop)→Nat→Prop):Prop where
 frame:∀ {L L' N I p},P L N I p→(∀ i,I i→L'[i]?=L[i]?)→P L' N I p
 lt:∀ {L N I p i},P L N I p→I i→i<L.length
 leaf:∀ {L N I p} (s:List UInt8),P L N I p→Ord N→N.length<700→leafP s→∃ L' I',
  S Tb g [.ptr A.length p 0 0 0,.agg [.int .i64 (0:Nat),.str s,.nils]] ⟨A,false,L⟩=some (.tup [.int .u64 ((hd N:Nat):Int),.int .i64 0],⟨A,false,L'⟩)∧APost (fun L N I=>P L N I p) L I (N++[(hd N,⟨0,s,some []⟩)]) L' I'
 inn:∀ {L N I p} (n:Nat) (ks:List Kid) {kx ver:Nat},P L N I p→Ord N→N.length<700→n≤15→2≤ks.length∧ks.length≤4→(∀ k∈ks,KidOk n k)→(sumM (ks.map Kid.m)).b≤65536→KidsLive N n ks→KRef ⟨A,false,L⟩ A.length kx ver ks→¬ I kx→∃ L' I',
  S Tb g [.ptr A.length p 0 0 0,ndR (n+1) A.length kx ver ks.length] ⟨A,false,L⟩=some (.tup [.int .u64 ((hd N:Nat):Int),.int .i64 0],⟨A,false,L'⟩)∧APost (fun L N I=>P L N I p) L I (N++[(hd N,⟨n+1,[],some ks⟩)]) L' I'
theorem wr_ord:∀ n N t N' k,WrH n N t N' k→Ord N→Ord N':=by
 have hc:∀ (P:Nodes→Tr→Nodes→Kid→Prop),(∀ N t N' k,P N t N' k→Ord N→Ord N')→∀ ts N N' l,Chain P N ts N' l→Ord N→Ord N':=by
  intro P hP ts
  induction ts with
  | nil=>intro N N' l h o;rw [h.1];exact o
  | cons t ts ih =>
   rintro N N' l ⟨N1,k,l1,h1,h2,_⟩ o
   exact ih N1 N' l1 h2 (hP _ _ _ _ h1 o)
 intro n
 induction n with
 | zero=>rintro N t N' k ⟨s,ks,_,_,_,rfl,_⟩ o;exact o.snoc _
 | succ n ih =>
  rintro N t N' k ⟨ts,N1,l,_,_,_,h,_,_,_,_,rfl,_⟩ o
  exact (hc _ ih _ _ _ _ h o).snoc _
theorem get_left {L T:List Blk} {i:Nat} {b:Blk} (h:L[i]?=some b):(L++T)[i]?=some b:=by
 rw [List.getElem?_append_left (List.getElem?_eq_some_iff.1 h).1];exact h
theorem get_left_lt {L T:List Blk} {i:Nat} (h:i<L.length):(L++T)[i]?=L[i]?:=List.getElem?_append_left h
theorem ro_part (r:Ro):partOf r.av true 0 5=some r.av:=by cases r;rfl
theorem end_kroot {e:Env} {A:List (Bool × List Blk)} {L:List Blk} {x:Ex} {b c ix ver:Nat} {r:Ro} {k:IntKind} {n:Int} {u:AV} (hx:x=.norm∨x=.ret) (hb:lookO e b=some (.ptr A.length ix ver 0 0)) (hg:L[ix]?=some (.arr 5 ver [r.av])) (hc:lookO e c=some (.int k n)) (hu:.tup [r.av,.int k n]=u):endK true [.c b true 5,.s c] (x,e,⟨A,false,L⟩)=some (u,⟨A,false,L⟩):=by
 subst hu
 have h1:resV ⟨A,false,L⟩ e (.c b true 5)=some r.av:=by
  simp only [resV,lookO_some hb,loadP,St.get_cur,hg,vis,loadB,if_true,List.getElem?_cons_zero,Option.bind_some,ro_part]
 have h2:result ⟨A,false,L⟩ e [.c b true 5,.s c]=some (.tup [r.av,.int k n]):=by
  simp only [result,resL,h1,Option.bind_some]
  simp only [resV,lookO_some hc,Option.bind_some,Option.map_some,tupOf]
 rcases hx with rfl|rfl<;>simp only [endK,h2,Option.bind_some,if_true,ret1]
theorem write_leaf {A:List (Bool × List Blk)} {g:FuncId} {P:List Blk→Nodes→(Nat→Prop)→Nat→Prop} (hA:Allocs A g P) {p:Nat} {N N':Nodes} {t:Tr} {k:Kid} (hw:WrH 0 N t N' k) (ho:Ord N) (hl:N'.length≤700) {L:List Blk} {I:Nat→Prop} (hP:P L N I p) :
 ∃ L' I',S Tb F_quartolaw15_Write [.func (.func g) [.ptr A.length p 0 0 0] [],t.av] ⟨A,false,L⟩=some (.tup [Ro.av ⟨k.at_,0,k.m⟩,.int .i64 0],⟨A,false,L'⟩)∧APost (fun L N I=>P L N I p) L I N' L' I':=by
 obtain ⟨s,ks,rfl,hk,hs,rfl,rfl⟩:=hw
 have hZ:=fun st=>refZero_leaf (.mk 0 0 .zero s ks) ⟨rfl,rfl,rfl,hs.1,hs.2,hk⟩ st
 have hM:=fun st=>lawMeasure_c s (by have:=hs.2;omega) st
 obtain ⟨T,hT⟩:∃ T:List Blk,T=[.arr 7 0 [(Tr.mk 0 0 .zero s ks).av],.arr 5 0 [.agg [.int .u64 0,.int .i64 0,.int .i64 0,.int .i64 0,.int .i64 0]],.arr 3 0 [.agg [.int .i64 (0:Nat),.str s,.nils]],.arr 3 0 [(meaT s).av]]:=⟨_,rfl⟩
 have hP':P (L++T) N I p:=hA.frame hP (fun i hi=>List.getElem?_append_left (hA.lt hP hi))
 obtain ⟨L1,I1,hS,hp⟩:=hA.leaf s hP' ho (by simp at hl;omega) hs
 have hTl:T.length=4:=by rw [hT];rfl
 have gT:∀ i b,T[i]?=some b→L1[L.length+i]?=some b:=by
  intro i b hb
  have hi:i<T.length:=(List.getElem?_eq_some_iff.1 hb).1
  rw [hp.old _ (by rw [List.length_append];omega) (fun q=>by have:=hA.lt hP q;omega),get_app];exact hb
 have q0:=gT 0 _ (by rw [hT];rfl)
 have q1:=gT 1 _ (by rw [hT];rfl)
 have q3:=gT 3 _ (by rw [hT];rfl)
 have hlen:=hp.len
 rw [List.length_append] at hlen
 refine ⟨L1.set (L.length+1) (.arr 5 0 [Ro.av ⟨hd N,0,meaT s⟩]),I1,s_keep rfl ?_,?_⟩
 ·have e0:(⟨A,false,L⟩:St)=⟨A,false,L++[]⟩:=by rw [List.append_nil]
  rw [e0]
  obtain ⟨ka,hka⟩:∃ ka,Tr.avO ks=ka∧(ka=.nils∨ka=.lit []):=by
   cases ks with
   | none=>exact ⟨_,rfl,.inl rfl⟩
   | some l=>have:l=[]:=hk;subst this;exact ⟨_,rfl,.inr rfl⟩
  obtain ⟨hka,hka2⟩:=hka
  simp only [Tr.av,Mea.zero,hka] at *
  rcases hka2 with rfl|rfl
  all_goals repeat' (first|refine is_boxA rfl rfl rfl rfl rfl ?_|refine is_ldA rfl rfl rfl rfl ?_|refine is_stA rfl rfl rfl rfl rfl rfl rfl ?_|refine ru_seq ?_|refine ru_reg ?_|refine is_mv rfl ?_|refine is_fadr rfl rfl ?_|refine is_nil rfl ?_|refine rk_seq ?_|(refine is_neq rfl rfl (fun _=>?_) (fun _=>?_)<;>try (exfalso;omega))|refine ru_iteF rfl ?_|refine is_buildO rfl rfl rfl ?_|refine is_callE rfl rfl rfl (hZ _) ?_|refine is_callE rfl rfl rfl (hM _) ?_|refine ru_skip ?_|refine ru_block ?_)
  all_goals refine ru_unroll ?_
  all_goals rw [hT] at hS
  all_goals repeat' (first|refine is_ldA rfl rfl rfl rfl ?_|refine is_ldc rfl q0 rfl rfl ?_|refine is_ldc rfl q3 rfl rfl ?_|refine is_stn q1 rfl rfl rfl rfl rfl ?_|refine ru_seq ?_|refine ru_reg ?_|refine is_mv rfl ?_|refine is_fadr rfl rfl ?_|refine is_ext rfl rfl ?_|refine is_nil rfl ?_|refine rk_seq ?_|refine is_lenF rfl rfl ?_|refine is_lenN rfl ?_|(refine is_lss rfl rfl (fun _=>?_) (fun _=>?_)<;>try (exfalso;omega))|(refine is_neq rfl rfl (fun _=>?_) (fun _=>?_)<;>try (exfalso;omega))|refine ru_iteF rfl ?_|refine is_buildO rfl rfl rfl ?_|refine is_callE rfl rfl rfl (hS) ?_|refine ru_skip ?_|refine ru_ret ?_|refine ru_exit ?_|refine rk_nil ?_|refine rk_seq_ex ?_|refine rk_blk_eq rfl ?_)
  all_goals exact end_kroot (r:=⟨hd N,0,meaT s⟩) (.inr rfl) rfl (List.getElem?_set_self (by omega)) rfl rfl
 ·refine ⟨hA.frame hp.p (fun i hi=>?_),by rw [List.length_set];omega,fun i h1 h2=>?_,fun i hi=>?_⟩
  ·rw [List.getElem?_set_ne]
   rcases hp.own i hi with q|q
   ·have:=hA.lt hP q;omega
   ·rw [List.length_append] at q;omega
  ·rw [List.getElem?_set_ne (by omega),hp.old i (by rw [List.length_append];omega) h2,get_left_lt h1]
  ·rcases hp.own i hi with q|q
   ·exact .inl q
   ·rw [List.length_append] at q;exact .inr (by omega)
end Go.Q15
namespace Go.Q15
open Go Go.QAbs
set_option maxRecDepth 100000
set_option maxHeartbeats 8000000
section
variable {O:Orc} {k:List Fr} {Q:Post} {e:Env} {A:List (Bool × List Blk)} {L:List Blk} {keep:List Nat} {is:List PI} {d:Nat}
theorem is_plainStB {a b x:Opd} {n ix ver i o w vb ib ob:Nat} {es:List AV} {v v' y:AV} (hg:L[ix]?=some (Blk.arr w ver es)) (ha:opdO e a=some (.ptr A.length ix ver i o)) (hb:opdO e b=some (.ptr A.length ix vb ib ob)) (hx:opdO e x=some v) (hy:es[i]?=some y) (him:imm 6 v=true)
 (hs:sealV deep (A.length+1) ⟨A,false,L⟩ v=some (v,⟨A,false,L⟩)) (hv:(elemSet w y o n v).bind forceV=some v') (h:Is O is keep k Q e ⟨A,false,L.set ix (Blk.arr w ver (es.set i v'))⟩):Is O (⟨none,none,false,.w (.plain b) (.st n a x)⟩::is) keep k Q e ⟨A,false,L⟩:=by
 have hlt:ix<L.length:=by
  rw [List.getElem?_eq_some_iff] at hg;exact hg.1
 have hv':elemSet w y o n v=some v':=by
  simp only [Option.bind_eq_some_iff] at hv
  obtain ⟨u,h1,h2⟩:=hv
  rw [h1,forceV_some h2]
 refine is_of (od:=none) (v:=.undef) (st':=⟨A,false,L.set ix (Blk.arr w ver (es.set i v'))⟩) ?_ h
 have hsb:sameBlk (.ptr A.length ix ver i o) (.ptr A.length ix vb ib ob)=true:=by simp [sameBlk]
 simp only [evalPI,evalW,plainW,opdO_some ha,opdO_some hb,opdO_some hx,hsb,him,and_self,if_true]
 simp only [evalPO,opdO_some ha,opdO_some hx,storeP,hs,Option.bind_some,storeK,St.get_cur,hg,vis,storeB,if_true,hy,hv',St.put,if_false,Bool.false_eq_true,if_pos hlt,retU]
end
def kvV (lv kx:Nat):Nat→AV
 | 0=>.nils
 | i+1=>.ref lv kx i 0 (i+1)
structure WInv (A:List (Bool × List Blk)) (P:List Blk→Nodes→(Nat→Prop)→Nat→Prop) (p:Nat) (L0:List Blk) (I0:Nat→Prop) (n:Nat) (N1:Nodes) (ts:List Tr) (l:List Kid) (i:Nat) (L:List Blk) (N:Nodes) (I:Nat→Prop) (kx:Nat):Prop where
 p:P L N I p
 le:i≤ts.length
 chain:Chain (WrH n) N (ts.drop i) N1 (l.drop i)
 ord:Ord N
 own:∀ j,I j→I0 j∨L0.length+4≤j
 old:∀ j,j<L0.length→¬ I0 j→L[j]?=L0[j]?
 len:L0.length+4≤L.length
 b0:L[L0.length+0]?=some (.arr 7 0 [.agg [.int .u64 (0:Nat),.int .i64 ((n+1:Nat):Int),.int .i64 0,.int .i64 0,.int .i64 0,.str [],.lit (ts.map Tr.av)]])
 b1:L[L0.length+1]?=some (.arr 5 0 [.agg [.int .u64 0,.int .i64 0,.int .i64 0,.int .i64 0,.int .i64 0]])
 b2:L[L0.length+2]?=some (.arr 3 0 [.agg [.int .i64 ((n+1:Nat):Int),.str [],kvV A.length kx i]])
 b3:L[L0.length+3]?=some (.arr 3 0 [(sumM ((l.take i).map Kid.m)).av])
 kb:i≠0→L[kx]?=some (.arr 4 (i-1) ((l.take i).map Kid.av))∧¬ I kx∧L0.length+4≤kx
theorem WInv.next {A:List (Bool × List Blk)} {P:List Blk→Nodes→(Nat→Prop)→Nat→Prop} (hA:∀ {L L' N I p},P L N I p→(∀ i,I i→L'[i]?=L[i]?)→P L' N I p) (hlt:∀ {L N I p i},P L N I p→I i→i<L.length)
 {p:Nat} {L0:List Blk} {I0:Nat→Prop} (h0:∀ j,I0 j→j<L0.length) {n:Nat} {N1:Nodes} {ts:List Tr} {l:List Kid} {i:Nat} {L:List Blk} {N:Nodes} {I:Nat→Prop} {kx:Nat} (h:WInv A P p L0 I0 n N1 ts l i L N I kx) (hi:i<ts.length)
 {k:Kid} {N2:Nodes} (hd:Chain (WrH n) N2 (ts.drop (i+1)) N1 (l.drop (i+1))) (hk:l[i]?=some k) (ho:Ord N2) {L1:List Blk} {I1:Nat→Prop} (hp:APost (fun L N I=>P L N I p) L I N2 L1 I1)
 {L3:List Blk} {kx':Nat} (hlen:L1.length≤L3.length) (hkx:(i≠0∧kx'=kx)∨(i=0∧L1.length≤kx')) (hold:∀ j,j<L1.length→j≠L0.length+2→j≠L0.length+3→j≠kx'→L3[j]?=L1[j]?)
 (h2:L3[L0.length+2]?=some (.arr 3 0 [.agg [.int .i64 ((n+1:Nat):Int),.str [],kvV A.length kx' (i+1)]])) (h3:L3[L0.length+3]?=some (.arr 3 0 [(sumM ((l.take (i+1)).map Kid.m)).av])) (h4:L3[kx']?=some (.arr 4 i ((l.take (i+1)).map Kid.av))) :
 WInv A P p L0 I0 n N1 ts l (i+1) L3 N2 I1 kx':=by
 have hI:∀ j,I j→j<L.length:=fun j hj=>hlt h.p hj
 have own1:∀ j,I1 j→I0 j∨L0.length+4≤j:=by
  intro j hj
  rcases hp.own j hj with q|q
  ·exact h.own j q
  ·have:=h.len;exact .inr (by omega)
 have hlen0:=h.len
 have hlen1:=hp.len
 have nkx:¬ I1 kx':=by
  intro q
  have hq:=hlt hp.p q
  rcases hkx with ⟨w1,rfl⟩|⟨w1,w2⟩
  ·obtain ⟨k1,k2,k3⟩:=h.kb w1
   rcases hp.own _ q with w|w
   ·exact k2 w
   ·have:=(List.getElem?_eq_some_iff.1 k1).1;omega
  ·omega
 have kge:L0.length+4≤kx':=by
  rcases hkx with ⟨w1,rfl⟩|⟨w1,w2⟩
  ·exact (h.kb w1).2.2
  ·omega
 have keep:∀ j,j<L0.length+2→¬ I0 j→L3[j]?=L[j]?:=by
  intro j hj hn
  rw [hold j (by omega) (by omega) (by omega) (by omega),hp.old j (by omega) (fun q=>by
   rcases h.own j q with w|w
   ·exact hn w
   ·omega)]
 have nI0:∀ j,L0.length≤j→¬ I0 j:=fun j hj q=>by have:=h0 j q;omega
 refine ⟨hA hp.p (fun j hj=>?_),hi,hd,ho,own1,fun j hj hn=>?_,by omega,?_,?_,h2,h3,fun _=>⟨h4,nkx,kge⟩⟩
 ·refine hold j (hlt hp.p hj) ?_ ?_ (fun q=>nkx (q▸hj))
  ·intro q;rcases own1 j hj with w|w
   ·have:=h0 j w;omega
   ·omega
  ·intro q;rcases own1 j hj with w|w
   ·have:=h0 j w;omega
   ·omega
 ·rw [keep j (by omega) hn];exact h.old j hj hn
 ·rw [keep _ (by omega) (nI0 _ (by omega))];exact h.b0
 ·rw [keep _ (by omega) (nI0 _ (by omega))];exact h.b1
theorem beq_ne {a b:Nat} (h:a≠b):Nat.beq a b=false:=by
 cases h':Nat.beq a b
 ·rfl
 ·exact absurd (Nat.eq_of_beq_eq_true h') h
theorem w13 {k:List Fr} {Q:Post} {A:List (Bool × List Blk)} {L2:List Blk} {f v3 v4 v6 iv:AV} {jm rx:Nat} {mb mr ml:Int} {r:Ro} (h3:L2[jm]?=some (.arr 3 0 [.agg [.int .i64 mb,.int .i64 mr,.int .i64 ml]])) (h9:L2[rx]?=some (.arr 5 0 [r.av])) (hne:Nat.beq rx jm=false)
 (hb:0≤mb∧mb≤262144∧0≤mr∧mr≤262144∧0≤ml∧ml≤262144) (hr:0≤r.m.b∧r.m.b≤65536∧0≤r.m.r∧r.m.r≤65536∧0≤r.m.l∧r.m.l≤65536)
 (h:Rk (S Tb) k Q .norm [(0,f),(3,v3),(4,v4),(6,v6),(7,.ptr A.length jm 0 0 0),(8,iv)] ⟨A,false,L2.set jm (.arr 3 0 [.agg [.int .i64 (mb+r.m.b),.int .i64 (mr+r.m.r),.int .i64 (ml+r.m.l)]])⟩) :
 Ru (S Tb) p_quartolaw15_Write_13 k Q [(0,f),(3,v3),(4,v4),(6,v6),(7,.ptr A.length jm 0 0 0),(8,iv),(9,.ptr A.length rx 0 0 0)] ⟨A,false,L2⟩:=by
 have hlt:=(List.getElem?_eq_some_iff.1 h3).1
 unfold Ro.av at h9
 repeat' (first|refine is_ldc rfl h3 rfl rfl ?_|refine is_ldc rfl h9 rfl rfl ?_|refine is_hideLd rfl rfl hne h9 rfl rfl ?_|refine is_plainStB h3 rfl rfl rfl rfl rfl rfl rfl ?_|refine ru_reg ?_|refine is_fadr rfl rfl ?_|refine is_addS rfl rfl (by omega) ?_)
 refine is_plainStB (List.getElem?_set_self hlt) rfl rfl rfl rfl rfl rfl rfl ?_
 rw [List.set_set]
 repeat' (refine is_fadr rfl rfl ?_)
 refine is_stn (List.getElem?_set_self hlt) rfl rfl rfl rfl rfl ?_
 rw [List.set_set]
 refine is_nil rfl ?_
 exact h
theorem write_in {A:List (Bool × List Blk)} {g:FuncId} {P:List Blk→Nodes→(Nat→Prop)→Nat→Prop} (hA:Allocs A g P) {p n:Nat}
 (ih:∀ N t N' k,WrH n N t N' k→Ord N→N'.length≤700→∀ L I,P L N I p→∃ L' I',S Tb F_quartolaw15_Write [.func (.func g) [.ptr A.length p 0 0 0] [],t.av] ⟨A,false,L⟩=some (.tup [Ro.av ⟨k.at_,n,k.m⟩,.int .i64 0],⟨A,false,L'⟩)∧APost (fun L N I=>P L N I p) L I N' L' I')
 {N N':Nodes} {t:Tr} {k:Kid} (hw:WrH (n+1) N t N' k) (ho:Ord N) (hl:N'.length≤700) {L:List Blk} {I:Nat→Prop} (hP:P L N I p) :
 ∃ L' I',S Tb F_quartolaw15_Write [.func (.func g) [.ptr A.length p 0 0 0] [],t.av] ⟨A,false,L⟩=some (.tup [Ro.av ⟨k.at_,n+1,k.m⟩,.int .i64 0],⟨A,false,L'⟩)∧APost (fun L N I=>P L N I p) L I N' L' I':=by
 obtain ⟨ts,N1,l,rfl,hts,hn,hch,hll,hkid,hsum,hlive,rfl,rfl⟩:=hw
 have hZ:=fun st=>refZero_inner (.mk 0 (n+1) .zero [] (some ts)) ⟨rfl,rfl,rfl,Nat.succ_le_succ (Nat.zero_le _),by simp only [Tr.h];omega,hts.1,hts.2⟩ st
 have hM:=fun st=>lawMeasure_c [] (by decide) st
 have hlen1:N1.length<700:=by simp at hl;omega
 have hfit:∀ i,(sumM ((l.take i).map Kid.m)).Fit 262144:=by
  intro i
  have:=sumM_fit (l:=(l.take i).map Kid.m) (fun m hm=>by obtain ⟨k,hk,rfl⟩:=List.mem_map.1 hm;exact (hkid k (List.mem_of_mem_take hk)).fit)
  have hle:((l.take i).map Kid.m).length≤4:=by rw [List.length_map,List.length_take];omega
  obtain ⟨a,b,c,d,e,f⟩:=this
  exact ⟨a,by omega,c,by omega,e,by omega⟩
 have hlm:(ts.map Tr.av).length=ts.length:=List.length_map _
 suffices h:Sp Tb F_quartolaw15_Write [.func (.func g) [.ptr A.length p 0 0 0] [],(Tr.mk 0 (n+1) .zero [] (some ts)).av] ⟨A,false,L⟩ fun v st'=>v=.tup [Ro.av ⟨hd N1,n+1,sumM (l.map Kid.m)⟩,.int .i64 0]∧∃ L' I',st'=⟨A,false,L'⟩∧APost (fun L N I=>P L N I p) L I (N1++[(hd N1,⟨n+1,[],some l⟩)]) L' I' by
  obtain ⟨v,st',h1,rfl,L',I',rfl,h2⟩:=h
  exact ⟨L',I',h1,h2⟩
 refine sp_keep rfl ?_
 have e0:∀ L:List Blk,(⟨A,false,L⟩:St)=⟨A,false,L++[]⟩:=fun L=>by rw [List.append_nil]
 rw [e0]
 simp only [Tr.av,Tr.avO,Tr.avL_map,Mea.zero] at hZ ⊢
 simp only [meaT_nil,Mea.zero,Mea.av] at hM
 repeat' (first|refine is_boxA rfl rfl rfl rfl rfl ?_|refine is_ldA rfl rfl rfl rfl ?_|refine is_stA rfl rfl rfl rfl rfl rfl rfl ?_|refine ru_seq ?_|refine ru_reg ?_|refine is_mv rfl ?_|refine is_fadr rfl rfl ?_|refine is_nil rfl ?_|refine rk_seq ?_|(refine is_neq rfl rfl (fun _=>?_) (fun _=>?_)<;>try (exfalso;omega))|refine ru_iteF rfl ?_|refine is_buildO rfl rfl rfl ?_|refine is_callE rfl rfl rfl (hZ _) ?_|refine is_callE rfl rfl rfl (hM _) ?_|refine ru_skip ?_|refine ru_block ?_)
 obtain ⟨T,hT⟩:∃ T:List Blk,T=[.arr 7 0 [.agg [.int .u64 (0:Nat),.int .i64 ((n+1:Nat):Int),.int .i64 0,.int .i64 0,.int .i64 0,.str [],.lit (ts.map Tr.av)]],.arr 5 0 [.agg [.int .u64 0,.int .i64 0,.int .i64 0,.int .i64 0,.int .i64 0]],.arr 3 0 [.agg [.int .i64 ((n+1:Nat):Int),.str [],.nils]],.arr 3 0 [.agg [.int .i64 0,.int .i64 0,.int .i64 0]]]:=⟨_,rfl⟩
 refine ru_loopP (α:=Nat × List Blk × Nodes × (Nat→Prop) × Nat) (fun q=>[(0,.func (.func g) [.ptr A.length p 0 0 0] []),(3,.ptr A.length (L.length+0) 0 0 0),(4,.ptr A.length (L.length+1) 0 0 0),(6,.ptr A.length (L.length+2) 0 0 0),(7,.ptr A.length (L.length+3) 0 0 0),(8,.int .i64 q.1)])
  (fun q=>⟨A,false,q.2.1⟩) (fun q=>WInv A P p L I n N1 ts l q.1 q.2.1 q.2.2.1 q.2.2.2.1 q.2.2.2.2) (fun q=>ts.length-q.1) (0,L++T,N,I,0) rfl (by rw [hT];rfl) ?_ ?_
 ·have gT:∀ i,(L++T)[L.length+i]?=T[i]?:=fun i=>get_app
  refine ⟨hA.frame hP (fun i hi=>List.getElem?_append_left (hA.lt hP hi)),Nat.zero_le _,hch,ho,fun j hj=>.inl hj,fun j hj _=>List.getElem?_append_left hj,by rw [hT];simp,?_,?_,?_,?_,fun q=>absurd rfl q⟩
  ·rw [gT 0,hT];rfl
  ·rw [gT 1,hT];rfl
  ·rw [gT 2,hT];rfl
  ·rw [gT 3,hT];rfl
 rintro ⟨i,Li,Ni,Ii,kx⟩ inv
 simp only at inv ⊢
 have b0:=inv.b0
 have hle:=inv.le
 repeat' (first|refine is_ldc rfl b0 rfl rfl ?_|refine is_len1L rfl ?_|refine ru_seq ?_|refine ru_reg ?_|refine is_mv rfl ?_|refine is_fadr rfl rfl ?_|refine is_nil rfl ?_|refine rk_seq ?_|(refine is_lss rfl rfl (fun _=>?_) (fun _=>?_)<;>try (exfalso;omega))|refine ru_iteT rfl ?_|refine ru_iteF rfl ?_|refine is_ixM rfl rfl (by omega) tr_wide (fun _ _=>?_)|refine is_ldl rfl (tr_part _) ?_|refine ru_skip ?_|refine ru_exit ?_|refine ru_block ?_|refine rk_seq_ex ?_|refine rk_blk_eq rfl ?_|refine rk_inv_ex ?_)
 ·rename_i hlt t ht
  have ht':ts[i]?=some t:=by rw [show i=((i:Nat):Int).toNat by omega];exact ht
  have hlt':i<ts.length:=by omega
  have hc0:=inv.chain
  rw [drop_cons ht'] at hc0
  obtain ⟨N2,k,l1,hw,hc2,hl1⟩:=hc0
  have hk:l[i]?=some k:=by rw [← List.head?_drop,hl1];rfl
  have hl2:l.drop (i+1)=l1:=by
   have:=drop_cons hk
   rw [hl1] at this
   exact ((List.cons.inj this).2).symm
  rw [← hl2] at hc2
  have hmono:=chain_mono (wr_mono n) _ _ _ _ hc2
  have ho2:=wr_ord _ _ _ _ _ hw inv.ord
  obtain ⟨L1,I1,hS,hp⟩:=ih Ni t N2 k hw inv.ord (by omega) Li Ii inv.p
  have hI0:∀ j,I j→j<L.length:=fun j hj=>hA.lt hP hj
  have hlen:=inv.len
  have hlen1:=hp.len
  have own:∀ c,c<4→L1[L.length+c]?=Li[L.length+c]?:=fun c hc=>hp.old _ (by omega) (fun q=>by
   rcases inv.own _ q with w|w
   ·have:=hI0 _ w;omega
   ·omega)
  have c2:=own 2 (by omega)
  rw [inv.b2] at c2
  have c3:=own 3 (by omega)
  rw [inv.b3] at c3
  have hkf:=(hkid k (List.mem_of_getElem? hk)).fit
  obtain ⟨f1,f2,f3,f4,f5,f6⟩:=hkf
  have hsum1:sumM ((l.take (i+1)).map Kid.m)=(sumM ((l.take i).map Kid.m)).add k.m:=by
   rw [take_succ_get hk,List.map_append,sumM_append];simp [sumM,Mea.add_zero]
  obtain ⟨g1,g2,g3,g4,g5,g6⟩:=hfit i
  have hnext:=fun {L3:List Blk} {kx':Nat}=>WInv.next (A:=A) (P:=P) (p:=p) hA.frame hA.lt hI0 inv hlt' hc2 hk ho2 hp (L3:=L3) (kx':=kx')
  rw [hsum1] at hnext
  generalize sumM ((l.take i).map Kid.m)=m at *
  obtain ⟨mb,mr,ml⟩:=m
  simp only [Mea.av,Mea.add] at c3 hnext g1 g2 g3 g4 g5 g6
  refine is_callE rfl rfl (by first|rfl|(simp only [List.nil_append,List.append_nil,List.cons_append,weaks,tr_weak,forceL];rfl)) hS ?_
  rw [e0]
  have c2T:=fun T=>get_left (T:=T) c2
  have c3T:=fun T=>get_left (T:=T) c3
  rcases i with _|i
  ·have c2N:∀ T,(L1++T)[L.length+2]?=some (.arr 3 0 [.agg [.int .i64 ((n+1:Nat):Int),.str [],.nils]]):=c2T
   repeat' (first|refine is_boxA rfl rfl rfl rfl rfl ?_|refine is_ldA rfl rfl rfl rfl ?_|refine is_stA rfl rfl rfl rfl rfl rfl rfl ?_|refine is_ldc rfl (c2N _) rfl rfl ?_|refine is_appNA rfl rfl (by decide) rfl rfl rfl ?_|refine is_stn (c2N _) rfl rfl rfl (seal_refL _ (Nat.lt_succ_self _)) rfl ?_|refine w13 (r:=⟨k.at_,n,k.m⟩) (mb:=mb) (mr:=mr) (ml:=ml) ?_ ?_ ?_ ⟨g1,g2,g3,g4,g5,g6⟩ ⟨f1,f2,f3,f4,f5,f6⟩ ?_|refine ru_seq ?_|refine ru_reg ?_|refine is_mv rfl ?_|refine is_fadr rfl rfl ?_|refine is_ext rfl rfl ?_|refine is_nil rfl ?_|refine rk_seq ?_|(refine is_neq rfl rfl (fun _=>?_) (fun _=>?_)<;>try (exfalso;omega))|refine ru_iteF rfl ?_|refine is_addS rfl rfl (by omega) ?_|refine is_buildO rfl rfl rfl ?_|refine is_bslFO rfl rfl rfl rfl ?_|refine ru_skip ?_|refine rk_blk ?_|refine rk_inv ?_)
   ·rw [List.getElem?_set_ne (by omega)];exact c3T _
   ·rw [List.getElem?_set_ne (by omega),get_app];rfl
   ·exact beq_ne (by omega)
   ·refine ⟨(1,_,N2,I1,L1.length+1),⟨rfl,rfl⟩,hnext (kx':=L1.length+1) ?_ (.inr ⟨rfl,by omega⟩) ?_ ?_ ?_ ?_,by simp only;omega⟩
    ·simp only [List.length_set,List.length_append];omega
    ·intro j j1 j2 j3 j4
     rw [List.getElem?_set_ne (by omega),List.getElem?_set_ne (by omega),List.getElem?_append_left j1]
    ·rw [List.getElem?_set_ne (by omega),List.getElem?_set_self (by simp;omega)];rfl
    ·rw [List.getElem?_set_self (by simp;omega)]
    ·rw [List.getElem?_set_ne (by omega),List.getElem?_set_ne (by omega),get_app]
     have:l.take 1=[k]:=by rw [take_succ_get hk];rfl
     rw [this];rfl
  ·obtain ⟨k1,k2,k3⟩:=inv.kb (by omega)
   have k1':L1[kx]?=some (.arr 4 i ((l.take (i+1)).map Kid.av)):=by
    rw [hp.old _ (List.getElem?_eq_some_iff.1 k1).1 k2];exact k1
   have kxl:=(List.getElem?_eq_some_iff.1 k1').1
   have k1T:=fun T=>get_left (T:=T) k1'
   have ltake:((l.take (i+1)).map Kid.av).length=i+1:=by rw [List.length_map,List.length_take];omega
   have c2N:∀ T,(L1++T)[L.length+2]?=some (.arr 3 0 [.agg [.int .i64 ((n+1:Nat):Int),.str [],.ref A.length kx i 0 (i+1)]]):=c2T
   repeat' (first|refine is_boxA rfl rfl rfl rfl rfl ?_|refine is_ldA rfl rfl rfl rfl ?_|refine is_stA rfl rfl rfl rfl rfl rfl rfl ?_|refine is_ldc rfl (c2N _) rfl rfl ?_|refine is_app1N rfl rfl (k1T _) ltake.symm (by omega) (by decide) rfl rfl ?_|refine ru_seq ?_|refine ru_reg ?_|refine is_mv rfl ?_|refine is_fadr rfl rfl ?_|refine is_ext rfl rfl ?_|refine is_nil rfl ?_|refine rk_seq ?_|(refine is_neq rfl rfl (fun _=>?_) (fun _=>?_)<;>try (exfalso;omega))|refine ru_iteF rfl ?_|refine is_buildO rfl rfl rfl ?_|refine is_bslFO rfl rfl rfl rfl ?_|refine ru_skip ?_)
   refine is_stn (by rw [List.getElem?_set_ne (by omega)];exact c2N _) rfl rfl rfl (seal_refL _ (Nat.lt_succ_self _)) rfl ?_
   repeat' (first|refine w13 (r:=⟨k.at_,n,k.m⟩) (mb:=mb) (mr:=mr) (ml:=ml) ?_ ?_ ?_ ⟨g1,g2,g3,g4,g5,g6⟩ ⟨f1,f2,f3,f4,f5,f6⟩ ?_|refine ru_reg ?_|refine is_mv rfl ?_|refine is_nil rfl ?_|refine rk_seq ?_|refine is_addS rfl rfl (by omega) ?_|refine rk_blk ?_|refine rk_inv ?_)
   ·rw [List.getElem?_set_ne (by omega),List.getElem?_set_ne (by omega)];exact c3T _
   ·rw [List.getElem?_set_ne (by omega),List.getElem?_set_ne (by omega),get_app];rfl
   ·exact beq_ne (by omega)
   ·refine ⟨(i+1+1,_,N2,I1,kx),⟨rfl,rfl⟩,hnext (kx':=kx) ?_ (.inl ⟨by omega,rfl⟩) ?_ ?_ ?_ ?_,by simp only;omega⟩
    ·simp only [List.length_set,List.length_append];omega
    ·intro j j1 j2 j3 j4
     rw [List.getElem?_set_ne (by omega),List.getElem?_set_ne (by omega),List.getElem?_set_ne (by omega),List.getElem?_append_left j1]
    ·rw [List.getElem?_set_ne (by omega),List.getElem?_set_self (by simp;omega)];rfl
    ·rw [List.getElem?_set_self (by simp;omega)]
    ·rw [List.getElem?_set_ne (by omega),List.getElem?_set_ne (by omega),List.getElem?_set_self (by simp;omega),take_succ_get hk,List.map_append];rfl
 ·have hie:i=ts.length:=by omega
  subst hie
  obtain ⟨q,hq⟩:∃ q,ts.length=q+1:=⟨ts.length-1,by omega⟩
  have hch2:=inv.chain
  rw [List.drop_length] at hch2
  obtain ⟨rfl,_⟩:=hch2
  obtain ⟨k1,k2,k3⟩:=inv.kb (by omega)
  have htl:l.take ts.length=l:=List.take_of_length_le (by omega)
  have b2:=inv.b2
  have b3:=inv.b3
  rw [htl] at k1 b3
  rw [show ts.length-1=q by omega] at k1
  have hkr:KRef ⟨A,false,Li⟩ A.length kx q l:=⟨_,cur_get k1,by rw [List.take_of_length_le (by rw [List.length_map];exact Nat.le_refl _)]⟩
  obtain ⟨L2,I2,hS,hp⟩:=hA.inn n l inv.p inv.ord hlen1 hn ⟨by omega,by omega⟩ hkid hsum hlive hkr k2
  have hI0:∀ j,I j→j<L.length:=fun j hj=>hA.lt hP hj
  have hlen:=inv.len
  have hlen2:=hp.len
  have own:∀ c,c<4→L2[L.length+c]?=Li[L.length+c]?:=fun c hc=>hp.old _ (by omega) (fun q=>by
   rcases inv.own _ q with w|w
   ·have:=hI0 _ w;omega
   ·omega)
  have q0:=own 0 (by omega)
  rw [b0] at q0
  have q1:=own 1 (by omega)
  rw [inv.b1] at q1
  have q3:=own 3 (by omega)
  rw [b3] at q3
  unfold Mea.av at q3
  have b2':Li[L.length+2]?=some (.arr 3 0 [.agg [.int .i64 ((n+1:Nat):Int),.str [],.ref A.length kx q 0 l.length]]):=by
   rw [b2,hq,hll,hq];rfl
  unfold ndR at hS
  repeat' (first|refine is_ldc rfl b2' rfl rfl ?_|refine is_ldc rfl q0 rfl rfl ?_|refine is_ldc rfl q3 rfl rfl ?_|refine is_stn q1 rfl rfl rfl rfl rfl ?_|refine ru_seq ?_|refine ru_reg ?_|refine is_mv rfl ?_|refine is_fadr rfl rfl ?_|refine is_ext rfl rfl ?_|refine is_nil rfl ?_|refine rk_seq ?_|(refine is_neq rfl rfl (fun _=>?_) (fun _=>?_)<;>try (exfalso;omega))|refine ru_iteF rfl ?_|refine is_buildO rfl rfl rfl ?_|refine is_callE rfl rfl rfl (hS) ?_|refine ru_skip ?_|refine ru_ret ?_|refine rk_nil ?_)
  refine ⟨_,_,end_kroot (r:=⟨hd N1,n+1,sumM (l.map Kid.m)⟩) (.inr rfl) rfl (List.getElem?_set_self (by omega)) rfl rfl,rfl,_,I2,rfl,⟨hA.frame hp.p (fun i hi=>?_),by rw [List.length_set];omega,fun i h1 h2=>?_,fun i hi=>?_⟩⟩
  ·rw [List.getElem?_set_ne]
   rcases hp.own i hi with w|w
   ·rcases inv.own i w with w|w
    ·have:=hI0 _ w;omega
    ·omega
   ·omega
  ·rw [List.getElem?_set_ne (by omega), hp.old i (by omega) (fun w => by
    rcases inv.own i w with w|w
    ·exact h2 w
    ·omega),inv.old i h1 h2]
  ·rcases hp.own i hi with w|w
   ·rcases inv.own i w with w|w
    ·exact .inl w
    ·exact .inr (by omega)
   ·exact .inr (by omega)
theorem write_c {A:List (Bool × List Blk)} {g:FuncId} {P:List Blk→Nodes→(Nat→Prop)→Nat→Prop} (hA:Allocs A g P) {p:Nat}:∀ n N t N' k,WrH n N t N' k→Ord N→N'.length≤700→∀ L I,P L N I p →
 ∃ L' I',S Tb F_quartolaw15_Write [.func (.func g) [.ptr A.length p 0 0 0] [],t.av] ⟨A,false,L⟩=some (.tup [Ro.av ⟨k.at_,n,k.m⟩,.int .i64 0],⟨A,false,L'⟩)∧APost (fun L N I=>P L N I p) L I N' L' I':=by
 intro n
 induction n with
 | zero=>intro N t N' k hw ho hl L I hP;exact write_leaf hA hw ho hl hP
 | succ n ih=>intro N t N' k hw ho hl L I hP;exact write_in hA ih hw ho hl hP
end Go.Q15
namespace Go.Q15
open Go Go.QAbs
set_option maxRecDepth 100000
set_option maxHeartbeats 8000000
def PA (A:List (Bool × List Blk)) (L:List Blk) (N:Nodes) (I:Nat→Prop) (p:Nat):Prop:=∃ b,p=b+5∧Has ⟨A,false,L⟩ A.length b (arOf N)∧∀ i,I i↔(b≤i∧i≤b+5)
def PB (A:List (Bool × List Blk)) (L:List Blk) (N:Nodes) (I:Nat→Prop) (p:Nat):Prop:=∃ b it,p=b+4∧RHas A L b it N∧∀ i,I i↔((b≤i∧i≤b+4)∨(N≠[]∧i=it))
theorem get_frame {A:List (Bool × List Blk)} {L L':List Blk} {i:Nat} {o:Option Blk} (h:St.get ⟨A,false,L⟩ A.length i=o) (e:L'[i]?=L[i]?):St.get ⟨A,false,L'⟩ A.length i=o:=by
 rw [St.get_cur] at h ⊢;rw [e];exact h
theorem Has.frame {A:List (Bool × List Blk)} {L L':List Blk} {b:Nat} {r:AR} (h:Has ⟨A,false,L⟩ A.length b r) (h0:∀ i,b≤i→i≤b+5→L'[i]?=L[i]?):Has ⟨A,false,L'⟩ A.length b r :=
 ⟨by simp [St.wr],get_frame h.h0 (h0 _ (by omega) (by omega)),get_frame h.h1 (h0 _ (by omega) (by omega)),get_frame h.h2 (h0 _ (by omega) (by omega)),get_frame h.h3 (h0 _ (by omega) (by omega)),get_frame h.h4 (h0 _ (by omega) (by omega)),get_frame h.h5 (h0 _ (by omega) (by omega))⟩
theorem Has.lt {A:List (Bool × List Blk)} {L:List Blk} {b:Nat} {r:AR} (h:Has ⟨A,false,L⟩ A.length b r):b+5<L.length:=by
 have:=h.h5
 rw [St.get_cur] at this
 exact vis_lt this
theorem alloc_cur {A:List (Bool × List Blk)} {L:List Blk} {b s g:Nat} {r:AR} {x:Nd}:allocSt ⟨A,false,L⟩ A.length b r s g x=⟨A,false,(((L.set (b+3) ((r.take s).b3 A.length b)).set b (r.take s).b0).set (b+4) (r.alloc s g x).b4).set (b+5) ((r.alloc s g x).b5 A.length b)⟩:=by
 unfold allocSt takeSt
 rw [upd_cur,upd_cur,upd_cur,upd_cur]
theorem allocs_a (A:List (Bool × List Blk)):Allocs A F_arena_Arena_Alloc (PA A):=by
 have fin:∀ {L:List Blk} {N:Nodes} {I:Nat→Prop} {b:Nat} (x:Nd),Has ⟨A,false,L⟩ A.length b (arOf N)→(∀ i,I i↔(b≤i∧i≤b+5))→N.length<700 →
  APost (fun L N I=>PA A L N I (b+5)) L I (N++[(hd N,x.copy)]) ((((L.set (b+3) (((arOf N).take N.length).b3 A.length b)).set b ((arOf N).take N.length).b0).set (b+4) ((arOf N).alloc N.length 1 x).b4).set (b+5) (((arOf N).alloc N.length 1 x).b5 A.length b)) I:=by
  intro L N I b x h hI hl
  refine ⟨⟨b,rfl,?_,hI⟩,by simp,fun i h1 h2=>?_,fun i hi=>.inl hi⟩
  ·have:=h.alloc N.length 1 x
   rw [alloc_cur] at this
   rw [← arOf_alloc N x hl]
   exact this
  ·have:¬ (b≤i∧i≤b+5):=fun q=>h2 ((hI i).2 q)
   rw [List.getElem?_set_ne (by omega),List.getElem?_set_ne (by omega),List.getElem?_set_ne (by omega),List.getElem?_set_ne (by omega)]
 refine ⟨?_,?_,?_,?_⟩
 ·rintro L L' N I p ⟨b,rfl,h,hI⟩ hf
  exact ⟨b,rfl,h.frame (fun i h1 h2=>hf i ((hI i).2 ⟨h1,h2⟩)),hI⟩
 ·rintro L N I p i ⟨b,rfl,h,hI⟩ hi
  have:=h.lt
  have:=(hI i).1 hi
  omega
 ·rintro L N I p s ⟨b,rfl,h,hI⟩ ho hl hs
  have:=Alloc_leaf h (arOf_can ho hl) s hs
  rw [alloc_cur] at this
  exact ⟨_,I,this,fin ⟨0,s,none⟩ h hI hl⟩
 ·rintro L N I p n ks kx ver ⟨b,rfl,h,hI⟩ ho hl hn hk hs hsum hL hr hne
  have:=Alloc_in h (arOf_can ho hl) n hn ks hk hs hsum hL hr (fun q=>hne ((hI kx).2 (by omega)))
  rw [alloc_cur] at this
  exact ⟨_,I,this,fin ⟨n+1,[],some ks⟩ h hI hl⟩
theorem allocs_b (A:List (Bool × List Blk)):Allocs A F_quartoref13_Arena_Alloc (PB A):=by
 have fin:∀ {L L':List Blk} {N:Nodes} {I:Nat→Prop} {b it it':Nat} {x:Nd},RHas A L b it N→(∀ i,I i↔((b≤i∧i≤b+4)∨(N≠[]∧i=it)))→RPost A L b it N x L' it' →
  APost (fun L N I=>PB A L N I (b+4)) L I (N++[(hd N,x)]) L' (fun i=>(b≤i∧i≤b+4)∨i=it'):=by
  intro L L' N I b it it' x h hI hp
  refine ⟨⟨b,it',rfl,hp.has,fun i=>⟨fun q=>?_,fun q=>?_⟩⟩,Nat.le_of_lt hp.len,fun i h1 h2=>?_,fun i hi=>?_⟩
  ·rcases q with q|q
   ·exact .inl q
   ·exact .inr ⟨by simp,q⟩
  ·rcases q with q|q
   ·exact .inl q
   ·exact .inr q.2
  ·have h3:¬ (b≤i∧i≤b+4):=fun q=>h2 ((hI i).2 (.inl q))
   refine hp.old i h1 (by omega) ?_
   by_cases q:N=[]
   ·exact .inl q
   ·exact .inr (fun w=>h2 ((hI i).2 (.inr ⟨q,w⟩)))
  ·rcases hi with q|q
   ·exact .inl ((hI i).2 (.inl q))
   ·rcases hp.it with ⟨w1,w2⟩|w
    ·exact .inl ((hI i).2 (.inr ⟨w1,by omega⟩))
    ·exact .inr (by omega)
 refine ⟨?_,?_,?_,?_⟩
 ·rintro L L' N I p ⟨b,it,rfl,h,hI⟩ hf
  exact ⟨b,it,rfl,h.frame (fun i h1 h2=>hf i ((hI i).2 (.inl ⟨h1,h2⟩))) (fun q=>hf it ((hI it).2 (.inr ⟨q,rfl⟩))),hI⟩
 ·rintro L N I p i ⟨b,it,rfl,h,hI⟩ hi
  rcases (hI i).1 hi with q|⟨q1,q2⟩
  ·have:=(List.getElem?_eq_some_iff.1 h.h4).1;omega
  ·have:=(List.getElem?_eq_some_iff.1 (h.hi q1)).1;omega
 ·rintro L N I p s ⟨b,it,rfl,h,hI⟩ ho hl hs
  obtain ⟨L',it',h1,h2⟩:=rAlloc_leaf h hl s hs
  exact ⟨L',_,h1,fin h hI h2⟩
 ·rintro L N I p n ks kx ver ⟨b,it,rfl,h,hI⟩ ho hl hn hk hs hsum hL hr hne
  have:¬ (b≤kx∧kx≤b+4):=fun q=>hne ((hI kx).2 (.inl q))
  obtain ⟨L',it',h1,h2⟩:=rAlloc_in h hl n hn ks hk hs hsum hL hr (by omega)
  exact ⟨L',_,h1,fin h hI h2⟩
theorem write_zero {A:List (Bool × List Blk)} {t:Tr} (ht:IsEmpty t) (f:AV) (hf:weak f=f) (L:List Blk):S Tb F_quartolaw15_Write [f,t.av] ⟨A,false,L⟩=some (.tup [Ro.zero.av,.int .i64 0],⟨A,false,L++[.arr 7 0 [t.av],.arr 5 0 [Ro.zero.av]]⟩):=by
 have hZ:=fun st=>refZero_empty t ht st
 obtain ⟨o,h,m,s,k⟩:=t
 have hk:=ht.ks
 obtain ⟨ka,hka,hka2⟩:∃ ka,Tr.avO k=ka∧(ka=.nils∨ka=.lit []):=by
  cases k with
  | none=>exact ⟨_,rfl,.inl rfl⟩
  | some l=>have:l=[]:=hk;subst this;exact ⟨_,rfl,.inr rfl⟩
 refine s_keep rfl ?_
 have e0:∀ L:List Blk,(⟨A,false,L⟩:St)=⟨A,false,L++[]⟩:=fun L=>by rw [List.append_nil]
 rw [e0 L]
 simp only [Tr.av,hka] at *
 rcases hka2 with rfl|rfl
 all_goals repeat' (first|refine is_boxA rfl rfl rfl rfl rfl ?_|refine is_ldA rfl rfl rfl rfl ?_|refine is_stA rfl rfl rfl rfl rfl rfl rfl ?_|refine ru_seq ?_|refine ru_reg ?_|refine is_mv rfl ?_|refine is_nil rfl ?_|refine rk_seq ?_|refine ru_iteT rfl ?_|refine is_buildO rfl rfl rfl ?_|refine is_callE rfl rfl rfl (hZ _) ?_|refine ru_ret ?_|refine rk_nil ?_|refine rk_seq_ret ?_)
 all_goals refine end_kroot (r:=Ro.zero) (ix:=L.length+1) (ver:=0) (.inr rfl) rfl ?_ rfl rfl
 all_goals rw [get_app]
 all_goals rfl
end Go.Q15
namespace Go.Q15
open Go Go.QAbs
set_option maxRecDepth 100000
set_option maxHeartbeats 8000000
def RootOk (N:Nodes) (r:Ro):Prop:=r=.zero∨∃ x,lk N r.at_=some x∧NdOk x∧r.at_≠0∧x.h=r.h∧x.mea=r.m
theorem RootOk.mono {N T:Nodes} {r:Ro} (h:RootOk N r):RootOk (N++T) r:=by
 rcases h with h|⟨x,h1,h2⟩
 ·exact .inl h
 ·exact .inr ⟨x,lk_mono h1,h2⟩
theorem write_any {t:Tr} (ht:VE [] t) {N:Nodes} (hN:GoodN N) (ho:Ord N) (hb:4*(N.length:Int)+t.bytes+4≤2800) :
 ∃ N' r T,N'=N++T∧GoodN N'∧Ord N'∧RootOk N' r∧r.m.b=t.bytes∧4*(N'.length:Int)≤4*N.length+t.bytes+4 ∧
  ∀ (A:List (Bool × List Blk)) (g:FuncId) (P:List Blk→Nodes→(Nat→Prop)→Nat→Prop),Allocs A g P→∀ L I p,P L N I p →
   ∃ L' I',S Tb F_quartolaw15_Write [.func (.func g) [.ptr A.length p 0 0 0] [],t.av] ⟨A,false,L⟩=some (.tup [r.av,.int .i64 0],⟨A,false,L'⟩)∧APost (fun L N I=>P L N I p) L I N' L' I':=by
 rcases ht with ht|hv
 ·refine ⟨N,.zero,[],by simp,hN,ho,.inl rfl,ht.bytes.symm,by rw [ht.bytes];omega,fun A g P hA L I p hP=>?_⟩
  refine ⟨_,I,write_zero ht _ rfl L,hA.frame hP (fun i hi=>List.getElem?_append_left (hA.lt hP hi)),by simp,fun i h1 _=>List.getElem?_append_left h1,fun i hi=>.inl hi⟩
 ·obtain ⟨N',k,T,w⟩:=wr_ex t.h t hv rfl N hN ho (by omega)
  have hf:=w.few
  have hlen:N'.length=N.length+T.length:=by rw [w.app,List.length_append]
  obtain ⟨y,y1,y2,y3,y4⟩:=w.live
  refine ⟨N',⟨k.at_,t.h,k.m⟩,T,w.app,w.good,w.ord,.inr ⟨y,y1,y2,?_,y3,y4⟩,w.bytes,by omega,fun A g P hA L I p hP=>?_⟩
  ·intro q;exact absurd w.hnd.2.1 (by simp only at q;rw [q];decide)
  ·exact write_c hA t.h N t N' k w.wr ho (by omega) L I hP
def rvV (lv kx:Nat):List Ro→AV
 | []=>.nils
 | r::rs=>.ref lv kx rs.length 0 (rs.length+1)
structure LInv (A:List (Bool × List Blk)) (L0:List Blk) (texts:List (List UInt8)) (i:Nat) (L:List Blk) (N:Nodes) (Ia Ib:Nat→Prop) (rs:List Ro) (kx:Nat):Prop where
 pa:PA A L N Ia (L0.length+6)
 pb:PB A L N Ib (L0.length+11)
 dis:∀ j,Ia j→¬ Ib j
 good:GoodN N
 ord:Ord N
 le:i≤texts.length
 few:4*N.length≤((texts.take i).map List.length).sum+4*i
 rlen:rs.length=i
 roots:∀ r∈rs,RootOk N r
 rb:∀ (j:Nat) (r:Ro) (s:List UInt8),rs[j]?=some r→texts[j]?=some s→r.m.b=s.length
 owna:∀ j,Ia j→L0.length+1≤j∧j≠L0.length+12
 ownb:∀ j,Ib j→L0.length+1≤j∧j≠L0.length+12
 old:∀ j,j<L0.length→L[j]?=L0[j]?
 len:L0.length+13≤L.length
 b2:L[L0.length+0]?=some (.arr 3 0 [.agg [.nilptr,.nilptr,.nils]])
 b8:L[L0.length+12]?=some (.arr 3 0 [.agg [.ptr A.length (L0.length+6) 0 0 0,.ptr A.length (L0.length+11) 0 0 0,rvV A.length kx rs]])
 kb:rs≠[]→L[kx]?=some (.arr 5 (rs.length-1) (rs.map Ro.av))∧¬ Ia kx∧¬ Ib kx∧L0.length+13≤kx
theorem eqv5s (r:Ro):eqV [(0,0),(1,0),(2,0),(3,0),(4,0)] 0 r.av r.av=some true:=by
 show (if decide ((r.at_:Int)=r.at_)=true then (if decide ((r.h:Int)=r.h)=true then (if decide (r.m.b=r.m.b)=true then (if decide (r.m.r=r.m.r)=true then (if decide (r.m.l=r.m.l)=true then some true else some false) else some false) else some false) else some false) else some false)=_
 simp
theorem seal_laid {b lv i j:Nat} (st:St) (h:lv<b):sealV deep b st (.agg [.ptr lv i 0 0 0,.ptr lv j 0 0 0,.nils])=some (.agg [.ptr lv i 0 0 0,.ptr lv j 0 0 0,.nils],st):=by
 simp only [sealV,deep,mapSt,keepN,isNils,Option.bind_some,if_pos h,consK,aggK,Bool.false_eq_true,if_false,if_true]
theorem seal_laidR {b lv i j kx w n:Nat} (st:St) (h:lv<b):sealV deep b st (.agg [.ptr lv i 0 0 0,.ptr lv j 0 0 0,.ref lv kx w 0 n])=some (.agg [.ptr lv i 0 0 0,.ptr lv j 0 0 0,.ref lv kx w 0 n],st):=by
 simp only [sealV,deep,mapSt,keepN,isNils,Option.bind_some,if_pos h,consK,aggK,Bool.false_eq_true,if_false,if_true]
theorem end_klaid {e:Env} {A:List (Bool × List Blk)} {L:List Blk} {x:Ex} {b c ix ver:Nat} {u1 u2 u3 y u:AV} (hx:x=.norm∨x=.ret) (hb:lookO e b=some (.ptr A.length ix ver 0 0)) (hg:L[ix]?=some (.arr 3 ver [.agg [u1,u2,u3]])) (hc:lookO e c=some y) (hu:.tup [.agg [u1,u2,u3],y]=u):endK true [.c b true 3,.s c] (x,e,⟨A,false,L⟩)=some (u,⟨A,false,L⟩):=by
 subst hu
 have h1:resV ⟨A,false,L⟩ e (.c b true 3)=some (.agg [u1,u2,u3]):=by
  simp only [resV,lookO_some hb,loadP,St.get_cur,hg,vis,loadB,if_true,List.getElem?_cons_zero,Option.bind_some]
  rfl
 have h2:result ⟨A,false,L⟩ e [.c b true 3,.s c]=some (.tup [.agg [u1,u2,u3],y]):=by
  simp only [result,resL,h1,Option.bind_some]
  simp only [resV,lookO_some hc,Option.bind_some,Option.map_some,tupOf]
 rcases hx with rfl|rfl<;>simp only [endK,h2,Option.bind_some,if_true,ret1]
theorem LInv.next {A:List (Bool × List Blk)} {L0:List Blk} {texts:List (List UInt8)} {i:Nat} {L:List Blk} {N:Nodes} {Ia Ib:Nat→Prop} {rs:List Ro} {kx:Nat} (inv:LInv A L0 texts i L N Ia Ib rs kx) {s:List UInt8} (hs:texts[i]?=some s)
 {N' T:Nodes} {r:Ro} (happ:N'=N++T) (hgood:GoodN N') (hord:Ord N') (rok:RootOk N' r) (rb:r.m.b=s.length) (few:4*(N'.length:Int)≤4*N.length+s.length+4)
 {L1 L2 L3:List Blk} {Ia' Ib':Nat→Prop} {b10 b11:Blk} (ha:APost (fun L N I=>PA A L N I (L0.length+6)) (L++[b10]) Ia N' L1 Ia') (hb:APost (fun L N I=>PB A L N I (L0.length+11)) (L1++[b11]) Ib N' L2 Ib')
 {kx':Nat} (hlen:L2.length≤L3.length) (hkx:(rs≠[]∧kx'=kx)∨(rs=[]∧L2.length≤kx')) (hold:∀ j,j<L2.length→j≠L0.length+12→j≠kx'→L3[j]?=L2[j]?)
 (h8:L3[L0.length+12]?=some (.arr 3 0 [.agg [.ptr A.length (L0.length+6) 0 0 0,.ptr A.length (L0.length+11) 0 0 0,rvV A.length kx' (rs++[r])]])) (hkb:L3[kx']?=some (.arr 5 rs.length ((rs++[r]).map Ro.av))) :
 LInv A L0 texts (i+1) L3 N' Ia' Ib' (rs++[r]) kx':=by
 have hil:=(List.getElem?_eq_some_iff.1 hs).1
 have l1:=ha.len
 have l2:=hb.len
 rw [List.length_append,List.length_singleton] at l1 l2
 have len:=inv.len
 have ltA:∀ j,Ia j→j<L.length:=fun j h=>(allocs_a A).lt inv.pa h
 have ltB:∀ j,Ib j→j<L.length:=fun j h=>(allocs_b A).lt inv.pb h
 have ltA':∀ j,Ia' j→j<L1.length:=fun j h=>(allocs_a A).lt ha.p h
 have ltB':∀ j,Ib' j→j<L2.length:=fun j h=>(allocs_b A).lt hb.p h
 have ownA:∀ j,Ia' j→Ia j∨L.length+1≤j:=fun j h=>by have:=ha.own j h;rw [List.length_append,List.length_singleton] at this;exact this
 have ownB:∀ j,Ib' j→Ib j∨L1.length+1≤j:=fun j h=>by have:=hb.own j h;rw [List.length_append,List.length_singleton] at this;exact this
 have nAB:∀ j,Ia' j→¬ Ib j:=fun j h q=>by
  rcases ownA j h with w|w
  ·exact inv.dis j w q
  ·have:=ltB j q;omega
 have kx1:¬ Ia' kx'∧¬ Ib' kx'∧L0.length+13≤kx':=by
  rcases hkx with ⟨w,rfl⟩|⟨w,w2⟩
  ·obtain ⟨k1,k2,k3,k4⟩:=inv.kb w
   have:=(List.getElem?_eq_some_iff.1 k1).1
   refine ⟨fun q=>?_,fun q=>?_,k4⟩
   ·rcases ownA _ q with w|w
    ·exact k2 w
    ·omega
   ·rcases ownB _ q with w|w
    ·exact k3 w
    ·omega
  ·refine ⟨fun q=>?_,fun q=>?_,by omega⟩
   ·have:=ltA' _ q;omega
   ·have:=ltB' _ q;omega
 have oA:∀ j,Ia' j→L0.length+1≤j∧j≠L0.length+12:=fun j h=>by
  rcases ownA j h with w|w
  ·exact inv.owna j w
  ·omega
 have oB:∀ j,Ib' j→L0.length+1≤j∧j≠L0.length+12:=fun j h=>by
  rcases ownB j h with w|w
  ·exact inv.ownb j w
  ·omega
 have e21:∀ j,j<L1.length→¬ Ib j→L2[j]?=L1[j]?:=fun j h1 h2=>by
  rw [hb.old j (by rw [List.length_append];omega) h2,List.getElem?_append_left h1]
 have e10:∀ j,j<L.length→¬ Ia j→L1[j]?=L[j]?:=fun j h1 h2=>by
  rw [ha.old j (by rw [List.length_append];omega) h2,List.getElem?_append_left h1]
 have e30:∀ j,j<L0.length+1→L3[j]?=L[j]?:=fun j hj=>by
  have nb:¬ Ib j:=fun q=>by have:=inv.ownb j q;omega
  have na:¬ Ia j:=fun q=>by have:=inv.owna j q;omega
  rw [hold j (by omega) (by omega) (by omega),e21 j (by omega) nb,e10 j (by omega) na]
 refine ⟨(allocs_a A).frame ha.p (fun j hj=>?_),(allocs_b A).frame hb.p (fun j hj=>hold j (ltB' j hj) (oB j hj).2 (fun q=>kx1.2.1 (q▸hj))),fun j h1 h2=>?_,hgood,hord,hil,?_,by simp [inv.rlen],fun q hq=>?_,fun j q s' hj hs'=>?_,oA,oB,fun j hj=>by rw [e30 j (by omega)];exact inv.old j hj,by omega,by rw [e30 _ (by omega)];exact inv.b2,h8,fun _=>⟨?_,kx1⟩⟩
 ·rw [hold j (by have:=ltA' j hj;omega) (oA j hj).2 (fun q=>kx1.1 (q▸hj)),e21 j (ltA' j hj) (nAB j hj)]
 ·rcases ownB j h2 with w|w
  ·exact nAB j h1 w
  ·have:=ltA' j h1;omega
 ·have:=inv.few
  rw [take_succ_get hs,List.map_append,List.sum_append]
  simp only [List.map_cons,List.map_nil,List.sum_cons,List.sum_nil]
  omega
 ·rcases List.mem_append.1 hq with w|w
  ·rw [happ];exact (inv.roots q w).mono
  ·rw [List.mem_singleton] at w;rw [w];exact rok
 ·rcases Nat.lt_or_ge j rs.length with w|w
  ·rw [List.getElem?_append_left w] at hj
   exact inv.rb j q s' hj hs'
  ·have : j = rs.length := by
    have:=(List.getElem?_eq_some_iff.1 hj).1
    simp at this;omega
   subst this
   rw [List.getElem?_append_right (Nat.le_refl _),Nat.sub_self] at hj
   have hrl:=inv.rlen
   rw [hrl,hs] at hs'
   have e1:=Option.some.inj hs'
   have e2:r=q:=by simpa using hj
   rw [← e1,← e2];exact rb
 ·rw [hkb];simp
theorem lay_c (texts:List (List UInt8)) (h4:texts.length≤4) (h9:(texts.map List.length).sum≤900) (A:List (Bool × List Blk)) (L0:List Blk) :
 Sp Tb F_quartolaw15_Lay [.lit (texts.map .str)] ⟨A,false,L0⟩ fun v st'=>∃ L N Ia Ib rs kx,LInv A L0 texts texts.length L N Ia Ib rs kx∧v=.tup [.agg [.ptr A.length (L0.length+6) 0 0 0,.ptr A.length (L0.length+11) 0 0 0,rvV A.length kx rs],.bool true]∧∃ X,st'=⟨A,false,L.set (L0.length+0) X⟩:=by
 obtain ⟨L6,hN,l6,h6,o6⟩:∃ L6,S Tb F_arena_New [.int .i64 700,.int .u64 3] ⟨A,false,L0++[.arr 3 0 [.agg [.nilptr,.nilptr,.nils]]]⟩=some (.tup [.ptr A.length (L0.length+6) 0 0 0,.int .i64 0],⟨A,false,L6⟩)∧L6.length=L0.length+7∧Has ⟨A,false,L6⟩ A.length (L0.length+1) (arOf []) ∧
  ∀ j,j<L0.length+1→L6[j]?=(L0++[.arr 3 0 [.agg [.nilptr,.nilptr,.nils]]])[j]?:=by
  have hN:=arNew_c 700 3 ⟨by decide,by decide⟩ ⟨by decide,by decide⟩ A (L0++[.arr 3 0 [.agg [.nilptr,.nilptr,.nils]]])
  have hh:=newAR_has 700 3 A (L0++[.arr 3 0 [.agg [.nilptr,.nilptr,.nils]]]) []
  have el:(L0++[Blk.arr 3 0 [.agg [.nilptr,.nilptr,.nils]]]).length=L0.length+1:=by simp
  rw [el] at hN hh
  rw [List.append_nil] at hh
  exact ⟨_,hN,by simp,by rw [arOf_nil];exact hh,fun j hj=>List.getElem?_append_left (by rw [el];exact hj)⟩
 obtain ⟨L11,hR,l11,h11,o11⟩:∃ L11,S Tb F_quartoref13_New [.int .i64 700,.int .u64 3] ⟨A,false,L6⟩=some (.tup [.ptr A.length (L0.length+11) 0 0 0,.int .i64 0],⟨A,false,L11⟩)∧L11.length=L0.length+12∧RHas A L11 (L0.length+7) 0 [] ∧
  ∀ j,j<L6.length→L11[j]?=L6[j]?:=by
  have hR:=rNew_c A L6
  rw [l6] at hR
  have g:=fun i=>get_app (L0:=L6) (T:=[r0 A.length (L0.length+7) 0,r1 0,r2,r3,r4 A.length (L0.length+7) 0 []]) (i:=i)
  rw [l6] at g
  exact ⟨_,hR,by rw [List.length_append,l6];rfl,⟨g 0,g 1,g 2,g 3,g 4,fun q=>absurd rfl q,fun q=>absurd rfl q⟩,fun j hj=>List.getElem?_append_left hj⟩
 have hst:∀ j,j<L0.length+1→L11[j]?=(L0++[.arr 3 0 [.agg [.nilptr,.nilptr,.nils]]])[j]?:=fun j hj=>by rw [o11 j (by omega),o6 j hj]
 have h6':Has ⟨A,false,L11⟩ A.length (L0.length+1) (arOf []):=h6.frame (fun i h1 h2=>o11 i (by omega))
 clear o11 o6 h6
 refine sp_keep rfl ?_
 repeat' (first|refine ru_seq ?_|refine ru_reg ?_|refine is_mv rfl ?_|refine is_ext rfl rfl ?_|refine is_nil rfl ?_|refine rk_seq ?_|refine is_buildO rfl rfl rfl ?_|refine is_boxG rfl rfl rfl ?_|refine is_callE rfl rfl rfl (hN) ?_|refine is_callE rfl rfl rfl (hR) ?_)
 refine is_stT rfl rfl rfl (seal_laid _ (Nat.lt_succ_self _)) rfl rfl ?_
 rw [l11]
 repeat' (first|refine ru_seq ?_|refine ru_reg ?_|refine is_mv rfl ?_|refine is_gT rfl ?_|refine is_pick rfl rfl rfl rfl ?_|refine is_nil rfl ?_|refine rk_seq ?_|(refine is_neq rfl rfl (fun _=>?_) (fun _=>?_)<;>try (exfalso;omega))|refine ru_iteF rfl ?_|refine is_eqs rfl rfl rfl rfl ?_|refine ru_skip ?_|refine ru_block ?_)
 refine ru_loopP (α:=Nat × List Blk × Nodes × (Nat→Prop) × (Nat→Prop) × List Ro × Nat) (fun q=>[(0,.lit (texts.map .str)),(2,.ptr A.length (L0.length+0) 0 0 0),(4,.ptr A.length (L0.length+6) 0 0 0),(6,.ptr A.length (L0.length+11) 0 0 0),(8,.ptr A.length (L0.length+12) 0 0 0),(9,.int .i64 q.1)])
  (fun q=>⟨A,false,q.2.1⟩) (fun q=>LInv A L0 texts q.1 q.2.1 q.2.2.1 q.2.2.2.1 q.2.2.2.2.1 q.2.2.2.2.2.1 q.2.2.2.2.2.2) (fun q=>texts.length-q.1)
  (0,L11++[.arr 3 0 [.agg [.ptr A.length (L0.length+6) 0 0 0,.ptr A.length (L0.length+11) 0 0 0,.nils]]],[],(fun j=>L0.length+1≤j∧j≤L0.length+6),(fun j=>L0.length+7≤j∧j≤L0.length+11),[],0) rfl rfl ?_ ?_
 ·have hle:∀ j,j<L0.length+12→(L11++[Blk.arr 3 0 [.agg [.ptr A.length (L0.length+6) 0 0 0,.ptr A.length (L0.length+11) 0 0 0,.nils]]])[j]?=L11[j]?:=fun j hj=>List.getElem?_append_left (by omega)
  refine ⟨⟨L0.length+1,rfl,h6'.frame (fun i h1 h2=>hle i (by omega)),fun i=>⟨fun q=>by simp only at q;omega,fun q=>by simp only;omega⟩⟩,⟨L0.length+7,0,rfl,h11.frame (fun i h1 h2=>hle i (by omega)) (fun q=>absurd rfl q),fun i=>⟨fun q=>.inl (by simp only at q;omega),fun q=>?_⟩⟩,
   fun j h1 h2=>by simp only at h1 h2;omega,good_nil,ord_nil,Nat.zero_le _,by simp,rfl,fun r hr=>by simp at hr,fun j r s hr=>by simp at hr,fun j hj=>by simp only at hj;omega,fun j hj=>by simp only at hj;omega,fun j hj=>?_,by simp;omega,?_,?_,fun q=>absurd rfl q⟩
  ·rcases q with q|q
   ·simp only;omega
   ·exact absurd rfl q.1
  ·simp only;rw [hle j (by omega),hst j (by omega),List.getElem?_append_left hj]
  ·simp only;rw [hle _ (by omega),hst _ (by omega),get_app];rfl
  ·simp only
   have:=get_app (L0:=L11) (T:=[Blk.arr 3 0 [.agg [.ptr A.length (L0.length+6) 0 0 0,.ptr A.length (L0.length+11) 0 0 0,.nils]]]) (i:=0)
   rw [l11] at this
   rw [this];rfl
 rintro ⟨i,L,N,Ia,Ib,rs,kx⟩ inv
 simp only at inv ⊢
 have hle:=inv.le
 repeat' (first|refine is_len1L rfl ?_|refine ru_seq ?_|refine ru_reg ?_|refine is_mv rfl ?_|refine is_nil rfl ?_|refine rk_seq ?_|refine is_ldl rfl rfl ?_|refine is_ixM rfl rfl (by omega) (fun _=>rfl) (fun _ _=>?_)|(refine is_lss rfl rfl (fun _=>?_) (fun _=>?_)<;>try (exfalso;omega))|refine ru_iteT rfl ?_|refine ru_iteF rfl ?_|refine ru_skip ?_|refine ru_exit ?_|refine ru_block ?_|refine rk_seq_ex ?_|refine rk_blk_eq rfl ?_|refine rk_inv_ex ?_)
 ·rename_i hlt s hs'
  have hs:texts[i]?=some s:=by rw [show i=((i:Nat):Int).toNat by omega];exact hs'
  have hsum:((texts.take i).map List.length).sum+s.length≤900:=by
   have e1:texts.map List.length=(texts.take (i+1)).map List.length++(texts.drop (i+1)).map List.length:=by rw [← List.map_append,List.take_append_drop]
   rw [e1,List.sum_append,take_succ_get hs,List.map_append,List.sum_append] at h9
   simp only [List.map_cons,List.map_nil,List.sum_cons,List.sum_nil] at h9
   omega
  have few:=inv.few
  obtain ⟨hve,htx,hby⟩:=buildM_ok good_nil (s:=s) (by omega)
  have hBu:=fun st=>refBuilt_c good_nil s (by omega) st
  generalize buildM s=t at *
  obtain ⟨N',r,T,happ,hgood,hord,rok,rb,hfew,hW⟩:=write_any hve inv.good inv.ord (by rw [hby];omega)
  rw [hby] at rb hfew
  have len:=inv.len
  have ltA:∀ j,Ia j→j<L.length:=fun j h=>(allocs_a A).lt inv.pa h
  have ltB:∀ j,Ib j→j<L.length:=fun j h=>(allocs_b A).lt inv.pb h
  obtain ⟨L1,Ia',hSa,ha⟩:=hW A _ _ (allocs_a A) (L++[.arr 7 0 [t.av]]) Ia _ ((allocs_a A).frame inv.pa (fun j hj=>List.getElem?_append_left (ltA j hj)))
  have l1:=ha.len
  rw [List.length_append,List.length_singleton] at l1
  have e10:∀ j,j<L.length+1→¬ Ia j→L1[j]?=(L++[.arr 7 0 [t.av]])[j]?:=fun j h1 h2=>ha.old j (by rw [List.length_append];exact h1) h2
  obtain ⟨L2,Ib',hSb,hb⟩:=hW A _ _ (allocs_b A) (L1++[.arr 5 0 [r.av]]) Ib _ ((allocs_b A).frame inv.pb (fun j hj=>by
   have:=ltB j hj
   rw [List.getElem?_append_left (by omega),e10 j (by omega) (fun q=>inv.dis j q hj),List.getElem?_append_left this]))
  have l2:=hb.len
  rw [List.length_append,List.length_singleton] at l2
  have e21:∀ j,j<L1.length+1→¬ Ib j→L2[j]?=(L1++[.arr 5 0 [r.av]])[j]?:=fun j h1 h2=>hb.old j (by rw [List.length_append];exact h1) h2
  have q10:∀ T,(L1++T)[L.length+0]?=some (.arr 7 0 [t.av]):=fun T=>get_left (by
   rw [e10 _ (by omega) (fun q=>by have:=ltA _ q;omega),get_app];rfl)
  have q11:∀ T,(L2++T)[L1.length+0]?=some (.arr 5 0 [r.av]):=fun T=>get_left (by
   rw [e21 _ (by omega) (fun q=>by have:=ltB _ q;omega),get_app];rfl)
  have q8:∀ T,(L2++T)[L0.length+12]?=some (.arr 3 0 [.agg [.ptr A.length (L0.length+6) 0 0 0,.ptr A.length (L0.length+11) 0 0 0,rvV A.length kx rs]]):=fun T=>get_left (by
   rw [e21 _ (by omega) (fun q=>(inv.ownb _ q).2 rfl),List.getElem?_append_left (by omega),e10 _ (by omega) (fun q=>(inv.owna _ q).2 rfl),List.getElem?_append_left (by omega)];exact inv.b8)
  have hnext:=fun {L3:List Blk} {kx':Nat}=>inv.next hs happ hgood hord rok rb hfew ha hb (L3:=L3) (kx':=kx')
  have hro:=ro_part r
  have e0:∀ L:List Blk,(⟨A,false,L⟩:St)=⟨A,false,L++[]⟩:=fun L=>by rw [List.append_nil]
  refine is_callE rfl rfl rfl (hBu _) ?_
  rw [e0 L]
  repeat' (first|refine is_boxA rfl rfl rfl rfl rfl ?_|refine is_stA rfl rfl rfl rfl (tr_seal _ _ _) (tr_put _ _) rfl ?_|refine is_ldA rfl rfl rfl (tr_part _) ?_|refine ru_seq ?_|refine ru_reg ?_|refine is_mv rfl ?_|refine is_nil rfl ?_|refine rk_seq ?_|refine is_mkf rfl rfl ?_)
  refine is_callE rfl rfl (by first|rfl|(simp only [List.nil_append,List.append_nil,List.cons_append,weaks,tr_weak,forceL];rfl)) hSa ?_
  rw [e0 L1]
  repeat' (first|refine is_boxA rfl rfl rfl rfl rfl ?_|refine is_stA rfl rfl rfl rfl rfl rfl rfl ?_|refine is_ldc rfl (q10 _) rfl (tr_part _) ?_|refine ru_seq ?_|refine ru_reg ?_|refine is_mv rfl ?_|refine is_ext rfl rfl ?_|refine is_nil rfl ?_|refine rk_seq ?_|refine is_mkf rfl rfl ?_)
  refine is_callE rfl rfl (by first|rfl|(simp only [List.nil_append,List.append_nil,List.cons_append,weaks,tr_weak,forceL];rfl)) hSb ?_
  rw [e0 L2]
  rcases rs with _|⟨r1,rs⟩
  ·have q8':∀ T,(L2++T)[L0.length+12]?=some (.arr 3 0 [.agg [.ptr A.length (L0.length+6) 0 0 0,.ptr A.length (L0.length+11) 0 0 0,.nils]]):=q8
   repeat' (first|refine is_boxA rfl rfl rfl rfl rfl ?_|refine is_stA rfl rfl rfl rfl rfl rfl rfl ?_|refine is_ldc rfl (q11 _) rfl hro ?_|refine is_ldA rfl rfl rfl hro ?_|refine is_eqs rfl rfl (eqv5s r) rfl ?_|refine is_ldc rfl (q8' _) rfl rfl ?_|refine is_appNA rfl rfl (by decide) rfl rfl rfl ?_|refine ru_seq ?_|refine ru_reg ?_|refine is_mv rfl ?_|refine is_fadr rfl rfl ?_|refine is_gT rfl ?_|refine is_pick rfl rfl rfl rfl ?_|refine is_ext rfl rfl ?_|refine is_nil rfl ?_|refine rk_seq ?_|(refine is_neq rfl rfl (fun _=>?_) (fun _=>?_)<;>try (exfalso;omega))|refine ru_iteF rfl ?_|refine is_bslFO rfl rfl rfl rfl ?_|refine ru_skip ?_)
   refine is_stn (q8' _) rfl rfl rfl (seal_refL _ (Nat.lt_succ_self _)) rfl ?_
   repeat' (first|refine ru_reg ?_|refine is_mv rfl ?_|refine is_nil rfl ?_|refine rk_seq ?_|refine is_addS rfl rfl (by omega) ?_|refine rk_blk ?_|refine rk_inv ?_)
   refine ⟨(i+1,_,N',Ia',Ib',[r],L2.length+1),⟨rfl,rfl⟩,hnext (kx':=L2.length+1) ?_ (.inr ⟨rfl,by omega⟩) ?_ ?_ ?_,by simp only;omega⟩
   ·simp only [List.length_set,List.length_append];omega
   ·intro j j1 j2 j3
    rw [List.getElem?_set_ne (by omega),List.getElem?_append_left j1]
   ·rw [List.getElem?_set_self (by simp;omega)];rfl
   ·rw [List.getElem?_set_ne (by omega),get_app];rfl
  ·obtain ⟨k1,k2,k3,k4⟩:=inv.kb (by simp)
   have kl:=(List.getElem?_eq_some_iff.1 k1).1
   have k1T:∀ T,(L2++T)[kx]?=some (.arr 5 rs.length ((r1::rs).map Ro.av)):=fun T=>get_left (by
    rw [e21 _ (by omega) k3,List.getElem?_append_left (by omega),e10 _ (by omega) k2,List.getElem?_append_left kl];exact k1)
   have kxl:kx<L2.length:=by omega
   have hrl:=inv.rlen
   have hr1:rs.length+1=((r1::rs).map Ro.av).length:=by simp
   have hr2:((r1::rs).map Ro.av).length+1<4294967296:=by simp at hrl ⊢;omega
   have q8':∀ T,(L2++T)[L0.length+12]?=some (.arr 3 0 [.agg [.ptr A.length (L0.length+6) 0 0 0,.ptr A.length (L0.length+11) 0 0 0,.ref A.length kx rs.length 0 (rs.length+1)]]):=q8
   repeat' (first|refine is_boxA rfl rfl rfl rfl rfl ?_|refine is_stA rfl rfl rfl rfl rfl rfl rfl ?_|refine is_ldc rfl (q11 _) rfl hro ?_|refine is_ldA rfl rfl rfl hro ?_|refine is_eqs rfl rfl (eqv5s r) rfl ?_|refine is_ldc rfl (q8' _) rfl rfl ?_|refine is_app1N rfl rfl (k1T _) hr1 hr2 (by decide) rfl rfl ?_|refine ru_seq ?_|refine ru_reg ?_|refine is_mv rfl ?_|refine is_fadr rfl rfl ?_|refine is_gT rfl ?_|refine is_pick rfl rfl rfl rfl ?_|refine is_ext rfl rfl ?_|refine is_nil rfl ?_|refine rk_seq ?_|(refine is_neq rfl rfl (fun _=>?_) (fun _=>?_)<;>try (exfalso;omega))|refine ru_iteF rfl ?_|refine is_bslFO rfl rfl rfl rfl ?_|refine ru_skip ?_)
   refine is_stn (by rw [List.getElem?_set_ne (by omega)];exact q8' _) rfl rfl rfl (seal_refL _ (Nat.lt_succ_self _)) rfl ?_
   repeat' (first|refine ru_reg ?_|refine is_mv rfl ?_|refine is_nil rfl ?_|refine rk_seq ?_|refine is_addS rfl rfl (by omega) ?_|refine rk_blk ?_|refine rk_inv ?_)
   refine ⟨(i+1,_,N',Ia',Ib',r1::rs++[r],kx),⟨rfl,rfl⟩,hnext (kx':=kx) ?_ (.inl ⟨by simp,rfl⟩) ?_ ?_ ?_,by simp only;omega⟩
   ·simp only [List.length_set,List.length_append];omega
   ·intro j j1 j2 j3
    rw [List.getElem?_set_ne (by omega),List.getElem?_set_ne (by omega),List.getElem?_append_left j1]
   ·rw [List.getElem?_set_self (by simp;omega)]
    simp only [rvV,List.cons_append,List.length_append,List.length_cons,List.length_nil]
    rfl
   ·rw [List.getElem?_set_ne (by omega),List.getElem?_set_self (by simp;omega),List.map_append];rfl
 ·obtain rfl:i=texts.length:=by omega
  have b2:=inv.b2
  have b8:=inv.b8
  have hl:=(List.getElem?_eq_some_iff.1 b2).1
  rcases rs with _|⟨r1,rs⟩
  ·unfold rvV at b8
   repeat' (first|refine is_ldc rfl b8 rfl rfl ?_|refine is_stn b2 rfl rfl rfl (seal_laid _ (Nat.lt_succ_self _)) rfl ?_|refine is_mv rfl ?_|refine is_nil rfl ?_|refine rk_seq ?_|refine ru_ret ?_|refine rk_nil ?_)
   exact ⟨_,_,end_klaid (.inr rfl) rfl (List.getElem?_set_self hl) rfl rfl,L,N,Ia,Ib,[],kx,inv,rfl,_,rfl⟩
  ·unfold rvV at b8
   repeat' (first|refine is_ldc rfl b8 rfl rfl ?_|refine is_stn b2 rfl rfl rfl (seal_laidR _ (Nat.lt_succ_self _)) rfl ?_|refine is_mv rfl ?_|refine is_nil rfl ?_|refine rk_seq ?_|refine ru_ret ?_|refine rk_nil ?_)
   exact ⟨_,_,end_klaid (.inr rfl) rfl (List.getElem?_set_self hl) rfl rfl,L,N,Ia,Ib,r1::rs,kx,inv,rfl,_,rfl⟩
end Go.Q15
namespace Go.Q15
open Go Go.QAbs
set_option maxRecDepth 100000
set_option maxHeartbeats 8000000
namespace Tr
mutual
def cnt:Tr→Nat
 | .mk o _ _ _ k=>(if o=0 then 1 else 0)+cntO k
def cntO:Option (List Tr)→Nat
 | none=>0
 | some l=>cntL l
def cntL:List Tr→Nat
 | []=>0
 | t::l=>t.cnt+cntL l
end
theorem cntL_append:∀ a b,cntL (a++b)=cntL a+cntL b
 | [],b=>by simp [cntL]
 | t::a,b=>by rw [List.cons_append,cntL,cntL,cntL_append a b];omega
theorem cntO_getD (k:Option (List Tr)):cntO k=cntL (k.getD []):=by cases k<;>rfl
end Tr
theorem New_leafy {t:Tr} {c:Int} (hk:t.ks=[]) (hK:∀ st,S Tb F_plan_kind [t.av] st=some (.int .i64 c,st)) (st:St):S Tb F_plan_New [t.av] st=some (.int .i64 (if c=3∨c=4 then 1 else 0),st):=by
 obtain ⟨o,h,m,s,k⟩:=t
 obtain ⟨ka,hka,hka2⟩:∃ ka,Tr.avO k=ka∧(ka=.nils∨ka=.lit []):=by
  cases k with
  | none=>exact ⟨_,rfl,.inl rfl⟩
  | some l=>have:l=[]:=hk;subst this;exact ⟨_,rfl,.inr rfl⟩
 simp only [Tr.av,hka] at *
 refine s_of rfl (fun A hA=>?_)
 rcases hka2 with rfl|rfl
 all_goals repeat' (first|refine ru_seq ?_|refine ru_reg ?_|refine is_mv rfl ?_|refine is_fadr rfl rfl ?_|refine is_ldc rfl rfl rfl rfl ?_|refine is_gT rfl ?_|refine is_gF rfl rfl ?_|refine is_pick rfl rfl rfl rfl ?_|refine is_nil rfl ?_|refine rk_seq ?_|refine is_lenF rfl rfl ?_|refine is_lenN rfl ?_|(refine is_lss rfl rfl (fun _=>?_) (fun _=>?_)<;>try (exfalso;omega))|(refine is_eql rfl rfl (fun _=>?_) (fun _=>?_)<;>try (exfalso;omega))|refine ru_iteT rfl ?_|refine ru_iteF rfl ?_|refine is_box rfl rfl rfl ?_|refine is_callE rfl rfl rfl (hK _) ?_|refine ru_unroll ?_|refine ru_skip ?_|refine ru_ret ?_|refine ru_exit ?_|refine ru_block ?_|refine rk_nil ?_|refine rk_seq_ex ?_|refine rk_blk_eq rfl ?_)
 all_goals refine end_st hA (by first|exact .inl rfl|exact .inr rfl) rfl rfl rfl rfl ?_
 all_goals simp [*]
theorem cntL_le {l:List Tr} {t:Tr} (h:t∈l):t.cnt≤Tr.cntL l:=by
 induction l with
 | nil=>simp at h
 | cons u l ih =>
  rw [Tr.cntL]
  rcases List.mem_cons.1 h with rfl|h
  ·omega
  ·have:=ih h;omega
theorem cntL_take_le (l:List Tr) (i:Nat):Tr.cntL (l.take i)≤Tr.cntL l:=by
 have h:Tr.cntL l=Tr.cntL (l.take i)+Tr.cntL (l.drop i):=by rw [← Tr.cntL_append,List.take_append_drop]
 omega
theorem New_c {N:Nodes} {t:Tr} (hv:Val N t):t.cnt<4294967296→∀ st,S Tb F_plan_New [t.av] st=some (.int .i64 t.cnt,st):=by
 induction hv with
 | @kept o h m k x h0 hx hok hh hm hk =>
  intro hc st
  have:=New_leafy (t:=.mk o h m [] k) hk (fun st=>kind_kept (.mk o h m [] k) ⟨h0,rfl,hk⟩ st) st
  rw [this]
  have e:(Tr.mk o h m [] k).cnt=0:=by rw [Tr.cnt,Tr.cntO_getD,hk,if_neg h0];rfl
  rw [e];rfl
 | @leaf s k h1 h2 hk =>
  intro hc st
  have:=New_leafy (t:=.mk 0 0 .zero s k) hk (fun st=>kind_leaf (.mk 0 0 .zero s k) ⟨rfl,rfl,rfl,h1,h2,hk⟩ st) st
  rw [this]
  have e:(Tr.mk 0 0 .zero s k).cnt=1:=by rw [Tr.cnt,Tr.cntO_getD,hk,if_pos rfl];rfl
  rw [e];rfl
 | @inner h l hh h2 h4 hl hb hv ih =>
  intro hc st
  have hK:=fun st=>kind_inner (.mk 0 (h+1) .zero [] (some l)) ⟨rfl,rfl,rfl,Nat.succ_le_succ (Nat.zero_le _),hh,h2,h4⟩ st
  have e:(Tr.mk 0 (h+1) .zero [] (some l)).cnt=1+Tr.cntL l:=by rw [Tr.cnt,if_pos rfl];rfl
  rw [e] at hc ⊢
  simp only [Tr.av,Tr.avO,Tr.avL_map,Mea.zero] at hK ⊢
  refine s_of rfl (fun A hA=>?_)
  repeat' (first|refine ru_seq ?_|refine ru_reg ?_|refine is_mv rfl ?_|refine is_fadr rfl rfl ?_|refine is_ldc rfl rfl rfl rfl ?_|refine is_gT rfl ?_|refine is_pick rfl rfl rfl rfl ?_|refine is_nil rfl ?_|refine rk_seq ?_|refine is_lenM rfl ?_|(refine is_eql rfl rfl (fun _=>?_) (fun _=>?_)<;>try (exfalso;omega))|refine ru_iteT rfl ?_|refine is_box rfl rfl rfl ?_|refine is_callE rfl rfl rfl (hK _) ?_|refine ru_block ?_)
  all_goals try contradiction
  refine ru_loopP (α:=Nat × List Blk) (fun p=>[(3,.int .i64 ((1+Tr.cntL (l.take p.1):Nat):Int)),(16,.lit (l.map Tr.av)),(17,.int .i64 l.length),(18,.int .i64 p.1)])
   (fun p=>⟨A,false,.arr 7 0 [.agg [.int .u64 (0:Nat),.int .i64 ((h+1:Nat):Int),.int .i64 0,.int .i64 0,.int .i64 0,.str [],.lit (l.map Tr.av)]]::p.2⟩) (fun p=>p.1≤l.length) (fun p=>l.length-p.1) (0,[]) ?_ rfl (by simp) ?_
  ·simp [Tr.cntL]
  rintro ⟨i,G⟩ hi
  simp only at hi ⊢
  have h6:=cntL_take_le l i
  have h7:=cntL_take_le l (i+1)
  repeat' (first|refine ru_seq ?_|refine ru_reg ?_|refine is_mv rfl ?_|refine is_nil rfl ?_|refine rk_seq ?_|(refine is_lss rfl rfl (fun _=>?_) (fun _=>?_)<;>try (exfalso;omega))|refine ru_iteT rfl ?_|refine ru_iteF rfl ?_|refine is_boxG rfl rfl rfl ?_|refine is_ixM rfl rfl (by omega) tr_wide (fun _ _=>?_)|refine is_ldl rfl (tr_part _) ?_|refine is_ldT rfl rfl (tr_part _) ?_|refine is_stT rfl rfl rfl (tr_seal _ _ _) (tr_put _ _) rfl ?_|refine ru_skip ?_|refine ru_ret ?_|refine ru_exit ?_|refine ru_block ?_|refine rk_nil ?_|refine rk_seq_ex ?_|refine rk_blk_eq rfl ?_|refine rk_inv_ex ?_)
  ·rename_i t ht
   have ht2:l[i]?=some t:=ht
   have hm:=List.mem_of_getElem? ht2
   have h5:=ih t hm (by have:=cntL_le hm;omega)
   rw [take_succ_get ht2,Tr.cntL_append,Tr.cntL,Tr.cntL] at h7
   repeat' (first|refine ru_reg ?_|refine is_mv rfl ?_|refine is_nil rfl ?_|refine rk_seq ?_|refine is_addS rfl rfl (by omega) ?_|refine is_callE rfl rfl (by first|rfl|(simp only [List.nil_append,List.append_nil,List.cons_append,weaks,tr_weak,forceL];first|done|rfl)) (h5 _) ?_|refine rk_blk ?_|refine rk_inv ?_)
   refine ⟨(i+1,G++[.arr 7 0 [t.av]]),⟨?_,rfl⟩,by simp only;omega,by simp only;omega⟩
   simp only [take_succ_get ht2,Tr.cntL_append,Tr.cntL]
   rw [show ((1+Tr.cntL (l.take i):Nat):Int)+(t.cnt:Int)=((1+(Tr.cntL (l.take i)+(t.cnt+0)):Nat):Int) by omega]
   rfl
  ·have hi':i=l.length:=by omega
   subst hi'
   rw [List.take_length]
   refine end_st hA (by first|exact .inl rfl|exact .inr rfl) rfl rfl rfl rfl ?_
   rfl
theorem good_nil0:GoodN []:=fun o x h=>by simp [lk] at h
def exS:List UInt8:=[97,98,99,100,101,102,103,104,105,106,107,108,109,110,111,112,113]
theorem ex_build:buildM exS=.mk 0 1 .zero [] (some [leafT [97,98,99,100,101,102,103,104,105],leafT [106,107,108,109,110,111,112,113]]):=by
 rfl
theorem works_c (st:St):S Tb F_quartolaw15_works [] st=some (.bool true,st):=by
 have hB:=fun st=>Build_c good_nil0 exS (by decide) st
 rw [ex_build] at hB
 have hv:Val [] (.mk 0 1 .zero [] (some [leafT [97,98,99,100,101,102,103,104,105],leafT [106,107,108,109,110,111,112,113]])):=by
  refine .inner (by decide) (by decide) (by decide) ?_ ?_ ?_
  all_goals intro t ht
  all_goals simp only [List.mem_cons,List.not_mem_nil,or_false] at ht
  all_goals rcases ht with rfl|rfl
  ·rfl
  ·rfl
  ·intro _;rw [leaf_bytes];decide
  ·intro _;rw [leaf_bytes];decide
  ·exact leaf_val ⟨by decide,by decide⟩
  ·exact leaf_val ⟨by decide,by decide⟩
 have hC:=fun st=>New_c hv (by decide) st
 rw [show (Tr.mk 0 1 .zero [] (some [leafT [97,98,99,100,101,102,103,104,105],leafT [106,107,108,109,110,111,112,113]])).cnt=3 from rfl] at hC
 simp only [Tr.av,Tr.avO,Tr.avL,leafT,Mea.zero,exS] at hB hC
 refine s_of rfl (fun A hA=>?_)
 repeat' (first|refine ru_seq ?_|refine ru_reg ?_|refine is_mv rfl ?_|refine is_fadr rfl rfl ?_|refine is_ldc rfl rfl rfl rfl ?_|refine is_gT rfl ?_|refine is_pick rfl rfl rfl rfl ?_|refine is_ext rfl rfl ?_|refine is_nil rfl ?_|refine rk_seq ?_|refine is_lenF rfl rfl ?_|refine is_ldl rfl rfl ?_|refine is_ixL rfl rfl (by first|omega|decide|(simp only [List.length_cons,List.length_nil];omega)) rfl rfl ?_|(refine is_eql rfl rfl (fun _=>?_) (fun _=>?_)<;>try (exfalso;omega))|(refine is_eqlS rfl rfl (fun _=>?_) (fun _=>?_)<;>try contradiction)|refine is_box rfl rfl rfl ?_|refine is_stb rfl rfl rfl rfl rfl rfl ?_|refine is_callE rfl rfl rfl (hB _) ?_|refine is_callE rfl rfl rfl (hC _) ?_|refine ru_ret ?_|refine rk_nil ?_)
 refine end_st hA (by first|exact .inl rfl|exact .inr rfl) rfl rfl rfl rfl ?_
 rfl
end Go.Q15
namespace Go.Q15
open Go Go.QAbs
set_option maxRecDepth 100000
set_option maxHeartbeats 1000000
def sumT (f:Tr→Nat):List Tr→Nat
 | []=>0
 | t::l=>f t+sumT f l
theorem sumT_append (f:Tr→Nat):∀ a b,sumT f (a++b)=sumT f a+sumT f b
 | [],b=>by simp [sumT]
 | t::a,b=>by rw [List.cons_append,sumT,sumT,sumT_append f a b];omega
theorem sumT_le {f g:Tr→Nat}:∀ {l:List Tr},(∀ t∈l,f t≤g t)→sumT f l≤sumT g l
 | [],_=>Nat.le_refl _
 | t::l,h=>by
  have h1:=h t (by simp)
  have h2:=sumT_le (l:=l) (fun u hu=>h u (by simp [hu]))
  rw [sumT,sumT];omega
theorem sumT_congr {f g:Tr→Nat} {l:List Tr} (h:∀ t∈l,f t=g t):sumT f l=sumT g l :=
 Nat.le_antisymm (sumT_le fun t ht=>by rw [h t ht];exact Nat.le_refl _) (sumT_le fun t ht=>by rw [h t ht];exact Nat.le_refl _)
theorem sumT_mul (c:Nat) (f:Tr→Nat):∀ l,sumT (fun t=>c*f t) l=c*sumT f l
 | []=>rfl
 | t::l=>by rw [sumT,sumT,sumT_mul c f l,Nat.mul_add]
theorem sumT_one:∀ l:List Tr,sumT (fun _=>1) l=l.length
 | []=>rfl
 | t::l=>by rw [sumT,sumT_one l,List.length_cons];omega
theorem sumT_take (f:Tr→Nat) (l:List Tr) (i:Nat):sumT f (l.take i)≤sumT f l:=by
 have h:sumT f l=sumT f (l.take i)+sumT f (l.drop i):=by rw [← sumT_append,List.take_append_drop]
 omega
def cntF (N:Nodes):Nat→Tr→Nat
 | 0,_=>1
 | n+1,t=>1+sumT (cntF N n) (childs N t)
def levF (N:Nodes):Nat→Tr→Nat→Nat
 | 0,_,i=>if i=0 then 1 else 0
 | n+1,t,i=>if i=n+1 then 1 else sumT (fun u=>levF N n u i) (childs N t)
def sumTo (c:Nat→Nat):Nat→Nat
 | 0=>c 0
 | n+1=>sumTo c n+c (n+1)
theorem sumTo_shift (c:Nat→Nat):∀ n,sumTo c (n+1)=c 0+sumTo (fun i=>c (i+1)) n
 | 0=>rfl
 | n+1=>by
  rw [sumTo,sumTo_shift c n,sumTo];omega
theorem sumTo_congr {c d:Nat→Nat}:∀ {n:Nat},(∀ i,i≤n→c i=d i)→sumTo c n=sumTo d n
 | 0,h=>h 0 (Nat.le_refl _)
 | n+1,h=>by rw [sumTo,sumTo,sumTo_congr (n:=n) (fun i hi=>h i (by omega)),h (n+1) (Nat.le_refl _)]
theorem sumTo_add (c d:Nat→Nat):∀ n,sumTo (fun i=>c i+d i) n=sumTo c n+sumTo d n
 | 0=>rfl
 | n+1=>by rw [sumTo,sumTo,sumTo,sumTo_add c d n];omega
theorem sumTo_zero:∀ n,sumTo (fun _=>0) n=0
 | 0=>rfl
 | n+1=>by rw [sumTo,sumTo_zero n]
theorem sumTo_sumT (f:Tr→Nat→Nat) (n:Nat):∀ l,sumTo (fun i=>sumT (fun u=>f u i) l) n=sumT (fun u=>sumTo (f u) n) l
 | []=>by simp only [sumT];exact sumTo_zero n
 | t::l=>by
  simp only [sumT]
  rw [sumTo_add,sumTo_sumT f n l]
theorem cnt_lev (N:Nodes):∀ n t,cntF N n t=sumTo (levF N n t) n
 | 0,t=>by simp [cntF,sumTo,levF]
 | n+1,t=>by
  rw [cntF,sumTo]
  have h1:levF N (n+1) t (n+1)=1:=by rw [levF,if_pos rfl]
  have h2:sumTo (levF N (n+1) t) n=sumTo (fun i=>sumT (fun u=>levF N n u i) (childs N t)) n :=
   sumTo_congr fun i hi=>by rw [levF,if_neg (by omega)]
  rw [h1,h2,sumTo_sumT (fun u=>levF N n u)]
  rw [sumT_congr (fun u _=>cnt_lev N n u)]
  omega
theorem lev_top (N:Nodes) (n:Nat) (t:Tr):levF N n t n=1:=by
 cases n with
 | zero=>simp [levF]
 | succ n=>rw [levF,if_pos rfl]
theorem lev_step {N:Nodes} (hN:GoodN N):∀ (n:Nat) (t:Tr),Val N t→t.h=n→∀ i,i<n→levF N n t i≤4*levF N n t (i+1)
 | 0,_,_,_,i,hi=>by omega
 | n+1,t,hv,hh,i,hi=>by
  obtain ⟨c1,c2,c3,c4⟩:=childs_ok hN hv (by omega)
  rw [levF,levF,if_neg (by omega)]
  by_cases q:i=n
  ·subst q
   rw [if_pos rfl,sumT_congr (fun u _=>lev_top N i u),sumT_one];omega
  ·rw [if_neg (by omega),← sumT_mul]
   refine sumT_le fun u hu=>?_
   exact lev_step hN n u (c1 u hu).1 (by have:=(c1 u hu).2.1;omega) i (by omega)
theorem bytes_sumT {f:Tr→Nat}:∀ {l:List Tr},(∀ t∈l,t.bytes≤(f t:Int))→Tr.bytesL l≤(sumT f l:Int)
 | [],_=>by simp [Tr.bytesL,sumT]
 | t::l,h=>by
  have h1:=h t (by simp)
  have h2:=bytes_sumT (l:=l) (fun u hu=>h u (by simp [hu]))
  rw [Tr.bytesL,sumT];omega
theorem lev_bytes {N:Nodes} (hN:GoodN N):∀ (n:Nat) (t:Tr),Val N t→t.h=n→t.bytes≤((16*levF N n t 0:Nat):Int)
 | 0,t,hv,hh=>by
  have h:=hv.line hh
  have h2:=h.2
  unfold leafP at h2
  simp only [levF,if_true]
  omega
 | n+1,t,hv,hh=>by
  obtain ⟨c1,c2,c3,c4⟩:=childs_ok hN hv (by omega)
  rw [levF,if_neg (by omega),← c4,← sumT_mul]
  exact bytes_sumT fun u hu=>lev_bytes hN n u (c1 u hu).1 (by have:=(c1 u hu).2.1;omega)
theorem cnt_bytesL {N:Nodes} {n:Nat}:∀ {l:List Tr},(∀ t∈l,(cntF N n t:Int)+1≤2*t.bytes)→(sumT (cntF N n) l:Int)+l.length≤2*Tr.bytesL l
 | [],_=>by simp [Tr.bytesL,sumT]
 | t::l,h=>by
  have h1:=h t (by simp)
  have h2:=cnt_bytesL (l:=l) (fun u hu=>h u (by simp [hu]))
  rw [Tr.bytesL,sumT,List.length_cons];omega
theorem cnt_bytes {N:Nodes} (hN:GoodN N):∀ (n:Nat) (t:Tr),Val N t→t.h=n→(cntF N n t:Int)+1≤2*t.bytes
 | 0,t,hv,hh=>by have:=hv.pos.2;simp only [cntF];omega
 | n+1,t,hv,hh=>by
  obtain ⟨c1,c2,c3,c4⟩:=childs_ok hN hv (by omega)
  have:=cnt_bytesL (l:=childs N t) (N:=N) (n:=n) (fun u hu=>cnt_bytes hN n u (c1 u hu).1 (by have:=(c1 u hu).2.1;omega))
  rw [cntF];omega
def gcnt:Nat→Nat→Nat
 | 0,m=>m
 | n+1,m=>if m≤1 then m else m+gcnt n ((m-1) / 4+1)
def ghgt:Nat→Nat→Nat
 | 0,_=>0
 | n+1,m=>if m≤1 then 0 else 1+ghgt n ((m-1) / 4+1)
theorem g_least:∀ (n f m:Nat) (c:Nat→Nat),(∀ i,i<n→c i≤4*c (i+1))→c n=1→m≤c 0→gcnt f m≤sumTo c n∧ghgt f m≤n
 | n,0,m,c,h1,h2,h3=>by
  refine ⟨?_,by simp [ghgt]⟩
  cases n with
  | zero=>simpa [gcnt,sumTo] using h3
  | succ n=>rw [sumTo_shift];simp only [gcnt];omega
 | 0,f+1,m,c,h1,h2,h3=>by
  rw [h2] at h3
  rw [gcnt,ghgt,if_pos h3,if_pos h3,sumTo,h2]
  exact ⟨h3,Nat.le_refl _⟩
 | n+1,f+1,m,c,h1,h2,h3=>by
  rw [gcnt,ghgt]
  by_cases hm:m≤1
  ·rw [if_pos hm,if_pos hm,sumTo_shift]
   exact ⟨by omega,by omega⟩
  ·rw [if_neg hm,if_neg hm,sumTo_shift]
   have h4:=h1 0 (by omega)
   obtain ⟨a,b⟩:=g_least n f ((m-1) / 4+1) (fun i=>c (i+1)) (fun i hi=>h1 (i+1) (by omega)) h2 (by show (m-1) / 4+1≤c (0+1);omega)
   exact ⟨by omega,by omega⟩
theorem cntL_flat:∀ (ls:List (List Tr)),(∀ l∈ls,2≤l.length)→Tr.cntL (ls.map grp)=Tr.cntL ls.flatten+ls.length
 | [],_=>rfl
 | a::r,h=>by
  rw [List.map_cons,Tr.cntL,List.flatten_cons,Tr.cntL_append,cntL_flat r (fun l hl=>h l (by simp [hl])),grp_two (h a (by simp)),Tr.cnt,if_pos rfl,Tr.cntO,List.length_cons]
  omega
theorem part_size {row:List Tr} (h2:2≤row.length) {i:Nat} (hi:i<(groupsI row.length 4).toNat):2≤(partI row (groupsI row.length 4) i).length:=by
 have hg:=groupsI_pos (n:=row.length) (most:=4) (by omega) (by omega)
 have hg4:groupsI row.length 4=((row.length:Int)-1) / 4+1:=rfl
 have h1:=part_len row hg.1 hi
 have h3:=size_bounds (n:=row.length) (m:=4) (by omega) (by omega) (i:=i)
 have h4:2≤(row.length:Int) / groupsI row.length 4:=by
  apply (Int.le_ediv_iff_mul_le (by omega)).2
  omega
 omega
theorem rowUp_cnt {row:List Tr} (h2:2≤row.length):Tr.cntL (rowUp row)=Tr.cntL row+(rowUp row).length∧(rowUp row).length=(row.length-1) / 4+1:=by
 have hg:=groupsI_pos (n:=row.length) (most:=4) (by omega) (by omega)
 have hg4:groupsI row.length 4=((row.length:Int)-1) / 4+1:=rfl
 have e:rowUp row=((List.range (groupsI row.length 4).toNat).map (partI row (groupsI row.length 4))).map grp:=by unfold rowUp;rw [List.map_map];rfl
 have hlen:(rowUp row).length=(groupsI row.length 4).toNat:=by unfold rowUp;simp
 refine ⟨?_,by omega⟩
 rw [hlen,e,cntL_flat _ (fun l hl=>by
  obtain ⟨i,hi,rfl⟩:=List.mem_map.1 hl
  rw [List.mem_range] at hi
  exact part_size h2 hi),parts_all row hg.1]
 simp
theorem rowUp_h {row:List Tr} {h:Nat} (h2:2≤row.length) (hh:∀ t∈row,t.h=h):∀ t∈rowUp row,t.h=h+1:=by
 intro t ht
 unfold rowUp at ht
 obtain ⟨i,hi,rfl⟩:=List.mem_map.1 ht
 rw [List.mem_range] at hi
 have hp:=part_size h2 hi
 have hm:∀ u∈partI row (groupsI row.length 4) i,u.h=h:=fun u hu=>hh u (List.mem_of_mem_drop (List.mem_of_mem_take hu))
 rw [grp_two hp]
 generalize partI row (groupsI row.length 4) i=l at *
 match l,hp with
 | a::r,_ =>
  have e:Tr.hs (a::r)=h:=hm a (by simp)
  show Tr.hs (a::r)+1=h+1
  rw [e]
theorem buildR_cnt:∀ (n:Nat) (row:List Tr) (h:Nat),(∀ t∈row,t.h=h)→Tr.cntL (buildR n row)+row.length=Tr.cntL row+gcnt n row.length∧∀ t∈buildR n row,t.h=h+ghgt n row.length
 | 0,row,h,hh=>⟨rfl,hh⟩
 | n+1,row,h,hh=>by
  rw [buildR,gcnt,ghgt]
  split
  ·exact ⟨rfl,hh⟩
  ·obtain ⟨a,b⟩:=rowUp_cnt (row:=row) (by omega)
   obtain ⟨c,d⟩:=buildR_cnt n (rowUp row) (h+1) (rowUp_h (by omega) hh)
   rw [b] at a c d
   refine ⟨by omega,fun t ht=>?_⟩
   rw [d t ht];omega
theorem leafs_cnt:∀ l:List (List UInt8),Tr.cntL (l.map leafT)=l.length
 | []=>rfl
 | s::l=>by
  rw [List.map_cons,Tr.cntL,leafs_cnt l,List.length_cons]
  show (1+0)+l.length=_
  omega
inductive Fresh:Tr→Prop
 | mk {h m s k} (hk:∀ t∈k.getD [],Fresh t):Fresh (.mk 0 h m s k)
theorem fresh_grp {l:List Tr} (h:∀ t∈l,Fresh t):Fresh (grp l):=by
 match l,h with
 | [],_=>exact .mk (fun t ht=>by simp at ht)
 | [t],h=>exact h t (by simp)
 | t::u::r,h =>
  rw [grp_two (l:=t::u::r) (by simp)]
  exact .mk h
theorem fresh_row:∀ (n:Nat) (row:List Tr),(∀ t∈row,Fresh t)→∀ t∈buildR n row,Fresh t
 | 0,row,h=>h
 | n+1,row,h=>by
  rw [buildR]
  split
  ·exact h
  ·refine fresh_row n (rowUp row) fun t ht=>?_
   unfold rowUp at ht
   obtain ⟨i,hi,rfl⟩:=List.mem_map.1 ht
   exact fresh_grp fun u hu=>h u (List.mem_of_mem_drop (List.mem_of_mem_take hu))
theorem build_fresh (s:List UInt8):Fresh (buildM s):=by
 refine fresh_grp (fresh_row _ _ fun t ht=>?_)
 obtain ⟨c,_,rfl⟩:=List.mem_map.1 ht
 exact .mk fun t ht=>by simp at ht
theorem build_least {N:Nodes} (hN:GoodN N) {t:Tr} (hv:Val N t) (hb:t.bytes≤65536):(buildM (t.txt N)).cnt≤cntF N t.h t∧(buildM (t.txt N)).h≤t.h:=by
 have hlen:=txt_len hN hv
 have hpos:=hv.pos.2
 generalize t.txt N=s at *
 obtain ⟨a,b,c⟩:=leafRow_ok (N:=N) s
 obtain ⟨h',d,e,f⟩:=buildR_ok hN s.length _ 0 s a (by omega) (by omega)
 obtain ⟨p,q⟩:=buildR_cnt s.length ((chunksL s).map leafT) 0 (fun t ht=>(a.val t ht).2)
 have hs:s≠[]:=fun w=>by subst w;simp at hlen;omega
 have hl1:=f (c hs)
 have hm:((chunksL s).map leafT).length=(s.length-1) / 16+1:=by
  have hg:=groupsI_pos (n:=s.length) (most:=16) (by omega) (by omega)
  have hg4:groupsI s.length 16=((s.length:Int)-1) / 16+1:=rfl
  unfold chunksL
  rw [if_neg (by omega)]
  simp only [List.length_map,List.length_range]
  omega
 have h16:=lev_bytes hN t.h t hv rfl
 obtain ⟨g1,g2⟩:=g_least t.h s.length ((s.length-1) / 16+1) (levF N t.h t) (lev_step hN t.h t hv rfl) (lev_top N t.h t) (by omega)
 rw [← cnt_lev] at g1
 rw [leafs_cnt,← List.length_map (f:=leafT),hm] at p
 rw [hm] at q
 unfold buildM
 generalize buildR s.length ((chunksL s).map leafT)=row at *
 match row,e,hl1 with
 | [u],_,_ =>
  have q:=q u (by simp)
  simp only [Tr.cntL] at p
  simp only [grp]
  exact ⟨by omega,by omega⟩
 | [],_,w=>simp at w
 | _::_::_,w,_=>simp at w
end Go.Q15
namespace Go.Q15
open Go Go.QAbs
set_option maxRecDepth 100000
set_option maxHeartbeats 16000000
inductive SlRo (st:St):AV→List Ro→Prop
 | lit (rs:List Ro):SlRo st (.lit (rs.map Ro.av)) rs
 | ref {lv ix ver n:Nat} {rs:List Ro} {es:List AV} (hg:st.get lv ix=some (.arr 5 ver es)) (hn:n=rs.length) (he:es.take n=rs.map Ro.av):SlRo st (.ref lv ix ver 0 n) rs
theorem SlRo.push {st:St} {A:List (Bool × List Blk)} {ro:Bool} {L:List Blk} {v:AV} {l:List Ro} (hA:A=st.A++[(st.ro,st.L)]) (h:SlRo st v l):SlRo ⟨A,ro,L⟩ v l:=by
 cases h with
 | lit l=>exact .lit l
 | ref hg hn he=>exact .ref (get_old hA hg) hn he
theorem SlRo.weak {st:St} {v:AV} {l:List Ro} (h:SlRo st v l):QAbs.weak v=v:=by cases h<;>rfl
theorem ro_wide (r:Ro):r.av.wide=some 5:=rfl
theorem Rd.allRo {st:St} {lv ix:Nat} {N:Nodes} (h:Rd st lv ix N):Rd st.allRo lv ix N:=by
 obtain ⟨a0,a1,im,a3,a4,a5,h1,h2⟩:=h
 exact ⟨a0,a1,im,a3,a4,a5,by rw [allRo_get];exact h1,by rw [allRo_get];exact h2⟩
theorem keep_any {N:Nodes} {r:Ro} (h:RootOk N r):∃ t:Tr,VE N t∧t.bytes=r.m.b∧∀ {st:St} {lv ix:Nat},Rd st lv ix N→S Tb F_plan_Keep [.ptr lv ix 0 0 0,r.av] st=some (.tup [t.av,.int .i64 0],st):=by
 rcases h with rfl|⟨x,h1,h2,h3,h4,h5⟩
 ·exact ⟨_,.inl zero_empty,zero_empty.bytes,fun _=>Keep_zero⟩
 ·refine ⟨_,.inr ?_,?_,fun hr=>Keep_c hr h1 h2 h3 h4 h5⟩
  ·exact .kept h3 h1 h2 h4 h5 rfl
  ·simp [Tr.keep,Tr.bytes,Tr.bytesO]
theorem wkPT {lv ix:Nat} {t:Tr}:forceL (weaks ([]++[.ptr lv ix 0 0 0,t.av]++[]))=some [.ptr lv ix 0 0 0,t.av]:=by
 simp only [List.nil_append,List.append_nil,List.cons_append,weaks,tr_weak,forceL];rfl
section
variable {O:Orc} {k:List Fr} {Q:Post} {e:Env} {A:List (Bool × List Blk)} {L:List Blk} {keep:List Nat} {is:List PI} {d:Nat}
theorem is_remU8 {st:St} {x y:Opd} {a b:Nat} {c:Int} (hx:opdO e x=some (.int .u8 a)) (hy:opdO e y=some (.int .u8 c)) (hc:c=b) (hw:0<b) (h:Is O is keep k Q ((d,.int .u8 ((a % b:Nat):Int))::e) st):Is O (⟨some d,none,false,.bin .rem x y⟩::is) keep k Q e st:=by
 subst hc
 refine is_bin hx hy ?_ h
 show (if (b:Int)=0 then none else some (AV.int .u8 ((a:Int).tmod b)))=_
 rw [if_neg (by omega),Int.tmod_eq_emod_of_nonneg (by omega),← Int.natCast_emod]
theorem is_wImm2 {st:St} {w:Nat} {x y:Opd} {z1 z2 v u:AV} (hx:opdO e x=some v) (hy:opdO e y=some u) (hw:v.wide=some w) (hw2:u.wide=some w) (hi:imm 6 v=true) (hi2:imm 6 u=true) (h:Is O is keep k Q ((d,.lit [v,u])::e) st):Is O (⟨some d,none,false,.w .imm (.bslice false w [z1,z2] [(0,x),(1,y)])⟩::is) keep k Q e st:=by
 refine is_w (v:=.lit [v,u]) (st':=st) ?_ h
 have hf:fillE w [z1,z2] [(0,v),(1,u)]=some [v,u]:=by simp [fillE,hw,hw2]
 simp only [evalW,immW,partsE,opdO_some hx,opdO_some hy,hf,Option.bind_some,immK,List.all_cons,List.all_nil,hi,hi2,Bool.and_self,if_true,List.isEmpty_cons,Bool.false_eq_true,if_false]
theorem is_appTk {s x:Opd} {ix ver m:Nat} {es:List AV} {ts ys:List Tr} (hs:opdO e s=some (.ref A.length ix ver 0 m)) (hg:L[ix]?=some (.arr 7 ver es)) (hm:m≤ts.length) (he:ts.length≤es.length) (hx:opdO e x=some (.lit (ys.map Tr.av))) (hl:m+ys.length<4294967296)
 (h:Is O is keep k Q ((d,.ref A.length ix (ver+1) 0 (ts.take m++ys).length)::e) ⟨A,false,L.set ix (.arr 7 (ver+1) (es.take m++ys.map Tr.av))⟩):Is O (⟨some d,none,false,.app 7 80 s x⟩::is) keep k Q e ⟨A,false,L⟩:=by
 have hlt:ix<L.length:=by
  rw [List.getElem?_eq_some_iff] at hg;exact hg.1
 rw [List.length_append,List.length_take,Nat.min_eq_left hm] at h
 refine is_of (v:=.ref A.length ix (ver+1) 0 (m+ys.length)) (st':=⟨A,false,L.set ix (.arr 7 (ver+1) (es.take m++ys.map Tr.av))⟩) ?_ h
 simp only [evalPI,evalPO,opdO_some hs,opdO_some hx,elems,Option.bind_some,appendV,trs_wide,if_true,trs_seal,appK,St.get_cur,hg,vis,appB,true_and,List.length_map,if_pos (show 0+m≤es.length∧m+ys.length<4294967296∧80≤4096 by omega),St.put,if_false,Bool.false_eq_true,if_pos hlt,List.drop_zero]
theorem is_slcRc {w:Nat} {x y:Opd} {ix ver m:Nat} {n:Int} {es:List AV} {ts:List Tr} (hx:opdO e x=some (.ref A.length ix ver 0 ts.length)) (hy:opdO e y=some (.int .i64 n)) (hn:0≤n∧n≤ts.length) (hm:m=n.toNat) (hg:L[ix]?=some (Blk.arr w ver es)) (h:Is O is keep k Q ((d,.ref A.length ix ver 0 m)::e) ⟨A,false,L⟩):Is O (⟨some d,none,false,.slc w x none (some y)⟩::is) keep k Q e ⟨A,false,L⟩:=by
 subst hm
 exact is_slcR_hi hx hy hn (by rw [St.get_cur,hg];simp [wIs,vis]) h
end
structure RInv (N:Nodes) (l:List Stp) (i:Nat) (es:List AV) (ts:List Tr):Prop where
 le:i≤l.length
 es:es.take ts.length=ts.map Tr.av
 vb:∀ t∈ts,VE N t∧t.bytes≤3000+200*i
 len:ts.length≤i
theorem RInv.elen {N:Nodes} {l:List Stp} {i:Nat} {es:List AV} {ts:List Tr} (h:RInv N l i es ts):ts.length≤es.length:=by
 have:=congrArg List.length h.es
 rw [List.length_take,List.length_map] at this;omega
theorem RInv.get {N:Nodes} {l:List Stp} {i:Nat} {es:List AV} {ts:List Tr} (h:RInv N l i es ts) {j:Nat} {t:Tr} (hj:ts[j]?=some t):es[j]?=some t.av:=by
 have hlt:=(List.getElem?_eq_some_iff.1 hj).1
 have h1:(es.take ts.length)[j]?=some t.av:=by rw [h.es,List.getElem?_map,hj];rfl
 rwa [List.getElem?_take,if_pos hlt] at h1
theorem RInv.step {N:Nodes} {l:List Stp} {i:Nat} {es:List AV} {ts:List Tr} (h:RInv N l i es ts) (hi:i<l.length) {m:Nat} (hm:m≤ts.length) (ps:List Tr) (hp:∀ t∈ps,VE N t∧t.bytes≤3000+200*i+200) (hl:m+ps.length≤ts.length+1) :
 RInv N l (i+1) (es.take m++ps.map Tr.av) (ts.take m++ps):=by
 have he:=h.elen
 have e1:es.take m=(ts.take m).map Tr.av:=by
  have:=congrArg (List.take m) h.es
  rw [List.take_take,Nat.min_eq_left hm,← List.map_take] at this
  exact this
 refine ⟨hi,?_,fun t ht=>?_,?_⟩
 ·rw [e1,← List.map_append,List.take_of_length_le (by simp)]
 ·rcases List.mem_append.1 ht with w|w
  ·have:=h.vb t (List.mem_of_mem_take w)
   exact ⟨this.1,by omega⟩
  ·have:=hp t w
   exact ⟨this.1,by omega⟩
 ·have:=h.len
  rw [List.length_append,List.length_take];omega
theorem RInv.pop {N:Nodes} {l:List Stp} {i:Nat} {es:List AV} {ts:List Tr} (h:RInv N l i es ts) (hi:i<l.length) {m:Nat} (hm:m≤ts.length):RInv N l (i+1) es (ts.take m):=by
 have e1:es.take m=(ts.take m).map Tr.av:=by
  have:=congrArg (List.take m) h.es
  rw [List.take_take,Nat.min_eq_left hm,← List.map_take] at this
  exact this
 refine ⟨hi,?_,fun t ht=>?_,?_⟩
 ·rw [List.length_take,Nat.min_eq_left hm,e1]
 ·have:=h.vb t (List.mem_of_mem_take ht)
  exact ⟨this.1,by omega⟩
 ·have:=h.len
  rw [List.length_take];omega
theorem RInv.same {N:Nodes} {l:List Stp} {i:Nat} {es:List AV} {ts:List Tr} (h:RInv N l i es ts) (hi:i<l.length):RInv N l (i+1) es ts:=by
 have:=h.pop hi (Nat.le_refl _)
 rwa [List.take_length] at this
theorem end_run {e:Env} {A:List (Bool × List Blk)} {st:St} {L:List Blk} {x:Ex} {a b ix ver:Nat} {es:List AV} {ts:List Tr} {y:Bool} (hA:A=st.A++[(st.ro,st.L)]) (hx:x=.norm∨x=.ret) (ha:lookO e a=some (.ref A.length ix ver 0 ts.length)) (hb:lookO e b=some (.bool y))
 (hres:([RV.s a,RV.s b]:List RV)=[.s a,.s b]) (hg:L[ix]?=some (.arr 7 ver es)) (hn:ts.length≤es.length) (he:es.take ts.length=ts.map Tr.av):endK false [.s a,.s b] (x,e,⟨A,false,L⟩)=some (.tup [.lit (ts.map Tr.av),.bool y],st):=by
 refine end_of (v:=.tup [.ref A.length ix ver 0 ts.length,.bool y]) (ro:=false) (L':=L.set ix .dead) hA hx ?_ ?_ rfl
 ·simp only [result,resL,resV,lookO_some ha,lookO_some hb,Option.bind_some,Option.map_some,tupOf]
 ·refine seal_tup1 (m:=5) (seal_refO (n:=4) hg (by omega) ?_) (by intro z hz;rw [List.mem_singleton] at hz;rw [hz];rfl)
  rw [List.drop_zero,he]
  exact trs_sealN 2 0 _ ts
theorem run_c {N:Nodes} (hN:GoodN N) {st:St} {lv ix:Nat} (hr:Rd st lv ix N) {rv:AV} {rs:List Ro} (hv:SlRo st rv rs) (hrs:∀ r∈rs,RootOk N r∧r.m.b≤900) (hrl:rs.length<65536) (l:List Stp) (hl:l.length≤30) (ht:∀ s∈l,s.text.length≤200) :
 Sp Tb F_quartolaw15_run [.ptr lv ix 0 0 0,rv,.lit (l.map Stp.av)] st fun v st'=>st'=st∧∃ es ts,RInv N l l.length es ts∧v=.tup [.lit (ts.map Tr.av),.bool true]:=by
 refine sp_of rfl ?_
 obtain ⟨A,hA⟩:∃ A,A=st.A++[(st.ro,st.L)]:=⟨_,rfl⟩
 rw [← hA]
 have hR:=fun L=>hr.push hA (ro:=false) (L:=L)
 have hV:=fun L=>hv.push hA (ro:=false) (L:=L)
 repeat' (first|refine ru_seq ?_|refine ru_reg ?_|refine is_mv rfl ?_|refine is_nil rfl ?_|refine rk_seq ?_|refine is_onil rfl ?_|refine ru_block ?_)
 refine ru_loopP (α:=Nat × Nat × List AV × List Tr × List Blk) (fun q=>[(0,.ptr lv ix 0 0 0),(1,rv),(2,.lit (l.map Stp.av)),(8,.ref A.length 0 q.2.1 0 q.2.2.2.1.length),(9,.int .i64 q.1)])
  (fun q=>⟨A,false,.arr 7 q.2.1 q.2.2.1::q.2.2.2.2⟩) (fun q=>RInv N l q.1 q.2.2.1 q.2.2.2.1) (fun q=>l.length-q.1) (0,0,[],[],[]) rfl rfl ⟨Nat.zero_le _,rfl,fun t ht=>by simp at ht,Nat.le_refl _⟩ ?_
 rintro ⟨i,ver,es,ts,G⟩ inv
 simp only at inv ⊢
 have hile:=inv.le
 have hele:=inv.elen
 have htl:=inv.len
 have hl1:∀ {m:Nat} {c:Tr} (h:m≤ts.length),m+[c].length<4294967296:=fun h=>by rw [List.length_singleton];omega
 have e0:∀ L:List Blk,(⟨A,false,L⟩:St)=⟨A,false,L++[]⟩:=fun L=>by rw [List.append_nil]
 rw [e0 (.arr 7 ver es::G)]
 repeat' (first|refine is_len1L rfl ?_|refine is_boxA rfl rfl rfl rfl rfl ?_|refine is_ldA rfl rfl rfl rfl ?_|refine is_stA rfl rfl rfl rfl rfl rfl rfl ?_|refine ru_seq ?_|refine ru_reg ?_|refine is_mv rfl ?_|refine is_fadr rfl rfl ?_|refine is_gT rfl ?_|refine is_gF rfl rfl ?_|refine is_pick rfl rfl rfl rfl ?_|refine is_nil rfl ?_|refine rk_seq ?_|refine is_lenR rfl ?_|refine is_ldl rfl rfl ?_|refine is_ixM rfl rfl (by omega) (fun _=>rfl) (fun _ _=>?_)|(refine is_lss rfl rfl (fun _=>?_) (fun _=>?_)<;>try (exfalso;omega))|(refine is_gtr rfl rfl (fun _=>?_) (fun _=>?_)<;>try (exfalso;omega))|(refine is_eql rfl rfl (fun _=>?_) (fun _=>?_)<;>try (exfalso;omega))|(refine is_neq rfl rfl (fun _=>?_) (fun _=>?_)<;>try (exfalso;omega))|refine ru_iteT rfl ?_|refine ru_iteF rfl ?_|refine is_addS rfl rfl (by omega) ?_|refine is_subS rfl rfl (by omega) ?_|refine is_remU8 (b:=8) rfl rfl rfl (by decide) ?_|refine ru_skip ?_|refine ru_ret ?_|refine ru_exit ?_|refine ru_block ?_|refine rk_nil ?_|refine rk_seq_ex ?_|refine rk_blk ?_|refine rk_blk_eq rfl ?_|refine rk_inv ?_|refine rk_inv_ex ?_)
 ·rename_i y hy _
  have hv2:=hv
  cases hv2 with
  | lit =>
   repeat' (first|refine is_len1L rfl ?_|refine ru_seq ?_|refine ru_reg ?_|refine is_mv rfl ?_|refine is_fadr rfl rfl ?_|refine is_nil rfl ?_|refine rk_seq ?_|(refine is_gtr rfl rfl (fun _=>?_) (fun _=>?_)<;>try (exfalso;omega))|(refine is_neq rfl rfl (fun _=>?_) (fun _=>?_)<;>try (exfalso;omega))|refine ru_iteT rfl ?_|refine ru_iteF rfl ?_|refine is_addS rfl rfl (by omega) ?_|refine ru_skip ?_|refine rk_blk ?_|refine rk_inv ?_)
   ·have hpk:=pickM_bounds (x:=y.n) (n:=(rs.length:Int)-1) (by omega)
    have hPk:=fun st=>pick_c y.n ((rs.length:Int)-1) (by omega) (by omega) st
    repeat' (first|refine is_len1L rfl ?_|refine is_ixM rfl rfl (by omega) ro_wide (fun _ _=>?_)|refine is_ldl rfl (ro_part _) ?_|refine is_ldA rfl rfl rfl rfl ?_|refine is_mv rfl ?_|refine is_subS rfl rfl (by omega) ?_|refine is_callE rfl rfl (by first|rfl|(simp only [List.nil_append,List.append_nil,List.cons_append,weaks,tr_weak,forceL];first|done|rfl)) (hPk _) ?_)
    rename_i r hr
    obtain ⟨h1,h2⟩:=hrs r (List.mem_of_getElem? hr)
    obtain ⟨c,hve,hby,hK⟩:=keep_any h1
    have hK:=fun L=>hK (hR L)
    repeat' (first|refine is_ldA rfl rfl rfl (tr_part _) ?_|refine is_stA rfl rfl rfl rfl (tr_seal _ _ _) (tr_put _ _) rfl ?_|refine is_bslTr1 rfl ?_|refine is_appTk (ts:=ts) (ys:=[c]) rfl rfl (Nat.le_refl _) hele rfl (hl1 (Nat.le_refl _)) ?_|refine ru_seq ?_|refine ru_reg ?_|refine is_mv rfl ?_|refine is_ext rfl rfl ?_|refine is_nil rfl ?_|refine rk_seq ?_|(refine is_neq rfl rfl (fun _=>?_) (fun _=>?_)<;>try (exfalso;omega))|refine ru_iteF rfl ?_|refine is_addS rfl rfl (by omega) ?_|refine is_callE rfl rfl (by first|rfl|(simp only [List.nil_append,List.append_nil,List.cons_append,weaks,tr_weak,forceL];first|done|rfl)) (hK _) ?_|refine ru_skip ?_|refine rk_blk ?_|refine rk_inv ?_)
    refine ⟨(i+1,ver+1,_,ts.take (ts.length)++[c],_),⟨rfl,rfl⟩,inv.step (by omega) (Nat.le_refl _) [c] ?_ (by simp only [List.length_cons,List.length_nil];omega),by simp only;omega⟩
    intro t ht
    rw [List.mem_singleton] at ht
    subst ht
    exact ⟨hve,by omega⟩
   ·exact ⟨(i+1,ver,es,ts,_),⟨rfl,rfl⟩,inv.same (by omega),by simp only;omega⟩
  | @ref lv' kx ver' n rs es' hg hn he =>
   subst hn
   have gr:=fun L=>get_old hA (ro:=false) (L:=L) hg
   have hwi:∀ L,wIs 5 ver' (St.get ⟨A,false,L⟩ lv' kx)=true:=fun L=>by rw [gr];simp [wIs]
   repeat' (first|refine is_lenR rfl ?_|refine ru_seq ?_|refine ru_reg ?_|refine is_mv rfl ?_|refine is_fadr rfl rfl ?_|refine is_nil rfl ?_|refine rk_seq ?_|(refine is_gtr rfl rfl (fun _=>?_) (fun _=>?_)<;>try (exfalso;omega))|(refine is_neq rfl rfl (fun _=>?_) (fun _=>?_)<;>try (exfalso;omega))|refine ru_iteT rfl ?_|refine ru_iteF rfl ?_|refine is_addS rfl rfl (by omega) ?_|refine ru_skip ?_|refine rk_blk ?_|refine rk_inv ?_)
   ·have hpk:=pickM_bounds (x:=y.n) (n:=(rs.length:Int)-1) (by omega)
    have hPk:=fun st=>pick_c y.n ((rs.length:Int)-1) (by omega) (by omega) st
    obtain ⟨r,hr⟩:∃ r,rs[(pickM y.n ((rs.length:Int)-1)).toNat]?=some r:=⟨rs[(pickM y.n ((rs.length:Int)-1)).toNat]'(by omega),by rw [List.getElem?_eq_getElem]⟩
    have gr2:es'[0+(pickM y.n ((rs.length:Int)-1)).toNat]?=some r.av:=by
     have h1:(es'.take rs.length)[(pickM y.n ((rs.length:Int)-1)).toNat]?=some r.av:=by rw [he,List.getElem?_map,hr];rfl
     rw [List.getElem?_take,if_pos (by omega)] at h1
     rw [Nat.zero_add];exact h1
    obtain ⟨h1,h2⟩:=hrs r (List.mem_of_getElem? hr)
    obtain ⟨c,hve,hby,hK⟩:=keep_any h1
    have hK:=fun L=>hK (hR L)
    repeat' (first|refine is_lenR rfl ?_|refine is_ixR rfl rfl (by omega) (hwi _) ?_|refine is_ld rfl (gr _) gr2 (ro_part _) ?_|refine is_ldA rfl rfl rfl rfl ?_|refine is_ldA rfl rfl rfl (tr_part _) ?_|refine is_stA rfl rfl rfl rfl (tr_seal _ _ _) (tr_put _ _) rfl ?_|refine is_bslTr1 rfl ?_|refine is_appTk (ts:=ts) (ys:=[c]) rfl rfl (Nat.le_refl _) hele rfl (hl1 (Nat.le_refl _)) ?_|refine ru_seq ?_|refine ru_reg ?_|refine is_mv rfl ?_|refine is_ext rfl rfl ?_|refine is_nil rfl ?_|refine rk_seq ?_|(refine is_neq rfl rfl (fun _=>?_) (fun _=>?_)<;>try (exfalso;omega))|refine ru_iteF rfl ?_|refine is_addS rfl rfl (by omega) ?_|refine is_subS rfl rfl (by omega) ?_|refine is_callE rfl rfl (by first|rfl|(simp only [List.nil_append,List.append_nil,List.cons_append,weaks,tr_weak,forceL];first|done|rfl)) (hPk _) ?_|refine is_callE rfl rfl (by first|rfl|(simp only [List.nil_append,List.append_nil,List.cons_append,weaks,tr_weak,forceL];first|done|rfl)) (hK _) ?_|refine ru_skip ?_|refine rk_blk ?_|refine rk_inv ?_)
    refine ⟨(i+1,ver+1,_,ts.take (ts.length)++[c],_),⟨rfl,rfl⟩,inv.step (by omega) (Nat.le_refl _) [c] ?_ (by simp only [List.length_cons,List.length_nil];omega),by simp only;omega⟩
    intro t ht
    rw [List.mem_singleton] at ht
    subst ht
    exact ⟨hve,by omega⟩
   ·exact ⟨(i+1,ver,es,ts,_),⟨rfl,rfl⟩,inv.same (by omega),by simp only;omega⟩
 ·rename_i y hy _ _
  have hs:=ht y (List.mem_of_getElem? hy)
  have hBu:=fun st=>Build_c hN y.text (by omega) st
  obtain ⟨hve,_,hby⟩:=buildM_ok hN (s:=y.text) (by omega)
  generalize buildM y.text=c at *
  repeat' (first|refine is_ldA rfl rfl rfl (tr_part _) ?_|refine is_stA rfl rfl rfl rfl (tr_seal _ _ _) (tr_put _ _) rfl ?_|refine is_bslTr1 rfl ?_|refine is_appTk (ts:=ts) (ys:=[c]) rfl rfl (Nat.le_refl _) hele rfl (hl1 (Nat.le_refl _)) ?_|refine ru_seq ?_|refine ru_reg ?_|refine is_mv rfl ?_|refine is_ext rfl rfl ?_|refine is_nil rfl ?_|refine rk_seq ?_|(refine is_neq rfl rfl (fun _=>?_) (fun _=>?_)<;>try (exfalso;omega))|refine ru_iteF rfl ?_|refine is_addS rfl rfl (by omega) ?_|refine is_callE rfl rfl (by first|rfl|(simp only [List.nil_append,List.append_nil,List.cons_append,weaks,tr_weak,forceL];first|done|rfl)) (hBu _) ?_|refine ru_skip ?_|refine rk_blk ?_|refine rk_inv ?_)
  refine ⟨(i+1,ver+1,_,ts.take (ts.length)++[c],_),⟨rfl,rfl⟩,inv.step (by omega) (Nat.le_refl _) [c] ?_ (by simp only [List.length_cons,List.length_nil];omega),by simp only;omega⟩
  intro t ht
  rw [List.mem_singleton] at ht
  subst ht
  exact ⟨hve,by omega⟩
 ·obtain ⟨x,hx⟩:∃ x,ts[ts.length-1]?=some x:=⟨ts[ts.length-1]'(by omega),by simp [show ts.length-1<ts.length by omega]⟩
  obtain ⟨vx,bx⟩:=inv.vb x (List.mem_of_getElem? hx)
  have gx:es[0+((ts.length:Int)-1).toNat]?=some x.av:=by rw [show 0+((ts.length:Int)-1).toNat=ts.length-1 by omega];exact inv.get hx
  have px:=vx.pos.2
  have hWx:=fun L=>weight_c hN (hR L) vx (by omega)
  have hWxP:=fun L=>weight_c hN (hR L).allRo vx (by omega)
  obtain ⟨z,hz⟩:∃ z,ts[ts.length-2]?=some z:=⟨ts[ts.length-2]'(by omega),by simp [show ts.length-2<ts.length by omega]⟩
  obtain ⟨vz,bz⟩:=inv.vb z (List.mem_of_getElem? hz)
  have gz:es[0+((ts.length:Int)-2).toNat]?=some z.av:=by rw [show 0+((ts.length:Int)-2).toNat=ts.length-2 by omega];exact inv.get hz
  have pz:=vz.pos.2
  have hWz:=fun L=>weight_c hN (hR L) vz (by omega)
  have hCc:=fun L=>Concat_c hN (hR L) vz vx (by omega)
  have hok:=concM_ok hN vz vx (by omega)
  have hve:=own_ve hok.ve
  have hby:=own_bytes (concM N z x)
  rw [hok.bytes] at hby
  generalize (concM N z x).own=c at *
  repeat' (first|refine is_ixRc rfl rfl (by omega) rfl ?_|refine is_ldc rfl rfl gx (tr_part _) ?_|refine is_ldc rfl rfl gz (tr_part _) ?_|refine is_stA rfl rfl rfl rfl (tr_seal _ _ _) (tr_put _ _) rfl ?_|refine ru_seq ?_|refine ru_reg ?_|refine is_mv rfl ?_|refine is_gT rfl ?_|refine is_pick rfl rfl rfl rfl ?_|refine is_ext rfl rfl ?_|refine is_nil rfl ?_|refine rk_seq ?_|(refine is_leq rfl rfl (fun _=>?_) (fun _=>?_)<;>try (exfalso;omega))|(refine is_neq rfl rfl (fun _=>?_) (fun _=>?_)<;>try (exfalso;omega))|refine ru_iteT rfl ?_|refine ru_iteF rfl ?_|refine is_addS rfl rfl (by omega) ?_|refine is_subS rfl rfl (by omega) ?_|refine is_callP rfl rfl wkPT (hWxP _) ?_|refine is_callE rfl rfl (by first|rfl|(simp only [List.nil_append,List.append_nil,List.cons_append,weaks,tr_weak,forceL];first|done|rfl)) (hWz _) ?_|refine is_callE rfl rfl (by first|rfl|(simp only [List.nil_append,List.append_nil,List.cons_append,weaks,tr_weak,forceL];first|done|rfl)) (hCc _) ?_|refine ru_skip ?_|refine rk_blk ?_|refine rk_inv ?_)
  ·refine is_slcRc (m:=ts.length-2) rfl rfl (by omega) (by omega) rfl ?_
   repeat' (first|refine is_ldA rfl rfl rfl (tr_part _) ?_|refine is_wImm1 rfl (tr_wide _) (tr_imm 4 _) ?_|refine is_appTk (ts:=ts) (ys:=[c]) rfl rfl (by omega) hele rfl (hl1 (by omega)) ?_|refine ru_seq ?_|refine ru_reg ?_|refine is_mv rfl ?_|refine is_nil rfl ?_|refine rk_seq ?_|(refine is_neq rfl rfl (fun _=>?_) (fun _=>?_)<;>try (exfalso;omega))|refine ru_iteF rfl ?_|refine is_addS rfl rfl (by omega) ?_|refine ru_skip ?_|refine rk_blk ?_|refine rk_inv ?_)
   refine ⟨(i+1,ver+1,_,ts.take (ts.length-2)++[c],_),⟨rfl,rfl⟩,inv.step (by omega) (by omega) [c] ?_ (by simp only [List.length_cons,List.length_nil];omega),by simp only;omega⟩
   intro t ht
   rw [List.mem_singleton] at ht
   subst ht
   exact ⟨hve,by omega⟩
  ·exact ⟨(i+1,ver,es,ts,_),⟨rfl,rfl⟩,inv.same (by omega),by simp only;omega⟩
 ·exact ⟨(i+1,ver,es,ts,_),⟨rfl,rfl⟩,inv.same (by omega),by simp only;omega⟩
 ·obtain ⟨x,hx⟩:∃ x,ts[ts.length-1]?=some x:=⟨ts[ts.length-1]'(by omega),by simp [show ts.length-1<ts.length by omega]⟩
  obtain ⟨vx,bx⟩:=inv.vb x (List.mem_of_getElem? hx)
  have gx:es[0+((ts.length:Int)-1).toNat]?=some x.av:=by rw [show 0+((ts.length:Int)-1).toNat=ts.length-1 by omega];exact inv.get hx
  have px:=vx.pos.2
  have hWx:=fun L=>weight_c hN (hR L) vx (by omega)
  have hWxP:=fun L=>weight_c hN (hR L).allRo vx (by omega)
  obtain ⟨z,hz⟩:∃ z,ts[ts.length-2]?=some z:=⟨ts[ts.length-2]'(by omega),by simp [show ts.length-2<ts.length by omega]⟩
  obtain ⟨vz,bz⟩:=inv.vb z (List.mem_of_getElem? hz)
  have gz:es[0+((ts.length:Int)-2).toNat]?=some z.av:=by rw [show 0+((ts.length:Int)-2).toNat=ts.length-2 by omega];exact inv.get hz
  have pz:=vz.pos.2
  have hWz:=fun L=>weight_c hN (hR L) vz (by omega)
  have hCc:=fun L=>Concat_c hN (hR L) vz vx (by omega)
  have hok:=concM_ok hN vz vx (by omega)
  have hve:=own_ve hok.ve
  have hby:=own_bytes (concM N z x)
  rw [hok.bytes] at hby
  generalize (concM N z x).own=c at *
  repeat' (first|refine is_ixRc rfl rfl (by omega) rfl ?_|refine is_ldc rfl rfl gx (tr_part _) ?_|refine is_ldc rfl rfl gz (tr_part _) ?_|refine is_stA rfl rfl rfl rfl (tr_seal _ _ _) (tr_put _ _) rfl ?_|refine ru_seq ?_|refine ru_reg ?_|refine is_mv rfl ?_|refine is_gT rfl ?_|refine is_pick rfl rfl rfl rfl ?_|refine is_ext rfl rfl ?_|refine is_nil rfl ?_|refine rk_seq ?_|(refine is_leq rfl rfl (fun _=>?_) (fun _=>?_)<;>try (exfalso;omega))|(refine is_neq rfl rfl (fun _=>?_) (fun _=>?_)<;>try (exfalso;omega))|refine ru_iteT rfl ?_|refine ru_iteF rfl ?_|refine is_addS rfl rfl (by omega) ?_|refine is_subS rfl rfl (by omega) ?_|refine is_callP rfl rfl wkPT (hWxP _) ?_|refine is_callE rfl rfl (by first|rfl|(simp only [List.nil_append,List.append_nil,List.cons_append,weaks,tr_weak,forceL];first|done|rfl)) (hWz _) ?_|refine is_callE rfl rfl (by first|rfl|(simp only [List.nil_append,List.append_nil,List.cons_append,weaks,tr_weak,forceL];first|done|rfl)) (hCc _) ?_|refine ru_skip ?_|refine rk_blk ?_|refine rk_inv ?_)
  ·refine is_slcRc (m:=ts.length-2) rfl rfl (by omega) (by omega) rfl ?_
   repeat' (first|refine is_ldA rfl rfl rfl (tr_part _) ?_|refine is_wImm1 rfl (tr_wide _) (tr_imm 4 _) ?_|refine is_appTk (ts:=ts) (ys:=[c]) rfl rfl (by omega) hele rfl (hl1 (by omega)) ?_|refine ru_seq ?_|refine ru_reg ?_|refine is_mv rfl ?_|refine is_nil rfl ?_|refine rk_seq ?_|(refine is_neq rfl rfl (fun _=>?_) (fun _=>?_)<;>try (exfalso;omega))|refine ru_iteF rfl ?_|refine is_addS rfl rfl (by omega) ?_|refine ru_skip ?_|refine rk_blk ?_|refine rk_inv ?_)
   refine ⟨(i+1,ver+1,_,ts.take (ts.length-2)++[c],_),⟨rfl,rfl⟩,inv.step (by omega) (by omega) [c] ?_ (by simp only [List.length_cons,List.length_nil];omega),by simp only;omega⟩
   intro t ht
   rw [List.mem_singleton] at ht
   subst ht
   exact ⟨hve,by omega⟩
  ·exact ⟨(i+1,ver,es,ts,_),⟨rfl,rfl⟩,inv.same (by omega),by simp only;omega⟩
 ·exact ⟨(i+1,ver,es,ts,_),⟨rfl,rfl⟩,inv.same (by omega),by simp only;omega⟩
 ·rename_i y hy _ _ _ _ _ hn
  obtain ⟨x,hx⟩:∃ x,ts[ts.length-1]?=some x:=⟨ts[ts.length-1]'(by omega),by simp [show ts.length-1<ts.length by omega]⟩
  obtain ⟨vx,bx⟩:=inv.vb x (List.mem_of_getElem? hx)
  have gx:es[0+((ts.length:Int)-1).toNat]?=some x.av:=by rw [show 0+((ts.length:Int)-1).toNat=ts.length-1 by omega];exact inv.get hx
  have px:=vx.pos.2
  have hWx:=fun L=>weight_c hN (hR L) vx (by omega)
  have hWxP:=fun L=>weight_c hN (hR L).allRo vx (by omega)
  have hpk:=pickM_bounds (x:=y.at_) (n:=x.bytes) px
  have hPk:=fun st=>pick_c y.at_ x.bytes px (by omega) st
  have hCu:=fun L=>Cut_c2 hN (hR L) vx (pickM y.at_ x.bytes) hpk.1 hpk.2 (by omega)
  have hok:=cutF_ok hN x.h x (pickM y.at_ x.bytes) vx rfl hpk.1 hpk.2 (by omega)
  have hv1:=own_ve hok.l
  have hv3:=own_ve hok.r
  have hb1:=own_bytes (cutF N x.h x (pickM y.at_ x.bytes)).1
  have hb3:=own_bytes (cutF N x.h x (pickM y.at_ x.bytes)).2
  rw [hok.lb] at hb1
  rw [hok.rb] at hb3
  generalize (cutF N x.h x (pickM y.at_ x.bytes)).1.own=c at *
  generalize (cutF N x.h x (pickM y.at_ x.bytes)).2.own=d at *
  have hl2:ts.length-1+[c,d].length<4294967296:=by simp only [List.length_cons,List.length_nil];omega
  repeat' (first|refine is_ixRc rfl rfl (by omega) rfl ?_|refine is_ldc rfl rfl gx (tr_part _) ?_|refine is_ldA rfl rfl rfl rfl ?_|refine is_stA rfl rfl rfl rfl (tr_seal _ _ _) (tr_put _ _) rfl ?_|refine ru_reg ?_|refine is_mv rfl ?_|refine is_fadr rfl rfl ?_|refine is_ext rfl rfl ?_|refine is_nil rfl ?_|refine rk_seq ?_|refine is_subS rfl rfl (by omega) ?_|refine is_callP rfl rfl wkPT (hWxP _) ?_|refine is_callP rfl rfl rfl (hPk _) ?_|refine is_callE rfl rfl (by first|rfl|(simp only [List.nil_append,List.append_nil,List.cons_append,weaks,tr_weak,forceL];first|done|rfl)) (hCu _) ?_)
  refine is_slcRc (m:=ts.length-1) rfl rfl (by omega) (by omega) rfl ?_
  repeat' (first|refine is_ldA rfl rfl rfl (tr_part _) ?_|refine is_wImm2 rfl rfl (tr_wide _) (tr_wide _) (tr_imm 4 _) (tr_imm 4 _) ?_|refine is_appTk (ts:=ts) (ys:=[c,d]) rfl rfl (by omega) hele rfl hl2 ?_|refine ru_seq ?_|refine ru_reg ?_|refine is_mv rfl ?_|refine is_nil rfl ?_|refine rk_seq ?_|(refine is_neq rfl rfl (fun _=>?_) (fun _=>?_)<;>try (exfalso;omega))|refine ru_iteF rfl ?_|refine is_addS rfl rfl (by omega) ?_|refine ru_skip ?_|refine rk_blk ?_|refine rk_inv ?_)
  refine ⟨(i+1,ver+1,_,ts.take (ts.length-1)++[c,d],_),⟨rfl,rfl⟩,inv.step (by omega) (by omega) [c,d] ?_ (by simp only [List.length_cons,List.length_nil];omega),by simp only;omega⟩
  intro t ht
  simp only [List.mem_cons,List.not_mem_nil,or_false] at ht
  rcases ht with rfl|rfl
  ·exact ⟨hv1,by omega⟩
  ·exact ⟨hv3,by omega⟩
 ·exact ⟨(i+1,ver,es,ts,_),⟨rfl,rfl⟩,inv.same (by omega),by simp only;omega⟩
 ·rename_i y hy _ _ _ _ _ _ hn
  have hs:=ht y (List.mem_of_getElem? hy)
  obtain ⟨x,hx⟩:∃ x,ts[ts.length-1]?=some x:=⟨ts[ts.length-1]'(by omega),by simp [show ts.length-1<ts.length by omega]⟩
  obtain ⟨vx,bx⟩:=inv.vb x (List.mem_of_getElem? hx)
  have gx:es[0+((ts.length:Int)-1).toNat]?=some x.av:=by rw [show 0+((ts.length:Int)-1).toNat=ts.length-1 by omega];exact inv.get hx
  have px:=vx.pos.2
  have hWx:=fun L=>weight_c hN (hR L) vx (by omega)
  have hWxP:=fun L=>weight_c hN (hR L).allRo vx (by omega)
  have hpk:=pickM_bounds (x:=y.at_) (n:=x.bytes) px
  have hPk:=fun st=>pick_c y.at_ x.bytes px (by omega) st
  generalize pickM y.at_ x.bytes=a at *
  have hpk2:=pickM_bounds (x:=y.n) (n:=x.bytes-a) (by omega)
  have hPk2:=fun st=>pick_c y.n (x.bytes-a) (by omega) (by omega) st
  generalize pickM y.n (x.bytes-a)=b at *
  have hRe:=fun L=>Replace_c hN (hR L) vx (a:=a) (n:=b) (s:=y.text) hpk.1 hpk2.1 (by omega) (by omega) (by omega)
  have hok:=replM_ok hN vx (a:=a) (n:=b) (s:=y.text) hpk.1 hpk2.1 (by omega) (by omega) (by omega)
  have hve:=own_ve hok.ve
  have hby:=own_bytes (replM N x a b y.text)
  rw [hok.bytes] at hby
  generalize (replM N x a b y.text).own=c at *
  repeat' (first|refine is_ixRc rfl rfl (by omega) rfl ?_|refine is_ldc rfl rfl gx (tr_part _) ?_|refine is_ldA rfl rfl rfl rfl ?_|refine is_stA rfl rfl rfl rfl (tr_seal _ _ _) (tr_put _ _) rfl ?_|refine ru_seq ?_|refine ru_reg ?_|refine is_mv rfl ?_|refine is_fadr rfl rfl ?_|refine is_ext rfl rfl ?_|refine is_nil rfl ?_|refine rk_seq ?_|refine is_subS rfl rfl (by omega) ?_|refine is_callE rfl rfl (by first|rfl|(simp only [List.nil_append,List.append_nil,List.cons_append,weaks,tr_weak,forceL];first|done|rfl)) (hWx _) ?_|refine is_callE rfl rfl (by first|rfl|(simp only [List.nil_append,List.append_nil,List.cons_append,weaks,tr_weak,forceL];first|done|rfl)) (hPk _) ?_|refine is_callP rfl rfl rfl (hPk2 _) ?_|refine is_callE rfl rfl (by first|rfl|(simp only [List.nil_append,List.append_nil,List.cons_append,weaks,tr_weak,forceL];first|done|rfl)) (hRe _) ?_)
  refine is_slcRc (m:=ts.length-1) rfl rfl (by omega) (by omega) rfl ?_
  repeat' (first|refine is_ldA rfl rfl rfl (tr_part _) ?_|refine is_wImm1 rfl (tr_wide _) (tr_imm 4 _) ?_|refine is_appTk (ts:=ts) (ys:=[c]) rfl rfl (by omega) hele rfl (hl1 (by omega)) ?_|refine ru_seq ?_|refine ru_reg ?_|refine is_mv rfl ?_|refine is_nil rfl ?_|refine rk_seq ?_|(refine is_neq rfl rfl (fun _=>?_) (fun _=>?_)<;>try (exfalso;omega))|refine ru_iteF rfl ?_|refine is_addS rfl rfl (by omega) ?_|refine ru_skip ?_|refine rk_blk ?_|refine rk_inv ?_)
  refine ⟨(i+1,ver+1,_,ts.take (ts.length-1)++[c],_),⟨rfl,rfl⟩,inv.step (by omega) (by omega) [c] ?_ (by simp only [List.length_cons,List.length_nil];omega),by simp only;omega⟩
  intro t ht
  rw [List.mem_singleton] at ht
  subst ht
  exact ⟨hve,by omega⟩
 ·exact ⟨(i+1,ver,es,ts,_),⟨rfl,rfl⟩,inv.same (by omega),by simp only;omega⟩
 ·rename_i hn
  refine is_slcRc (m:=ts.length-1) rfl rfl (by omega) (by omega) rfl ?_
  repeat' (first|refine ru_seq ?_|refine ru_reg ?_|refine is_mv rfl ?_|refine is_nil rfl ?_|refine rk_seq ?_|(refine is_neq rfl rfl (fun _=>?_) (fun _=>?_)<;>try (exfalso;omega))|refine ru_iteF rfl ?_|refine is_addS rfl rfl (by omega) ?_|refine ru_skip ?_|refine rk_blk ?_|refine rk_inv ?_)
  refine ⟨(i+1,ver,es,ts.take (ts.length-1),_),⟨?_,rfl⟩,inv.pop (by omega) (by omega),by simp only;omega⟩
  simp only [List.length_take,Nat.min_eq_left (Nat.sub_le ts.length 1)]
  rfl
 ·exact ⟨(i+1,ver,es,ts,_),⟨rfl,rfl⟩,inv.same (by omega),by simp only;omega⟩
 ·obtain ⟨x,hx⟩:∃ x,ts[ts.length-1]?=some x:=⟨ts[ts.length-1]'(by omega),by simp [show ts.length-1<ts.length by omega]⟩
  obtain ⟨vx,bx⟩:=inv.vb x (List.mem_of_getElem? hx)
  have gx:es[0+((ts.length:Int)-1).toNat]?=some x.av:=by rw [show 0+((ts.length:Int)-1).toNat=ts.length-1 by omega];exact inv.get hx
  have px:=vx.pos.2
  have hWx:=fun L=>weight_c hN (hR L) vx (by omega)
  have hWxP:=fun L=>weight_c hN (hR L).allRo vx (by omega)
  have hve:=own_ve vx
  have hby:=own_bytes x
  have hCp:=fun st=>Copy_c x vx.pos.1 st
  generalize x.own=c at *
  repeat' (first|refine is_ixRc rfl rfl (by omega) rfl ?_|refine is_ldc rfl rfl gx (tr_part _) ?_|refine is_bslTr1 rfl ?_|refine is_appTk (ts:=ts) (ys:=[c]) rfl rfl (Nat.le_refl _) hele rfl (hl1 (Nat.le_refl _)) ?_|refine ru_seq ?_|refine ru_reg ?_|refine is_mv rfl ?_|refine is_nil rfl ?_|refine rk_seq ?_|(refine is_neq rfl rfl (fun _=>?_) (fun _=>?_)<;>try (exfalso;omega))|refine ru_iteF rfl ?_|refine is_addS rfl rfl (by omega) ?_|refine is_callE rfl rfl (by first|rfl|(simp only [List.nil_append,List.append_nil,List.cons_append,weaks,tr_weak,forceL];first|done|rfl)) (hCp _) ?_|refine ru_skip ?_|refine rk_blk ?_|refine rk_inv ?_)
  refine ⟨(i+1,ver+1,_,ts.take (ts.length)++[c],_),⟨rfl,rfl⟩,inv.step (by omega) (Nat.le_refl _) [c] ?_ (by simp only [List.length_cons,List.length_nil];omega),by simp only;omega⟩
  intro t ht
  rw [List.mem_singleton] at ht
  subst ht
  exact ⟨hve,by omega⟩
 ·exact ⟨(i+1,ver,es,ts,_),⟨rfl,rfl⟩,inv.same (by omega),by simp only;omega⟩
 ·exact ⟨(i+1,ver,es,ts,_),⟨rfl,rfl⟩,inv.same (by omega),by simp only;omega⟩
 ·obtain rfl:i=l.length:=by omega
  refine ⟨_,_,end_run hA (.inr rfl) rfl rfl rfl (rfl:(Blk.arr 7 ver es::G)[0]?=_) hele inv.es,rfl,es,ts,inv,rfl⟩
end Go.Q15
namespace Go.Q15
open Go Go.QAbs
set_option maxRecDepth 100000
set_option maxHeartbeats 8000000
section
variable {O:Orc} {k:List Fr} {Q:Post} {e:Env} {A:List (Bool × List Blk)} {L L0 T T':List Blk} {keep:List Nat} {is:List PI} {d:Nat}
theorem ru_regHA {js:List Nat} (hL:forceB (T++js.map Blk.hole)=some T') (h:Is O is keep k Q e ⟨A,false,L0++T'⟩):Ru O (.regH js keep is) k Q e ⟨A,false,L0++T⟩:=by
 rw [← forceB_some hL,← List.append_assoc] at h
 exact ru_regH h
theorem is_hereBox {j i w:Nat} {x:Opd} {v v':AV} (hx:opdO e x=some v) (hw:v.wide=some w) (hv:forceV v=some v') (hf:findH j T=some i) (hL:forceB (T.set i (Blk.arr w 0 [v']))=some T') (h:Is O is keep k Q ((d,.ptr A.length (L0.length+i) 0 0 0)::e) ⟨A,false,L0++T'⟩) :
 Is O (⟨some d,none,false,.w (.here j) (.box x)⟩::is) keep k Q e ⟨A,false,L0++T⟩:=by
 rw [← forceB_some hL,← set_app,← forceV_some hv] at h
 refine is_of (v:=.ptr A.length (L0.length+i) 0 0 0) (st':=⟨A,false,(L0++T).set (L0.length+i) (Blk.arr w 0 [v])⟩) ?_ h
 simp only [evalPI,evalW,newOf,opdO_some hx,hw,Option.bind_some,hereV,immB,and_self,if_true,findH_app hf,fillK]
end
theorem seal_tr1 (b:Nat) (st:St) (t:Tr) (k:IntKind) (n:Int):sealV deep b st (.tup [t.av,.int k n])=some (.tup [t.av,.int k n],st):=by
 show (mapSt (sealV 5 b) _ _).bind tupK=_
 rw [mapSt,tr_sealN 3];rfl
theorem seal_tr2 (b:Nat) (st:St) (t u:Tr) (k:IntKind) (n:Int):sealV deep b st (.tup [t.av,u.av,.int k n])=some (.tup [t.av,u.av,.int k n],st):=by
 show (mapSt (sealV 5 b) _ _).bind tupK=_
 rw [mapSt,tr_sealN 3]
 simp only [mapSt,Option.bind_some,tr_sealN 3];rfl
theorem inner_tr1 {g:FuncId} {ws:List AV} {A:List (Bool × List Blk)} {L:List Blk} {t:Tr} {k:IntKind} {n:Int} (hc:S Tb g ws ⟨A++[(false,L)],false,[]⟩=some (.tup [t.av,.int k n],⟨A++[(false,L)],false,[]⟩)):callM (S Tb) .inner g ws ⟨A,false,L⟩=some (.tup [t.av,.int k n],⟨A,false,L⟩) :=
 inner_of (st:=⟨A,false,L⟩) hc (seal_tr1 _ _ _ _ _)
theorem inner_tr2 {g:FuncId} {ws:List AV} {A:List (Bool × List Blk)} {L:List Blk} {t u:Tr} {k:IntKind} {n:Int} (hc:S Tb g ws ⟨A++[(false,L)],false,[]⟩=some (.tup [t.av,u.av,.int k n],⟨A++[(false,L)],false,[]⟩)):callM (S Tb) .inner g ws ⟨A,false,L⟩=some (.tup [t.av,u.av,.int k n],⟨A,false,L⟩) :=
 inner_of (st:=⟨A,false,L⟩) hc (seal_tr2 _ _ _ _ _ _)
theorem Rd.inner {A:List (Bool × List Blk)} {L:List Blk} {lv ix:Nat} {N:Nodes} (h:Rd ⟨A,false,L⟩ lv ix N):Rd ⟨A++[(false,L)],false,[]⟩ lv ix N:=h.push (st:=⟨A,false,L⟩) rfl
end Go.Q15
namespace Go.Q15
open Go Go.QAbs
set_option maxRecDepth 100000
set_option maxHeartbeats 16000000
theorem le_sum:∀ {l:List Nat} {n:Nat},n∈l→n≤l.sum
 | m::l,n,h=>by
  rw [List.sum_cons]
  rcases List.mem_cons.1 h with rfl|h
  ·omega
  ·have:=le_sum h;omega
theorem laid_c (texts:List (List UInt8)) (h4:texts.length≤4) (h9:(texts.map List.length).sum≤900) (A:List (Bool × List Blk)) :
 ∃ LL N rs rv,S Tb F_quartolaw15_Lay [.lit (texts.map .str)] ⟨A,false,[]⟩=some (.tup [.agg [.ptr A.length 6 0 0 0,.ptr A.length 11 0 0 0,rv],.bool true],⟨A,false,LL⟩)∧(rv=.nils∨∃ kx w n,rv=.ref A.length kx w 0 n) ∧
  (∀ T,Rd ⟨A,false,LL++T⟩ A.length 6 N)∧(∀ T,SlRo ⟨A,false,LL++T⟩ (weak rv) rs)∧GoodN N∧(∀ r∈rs,RootOk N r∧r.m.b≤900)∧rs.length≤4:=by
 obtain ⟨v,st',hS,L,N,Ia,Ib,rs,kx,inv,rfl,X,rfl⟩:=lay_c texts h4 h9 A []
 have hg:∀ j,1≤j→j<L.length→∀ T:List Blk,(L.set 0 X++T)[j]?=L[j]?:=by
  intro j h1 h2 T
  rw [List.getElem?_append_left (by simpa using h2),List.getElem?_set_ne (by omega)]
 obtain ⟨b,hb,hH,_⟩:=inv.pa
 have hb1:b=1:=by simp at hb;omega
 subst hb1
 have hlt:=hH.lt
 refine ⟨_,N,rs,rvV A.length kx rs,hS,?_,fun T=>?_,fun T=>?_,inv.good,fun r hr=>⟨inv.roots r hr,?_⟩,by rw [inv.rlen];exact h4⟩
 ·cases rs with
  | nil=>exact .inl rfl
  | cons r rs=>exact .inr ⟨_,_,_,rfl⟩
 ·exact (hH.frame (fun i h1 h2=>hg i (by omega) (by omega) T)).rd
 ·cases rs with
  | nil=>exact SlRo.lit []
  | cons r rs =>
   obtain ⟨k1,_,_,k4⟩:=inv.kb (by simp)
   simp only [List.length_nil] at k4
   have kl:=(List.getElem?_eq_some_iff.1 k1).1
   exact .ref (cur_get (by rw [show ([]:List Blk).length+0=0 from rfl,hg kx (by omega) kl T];exact k1)) rfl (by rw [List.take_of_length_le (by simp)])
 ·obtain ⟨j,hj⟩:=List.mem_iff_getElem?.1 hr
  have hjl:=(List.getElem?_eq_some_iff.1 hj).1
  rw [inv.rlen] at hjl
  have hs:texts[j]?=some (texts[j]'hjl):=by simp [hjl]
  rw [inv.rb j r _ hj hs]
  have:(texts[j]'hjl).length≤(texts.map List.length).sum:=by
   have hm:texts[j]'hjl∈texts:=List.getElem_mem _
   exact le_sum (List.mem_map_of_mem hm)
  omega
end Go.Q15
namespace Go.Q15
open Go Go.QAbs
set_option maxRecDepth 100000
set_option maxHeartbeats 16000000
theorem wkPTI {lv ix:Nat} {t:Tr} {n:Int}:forceL (weaks ([]++[.ptr lv ix 0 0 0,t.av,.int .i64 n]++[]))=some [.ptr lv ix 0 0 0,t.av,.int .i64 n]:=by
 simp only [List.nil_append,List.append_nil,List.cons_append,weaks,tr_weak,forceL];rfl
theorem wkPTT {lv ix:Nat} {t u:Tr}:forceL (weaks ([]++[.ptr lv ix 0 0 0,t.av,u.av]++[]))=some [.ptr lv ix 0 0 0,t.av,u.av]:=by
 simp only [List.nil_append,List.append_nil,List.cons_append,weaks,tr_weak,forceL];rfl
theorem is_ixMk {O:Orc} {k:List Fr} {Q:Post} {e:Env} {st:St} {keep:List Nat} {is:List PI} {d:Nat} {α:Type} {f:α→AV} {l:List α} {w:Nat} {x i:Opd} {n:Int} {a:α} (hx:opdO e x=some (.lit (l.map f))) (hi:opdO e i=some (.int .i64 n)) (ha:0≤n∧l[n.toNat]?=some a) (hw:∀ a,(f a).wide=some w)
 (h:Is O is keep k Q ((d,.lptr (f a) 0)::e) st):Is O (⟨some d,none,false,.ixS w x i⟩::is) keep k Q e st:=by
 have hlt:=(List.getElem?_eq_some_iff.1 ha.2).1
 refine is_ixM hx hi (by omega) hw (fun b hb=>?_)
 rw [ha.2] at hb
 rw [← Option.some.inj hb];exact h
theorem bytes_le {N:Nodes} {x y:Tr} {l:List Tr} (h:MergeOk N x y l) {z:Tr} (hz:z∈l):z.bytes≤x.bytes+y.bytes:=by
 rw [← h.bytes]
 have key:∀ l:List Tr,(∀ t∈l,0≤t.bytes)→z∈l→z.bytes≤Tr.bytesL l:=by
  intro l
  induction l with
  | nil=>intro _ h;simp at h
  | cons t l ih =>
   intro hp hz
   rw [Tr.bytesL]
   have h1:=hp t (by simp)
   have h2:=Tr.bytesL_nonneg (l:=l) (fun u hu=>hp u (by simp [hu]))
   rcases List.mem_cons.1 hz with rfl|q
   ·omega
   ·have:=ih (fun u hu=>hp u (by simp [hu])) q
    omega
 exact key l (fun t ht=>(h.val t ht).pos.1.nonneg) hz
end Go.Q15
namespace Go.Q15
open Go Go.QAbs
set_option maxRecDepth 100000
set_option maxHeartbeats 16000000
theorem wkRun {lv ix:Nat} {rv:AV} {l:List AV}:forceL (weaks ([]++[.ptr lv ix 0 0 0,rv,.lit l]++[]))=some [.ptr lv ix 0 0 0,weak rv,.lit l]:=by
 simp only [List.nil_append,List.append_nil,List.cons_append,weaks,forceL];rfl
end Go.Q15
namespace Go.Q15
open Go Go.QAbs
set_option maxRecDepth 100000
set_option maxHeartbeats 8000000
theorem refZero_kept (t:Tr) (ht:IsKept t) (st:St):S Tb F_quartoref15_Zero [t.av] st=some (.bool false,st):=by
 obtain ⟨o,h,m,s,k⟩:=t
 obtain ⟨h1,h4,h5⟩:=ht
 simp only [Tr.old,Tr.h,Tr.m,Tr.text,Tr.ks] at h1 h4 h5
 subst h4
 refine s_of rfl (fun A hA=>?_)
 cases k with
 | none =>
  repeat' (first|refine ru_seq ?_|refine ru_reg ?_|refine is_mv rfl ?_|refine is_fadr rfl rfl ?_|refine is_ldc rfl rfl rfl rfl ?_|refine is_gF rfl rfl ?_|refine is_pick rfl rfl rfl rfl ?_|refine is_nil rfl ?_|refine rk_seq ?_|(refine is_eql rfl rfl (fun _=>?_) (fun _=>?_)<;>try (exfalso;omega))|refine is_box rfl rfl rfl ?_|refine ru_ret ?_|refine rk_nil ?_)
  all_goals try (exfalso;omega)
  all_goals refine end_st hA (by first|exact .inl rfl|exact .inr rfl) rfl rfl rfl rfl ?_
  all_goals rfl
 | some l =>
  have:l=[]:=h5
  subst this
  repeat' (first|refine ru_seq ?_|refine ru_reg ?_|refine is_mv rfl ?_|refine is_fadr rfl rfl ?_|refine is_ldc rfl rfl rfl rfl ?_|refine is_gF rfl rfl ?_|refine is_pick rfl rfl rfl rfl ?_|refine is_nil rfl ?_|refine rk_seq ?_|(refine is_eql rfl rfl (fun _=>?_) (fun _=>?_)<;>try (exfalso;omega))|refine is_box rfl rfl rfl ?_|refine ru_ret ?_|refine rk_nil ?_)
  all_goals try (exfalso;omega)
  all_goals refine end_st hA (by first|exact .inl rfl|exact .inr rfl) rfl rfl rfl rfl ?_
  all_goals rfl
theorem refZero_val {N:Nodes} {t:Tr} (hv:Val N t) (st:St):S Tb F_quartoref15_Zero [t.av] st=some (.bool false,st):=by
 cases hv with
 | @kept o h m k x h0 hx hok hh hm hk=>exact refZero_kept (.mk o h m [] k) ⟨h0,rfl,hk⟩ st
 | @leaf s k h1 h2 hk=>exact refZero_leaf (.mk 0 0 .zero s k) ⟨rfl,rfl,rfl,h1,h2,hk⟩ st
 | @inner h l hh h2 h4 hl hb hv=>exact refZero_inner (.mk 0 (h+1) .zero [] (some l)) ⟨rfl,rfl,rfl,Nat.succ_le_succ (Nat.zero_le _),hh,h2,h4⟩ st
theorem is_ixKn {O:Orc} {k:List Fr} {Q:Post} {e:Env} {st:St} {keep:List Nat} {is:List PI} {d:Nat} {α:Type} {f:α→AV} {l:List α} {w:Nat} {x i:Opd} {n:Int} {a:α} (hx:opdO e x=some (.lit (l.map f))) (hi:opdO e i=some (.int .i64 n)) (ha:0≤n∧l[n.toNat]?=some a) (hw:∀ a,(f a).wide=some w)
 (h:Is O is keep k Q ((d,.lptr (f a) 0)::e) st):Is O (⟨some d,none,false,.ixS w x i⟩::is) keep k Q e st:=by
 have hlt:=(List.getElem?_eq_some_iff.1 ha.2).1
 refine is_ixM hx hi (by omega) hw (fun b hb=>?_)
 rw [ha.2] at hb
 rw [← Option.some.inj hb];exact h
theorem lawCount_c {N:Nodes} (hN:GoodN N):∀ (n:Nat) (t:Tr),Val N t→t.h=n→t.bytes≤65536→∀ {st:St} {lv ix:Nat},Rd st lv ix N→S Tb F_quartolaw15_count [.ptr lv ix 0 0 0,t.av] st=some (.int .i64 (cntF N n t),st):=by
 intro n
 induction n with
 | zero =>
  intro t hv hh hb st lv ix hr
  have hZ:=fun st=>refZero_val hv st
  refine s_of rfl (fun A hA=>?_)
  cases hv with
  | kept h0 hx hok hh2 hm hk =>
   rename_i o h m k x
   simp only [Tr.h] at hh
   subst hh
   have hxl:x.ks=[]:=by
    rcases hok with q|⟨n,ks,q⟩
    ·exact q.ks
    ·have:=q.eq;subst this;simp at hh2
   have hG:=fun L=>Get_c (hr.push hA (ro:=false) (L:=L)) hx hok.len
   have hc:x.copy.kids.getD []=[]:=by have:x.copy.ks=[]:=hxl;exact this
   generalize x.copy=y at *
   obtain ⟨yh,yt,yk⟩:=y
   cases k
   all_goals cases yk
   all_goals simp only [Option.getD] at hc hk
   all_goals try subst hc
   all_goals try subst hk
   all_goals simp only [Tr.av,Tr.avO,Tr.avL_map,Nd.av,slV,List.map_nil] at *
   all_goals repeat' (first|refine ru_seq ?_|refine ru_reg ?_|refine is_mv rfl ?_|refine is_fadr rfl rfl ?_|refine is_ldc rfl rfl rfl rfl ?_|refine is_ext rfl rfl ?_|refine is_nil rfl ?_|refine rk_seq ?_|refine is_lenF rfl rfl ?_|refine is_lenN rfl ?_|(refine is_lss rfl rfl (fun _=>?_) (fun _=>?_)<;>try (exfalso;omega))|(refine is_eql rfl rfl (fun _=>?_) (fun _=>?_)<;>try (exfalso;omega))|refine ru_iteF rfl ?_|refine is_box rfl rfl rfl ?_|refine is_stb rfl rfl rfl rfl rfl rfl ?_|refine is_callE rfl rfl (by first|rfl|(simp only [List.nil_append,List.append_nil,List.cons_append,weaks,tr_weak,forceL];first|done|rfl)) (hZ _) ?_|refine is_callE rfl rfl (by first|rfl|(simp only [List.nil_append,List.append_nil,List.cons_append,weaks,tr_weak,forceL];first|done|rfl)) (hG _) ?_|refine ru_unroll ?_|refine ru_skip ?_|refine ru_ret ?_|refine ru_exit ?_|refine ru_block ?_|refine rk_nil ?_|refine rk_seq_ex ?_|refine rk_blk_eq rfl ?_)
   all_goals try (exfalso;omega)
   all_goals refine end_st hA (by first|exact .inl rfl|exact .inr rfl) rfl rfl rfl rfl ?_
   all_goals rfl
  | leaf h1 h2 hk =>
   rename_i s k
   cases k
   all_goals simp only [Option.getD] at hk
   all_goals try subst hk
   all_goals simp only [Tr.av,Tr.avO,Tr.avL_map,List.map_nil] at *
   all_goals repeat' (first|refine ru_seq ?_|refine ru_reg ?_|refine is_mv rfl ?_|refine is_fadr rfl rfl ?_|refine is_ldc rfl rfl rfl rfl ?_|refine is_nil rfl ?_|refine rk_seq ?_|refine is_lenF rfl rfl ?_|refine is_lenN rfl ?_|(refine is_lss rfl rfl (fun _=>?_) (fun _=>?_)<;>try (exfalso;omega))|(refine is_eql rfl rfl (fun _=>?_) (fun _=>?_)<;>try (exfalso;omega))|refine ru_iteT rfl ?_|refine ru_iteF rfl ?_|refine is_box rfl rfl rfl ?_|refine is_callE rfl rfl (by first|rfl|(simp only [List.nil_append,List.append_nil,List.cons_append,weaks,tr_weak,forceL];first|done|rfl)) (hZ _) ?_|refine ru_unroll ?_|refine ru_skip ?_|refine ru_ret ?_|refine ru_exit ?_|refine ru_block ?_|refine rk_nil ?_|refine rk_seq_ret ?_|refine rk_seq_ex ?_|refine rk_blk_eq rfl ?_)
   all_goals try (exfalso;omega)
   all_goals refine end_st hA (by first|exact .inl rfl|exact .inr rfl) rfl rfl rfl rfl ?_
   all_goals rfl
  | inner hh h2 h4 hl hb hv=>simp [Tr.h] at hh
 | succ n ih =>
  intro t hv hh hb st lv ix hr
  have hZ:=fun st=>refZero_val hv st
  have hcb:=cnt_bytes hN (n+1) t hv hh
  have hv0:=hv
  refine s_of rfl (fun A hA=>?_)
  cases hv with
  | kept h0 hx hok hh2 hm hk =>
   rename_i o h m k x
   simp only [Tr.h] at hh
   subst hh
   obtain ⟨c1,c2,c3,c4⟩:=childs_ok hN hv0 (by simp [Tr.h])
   obtain ⟨n2,ks,q⟩:∃ n ks,InnerOk x n ks:=by
    rcases hok with q|q
    ·have:=q.h;omega
    ·exact q
   have:=q.eq;subst this
   simp only at hh2
   obtain rfl:n2=n:=by omega
   have hG:=fun L=>Get_c (hr.push hA (ro:=false) (L:=L)) hx hok.len
   have hl:childs N (.mk o (n2+1) m [] k)=ks.map (keptKid n2):=by simp only [childs,if_neg h0,hx];rfl
   have hks:=q.hi
   have hn15:=q.n15
   simp only [Nd.copy,Nd.ks,Option.getD,Nd.av,slV] at hG
   rw [cntF,hl] at hcb ⊢
   rw [hl] at c1 c4
   have hB:∀ kd∈ks,(keptKid n2 kd).bytes≤65536:=by
    intro kd hkd
    have h1:(keptKid n2 kd)∈ks.map (keptKid n2):=List.mem_map_of_mem hkd
    have h2:∀ l:List Tr,(∀ t∈l,0≤t.bytes)→∀ u∈l,u.bytes≤Tr.bytesL l:=by
     intro l
     induction l with
     | nil=>intro _ u hu;simp at hu
     | cons a l ih =>
      intro hp u hu
      rw [Tr.bytesL]
      have h3:=hp a (by simp)
      have h4:=Tr.bytesL_nonneg (l:=l) (fun w hw=>hp w (by simp [hw]))
      rcases List.mem_cons.1 hu with rfl|w
      ·omega
      ·have:=ih (fun w hw=>hp w (by simp [hw])) u w;omega
    have:=h2 _ (fun t ht=>by have:=(c1 t ht).1.pos.2;omega) _ h1
    omega
   have key:∀ K Q tav,(∀ G,Rk (S Tb) K Q (.ex 2) [(0,.ptr lv ix 0 0 0),(3,.ptr A.length 0 0 0 0),(5,.int .i64 ((1+sumT (cntF N n2) (ks.map (keptKid n2)):Nat):Int)),(7,.ptr A.length 1 0 0 0),(9,.int .i64 ks.length),(43,.bool false)] ⟨A,false,.arr 7 0 [tav]::.arr 3 0 [.agg [.int .i64 ((n2+1:Nat):Int),.str [],.lit (ks.map Kid.av)]]::G⟩) →
    (tav=.agg [.int .u64 o,.int .i64 ((n2+1:Nat):Int),.int .i64 m.b,.int .i64 m.r,.int .i64 m.l,.str [],.nils]∨tav=.agg [.int .u64 o,.int .i64 ((n2+1:Nat):Int),.int .i64 m.b,.int .i64 m.r,.int .i64 m.l,.str [],.lit []]) →
    Ru (S Tb) (.loop p_quartolaw15_count_16) K Q [(0,.ptr lv ix 0 0 0),(3,.ptr A.length 0 0 0 0),(5,.int .i64 1),(7,.ptr A.length 1 0 0 0),(9,.int .i64 0)] ⟨A,false,[.arr 7 0 [tav],.arr 3 0 [.agg [.int .i64 ((n2+1:Nat):Int),.str [],.lit (ks.map Kid.av)]]]⟩:=by
    intro K Q tav hex htav
    refine ru_loopP (α:=Nat) (fun i=>[(0,.ptr lv ix 0 0 0),(3,.ptr A.length 0 0 0 0),(5,.int .i64 ((1+sumT (cntF N n2) ((ks.take i).map (keptKid n2)):Nat):Int)),(7,.ptr A.length 1 0 0 0),(9,.int .i64 i)])
     (fun i=>⟨A,false,[.arr 7 0 [tav],.arr 3 0 [.agg [.int .i64 ((n2+1:Nat):Int),.str [],.lit (ks.map Kid.av)]]]⟩) (fun i=>i≤ks.length) (fun i=>ks.length-i) 0 rfl rfl (by simp) ?_
    intro i hi
    have hs1:sumT (cntF N n2) ((ks.take i).map (keptKid n2))≤sumT (cntF N n2) (ks.map (keptKid n2)):=by rw [List.map_take];exact sumT_take _ _ _
    have hs2:sumT (cntF N n2) ((ks.take (i+1)).map (keptKid n2))≤sumT (cntF N n2) (ks.map (keptKid n2)):=by rw [List.map_take];exact sumT_take _ _ _
    rcases Nat.lt_or_ge i ks.length with hlt|hge
    ·obtain ⟨kd,hk2⟩:∃ kd,ks[i]?=some kd:=⟨ks[i]'hlt,by simp [hlt]⟩
     have hk3:0≤((i:Nat):Int)∧ks[((i:Nat):Int).toNat]?=some kd:=⟨by omega,by rw [show ((i:Nat):Int).toNat=i by omega];exact hk2⟩
     have hkm:=List.mem_of_getElem? hk2
     have h5:=fun L=>ih (keptKid n2 kd) (c1 _ (List.mem_map_of_mem hkm)).1 rfl (hB kd hkm) (hr.push hA (ro:=false) (L:=L))
     rw [take_succ_get hk2,List.map_append,sumT_append] at hs2
     simp only [List.map_cons,List.map_nil,sumT] at hs2
     have hfin:(1+sumT (cntF N n2) ((ks.take i).map (keptKid n2)):Nat)+((cntF N n2 (keptKid n2 kd):Nat):Int)=((1+sumT (cntF N n2) ((ks.take (i+1)).map (keptKid n2)):Nat):Int):=by
      rw [take_succ_get hk2,List.map_append,sumT_append]
      simp only [List.map_cons,List.map_nil,sumT]
      omega
     generalize cntF N n2 (keptKid n2 kd)=cc at *
     simp only [keptKid,Tr.av,Tr.avO] at h5
     rw [show ((n2:Nat):Int)=((n2+1:Nat):Int)-1 by omega] at h5
     rcases htav with rfl|rfl
     all_goals repeat' (first|refine is_ixKn rfl rfl hk3 (fun _=>rfl) ?_|refine ru_seq ?_|refine ru_reg ?_|refine is_mv rfl ?_|refine is_fadr rfl rfl ?_|refine is_ldc rfl rfl rfl rfl ?_|refine is_nil rfl ?_|refine rk_seq ?_|refine is_lenM rfl ?_|refine is_ldl rfl rfl ?_|(refine is_lss rfl rfl (fun _=>?_) (fun _=>?_)<;>try (exfalso;omega))|refine ru_iteT rfl ?_|refine is_addS rfl rfl (by omega) ?_|refine is_subS rfl rfl (by omega) ?_|refine is_buildO rfl rfl rfl ?_|refine is_callE rfl rfl rfl (h5 _) ?_|refine ru_skip ?_|refine ru_block ?_|refine rk_blk ?_|refine rk_inv ?_)
     all_goals refine ⟨i+1,⟨?_,rfl⟩,by omega,by omega⟩
     all_goals rw [← hfin]
     all_goals rfl
    ·obtain rfl:i=ks.length:=by omega
     have:=hex []
     rw [List.take_length]
     rcases htav with rfl|rfl
     all_goals repeat' (first|refine ru_seq ?_|refine ru_reg ?_|refine is_mv rfl ?_|refine is_fadr rfl rfl ?_|refine is_ldc rfl rfl rfl rfl ?_|refine is_nil rfl ?_|refine rk_seq ?_|refine is_lenM rfl ?_|(refine is_lss rfl rfl (fun _=>?_) (fun _=>?_)<;>try (exfalso;omega))|refine ru_iteF rfl ?_|refine ru_exit ?_|refine rk_seq_ex ?_|refine rk_inv_ex ?_)
     all_goals exact this
   cases k
   all_goals simp only [Option.getD] at hk
   all_goals try subst hk
   all_goals simp only [Tr.av,Tr.avO,Tr.avL_map,List.map_nil] at *
   all_goals repeat' (first|refine ru_seq ?_|refine ru_reg ?_|refine is_mv rfl ?_|refine is_fadr rfl rfl ?_|refine is_ldc rfl rfl rfl rfl ?_|refine is_ext rfl rfl ?_|refine is_nil rfl ?_|refine rk_seq ?_|(refine is_eql rfl rfl (fun _=>?_) (fun _=>?_)<;>try (exfalso;omega))|refine ru_iteF rfl ?_|refine is_box rfl rfl rfl ?_|refine is_stb rfl rfl rfl rfl rfl rfl ?_|refine is_callE rfl rfl (by first|rfl|(simp only [List.nil_append,List.append_nil,List.cons_append,weaks,tr_weak,forceL];first|done|rfl)) (hZ _) ?_|refine is_callE rfl rfl (by first|rfl|(simp only [List.nil_append,List.append_nil,List.cons_append,weaks,tr_weak,forceL];first|done|rfl)) (hG _) ?_|refine ru_skip ?_|refine ru_block ?_)
   all_goals try (exfalso;omega)
   all_goals refine key _ _ _ (fun G=>?_) (by first|exact .inl rfl|exact .inr rfl)
   all_goals repeat' (first|refine ru_seq ?_|refine ru_reg ?_|refine is_mv rfl ?_|refine is_nil rfl ?_|refine rk_seq ?_|refine ru_ret ?_|refine rk_nil ?_|refine rk_blk_eq rfl ?_)
   all_goals refine end_st hA (by first|exact .inl rfl|exact .inr rfl) rfl rfl rfl rfl ?_
   all_goals rfl
  | leaf h1 h2 hk=>simp [Tr.h] at hh
  | inner hh2 h2 h4 hl hbg hv =>
   rename_i h l
   simp only [Tr.h,Nat.add_right_cancel_iff] at hh
   subst hh
   obtain ⟨c1,c2,c3,c4⟩:=childs_ok hN hv0 (by simp [Tr.h])
   have hcl:childs N (.mk 0 (h+1) .zero [] (some l))=l:=rfl
   rw [cntF,hcl] at hcb ⊢
   rw [hcl] at c1 c4
   have hB:∀ u∈l,u.bytes≤65536:=by
    have h2:∀ l:List Tr,(∀ t∈l,0≤t.bytes)→∀ u∈l,u.bytes≤Tr.bytesL l:=by
     intro l
     induction l with
     | nil=>intro _ u hu;simp at hu
     | cons a l ih =>
      intro hp u hu
      rw [Tr.bytesL]
      have h3:=hp a (by simp)
      have h4:=Tr.bytesL_nonneg (l:=l) (fun w hw=>hp w (by simp [hw]))
      rcases List.mem_cons.1 hu with rfl|w
      ·omega
      ·have:=ih (fun w hw=>hp w (by simp [hw])) u w;omega
    intro u hu
    have:=h2 _ (fun t ht=>by have:=(c1 t ht).1.pos.2;omega) u hu
    omega
   simp only [Tr.av,Tr.avO,Tr.avL_map,Mea.zero] at hZ ⊢
   repeat' (first|refine ru_seq ?_|refine ru_reg ?_|refine is_mv rfl ?_|refine is_fadr rfl rfl ?_|refine is_ldc rfl rfl rfl rfl ?_|refine is_nil rfl ?_|refine rk_seq ?_|(refine is_eql rfl rfl (fun _=>?_) (fun _=>?_)<;>try (exfalso;omega))|refine ru_iteT rfl ?_|refine ru_iteF rfl ?_|refine is_box rfl rfl rfl ?_|refine is_callE rfl rfl (by first|rfl|(simp only [List.nil_append,List.append_nil,List.cons_append,weaks,tr_weak,forceL];first|done|rfl)) (hZ _) ?_|refine ru_skip ?_|refine ru_block ?_)
   all_goals try (exfalso;omega)
   refine ru_loopP (α:=Nat) (fun i=>[(0,.ptr lv ix 0 0 0),(3,.ptr A.length 0 0 0 0),(5,.int .i64 ((1+sumT (cntF N h) (l.take i):Nat):Int)),(6,.int .i64 i)])
    (fun i=>⟨A,false,[.arr 7 0 [.agg [.int .u64 (0:Nat),.int .i64 ((h+1:Nat):Int),.int .i64 0,.int .i64 0,.int .i64 0,.str [],.lit (l.map Tr.av)]]]⟩) (fun i=>i≤l.length) (fun i=>l.length-i) 0 rfl rfl (by simp) ?_
   intro i hi
   have hs1:=sumT_take (cntF N h) l i
   have hs2:=sumT_take (cntF N h) l (i+1)
   repeat' (first|refine ru_seq ?_|refine ru_reg ?_|refine is_mv rfl ?_|refine is_fadr rfl rfl ?_|refine is_ldc rfl rfl rfl rfl ?_|refine is_nil rfl ?_|refine rk_seq ?_|refine is_lenM rfl ?_|(refine is_lss rfl rfl (fun _=>?_) (fun _=>?_)<;>try (exfalso;omega))|refine ru_iteT rfl ?_|refine ru_iteF rfl ?_|refine is_ixM rfl rfl (by omega) tr_wide (fun _ _=>?_)|refine is_ldl rfl (tr_part _) ?_|refine ru_skip ?_|refine ru_ret ?_|refine ru_exit ?_|refine ru_block ?_|refine rk_nil ?_|refine rk_seq_ret ?_|refine rk_seq_ex ?_|refine rk_blk_eq rfl ?_|refine rk_inv_ex ?_)
   ·rename_i u hu
    have hu2:l[i]?=some u:=hu
    have hum:=List.mem_of_getElem? hu2
    have h5:=fun L=>ih u (c1 u hum).1 (by have h1:u.h+1=h+1:=(c1 u hum).2.1;omega) (hB u hum) (hr.push hA (ro:=false) (L:=L))
    rw [take_succ_get hu2,sumT_append] at hs2
    simp only [sumT] at hs2
    repeat' (first|refine ru_reg ?_|refine is_mv rfl ?_|refine is_nil rfl ?_|refine rk_seq ?_|refine is_addS rfl rfl (by omega) ?_|refine is_callE rfl rfl (by first|rfl|(simp only [List.nil_append,List.append_nil,List.cons_append,weaks,tr_weak,forceL];first|done|rfl)) (h5 _) ?_|refine rk_blk ?_|refine rk_inv ?_)
    refine ⟨i+1,⟨?_,rfl⟩,by omega,by omega⟩
    rw [take_succ_get hu2,sumT_append]
    simp only [sumT]
    rw [show ((1+sumT (cntF N h) (l.take i):Nat):Int)+((cntF N h u:Nat):Int)=((1+(sumT (cntF N h) (l.take i)+(cntF N h u+0)):Nat):Int) by omega]
    rfl
   ·have hi':i=l.length:=by omega
    subst hi'
    rw [List.take_length]
    skip
    refine end_st hA (by first|exact .inl rfl|exact .inr rfl) rfl rfl rfl rfl ?_
    rfl
end Go.Q15
namespace Go.Q15
open Go Go.QAbs
set_option maxRecDepth 100000
set_option maxHeartbeats 8000000
theorem kept_walk (t:Tr):Fresh t→t.Pos→∀ {st:St} {lv i1 i2 wb:Nat},st.get lv wb=some (.arr 1 0 [.func (.func F_plan_KeptC1) [] [.ptr lv i1 0 0 0,.ptr lv i2 0 0 0,.ptr lv wb 0 0 0]]) →
 S Tb F_plan_KeptC1 [t.av,.ptr lv i1 0 0 0,.ptr lv i2 0 0 0,.ptr lv wb 0 0 0] st=some (.tup [],st):=by
 induction t using Tr.ind with
 | step o h m s k ih =>
  intro hf hp st lv i1 i2 wb hw
  cases hf with
  | mk hk =>
  cases hp with
  | mk h0 h4 hk2 =>
  refine s_of rfl (fun A hA=>?_)
  have hg:=fun L=>get_old hA (ro:=false) (L:=L) hw
  cases k with
  | none =>
   simp only [Tr.av,Tr.avO]
   repeat' (first|refine ru_seq ?_|refine ru_reg ?_|refine is_mv rfl ?_|refine is_fadr rfl rfl ?_|refine is_ldc rfl rfl rfl rfl ?_|refine is_gF rfl rfl ?_|refine is_pick rfl rfl rfl rfl ?_|refine is_nil rfl ?_|refine rk_seq ?_|refine is_lenN rfl ?_|(refine is_lss rfl rfl (fun _=>?_) (fun _=>?_)<;>try (exfalso;omega))|(refine is_neq rfl rfl (fun _=>?_) (fun _=>?_)<;>try (exfalso;omega))|refine ru_iteF rfl ?_|refine is_box rfl rfl rfl ?_|refine ru_unroll ?_|refine ru_skip ?_|refine ru_exit ?_|refine ru_block ?_|refine rk_nil ?_|refine rk_seq_ex ?_|refine rk_blk_eq rfl ?_)
   all_goals try contradiction
   all_goals try (exfalso;omega)
   refine end_st hA (by first|exact .inl rfl|exact .inr rfl) rfl rfl rfl rfl ?_
   rfl
  | some l =>
   simp only [Option.getD] at hk h4 hk2 ih
   simp only [Tr.av,Tr.avO,Tr.avL_map]
   repeat' (first|refine ru_seq ?_|refine ru_reg ?_|refine is_mv rfl ?_|refine is_fadr rfl rfl ?_|refine is_ldc rfl rfl rfl rfl ?_|refine is_gF rfl rfl ?_|refine is_pick rfl rfl rfl rfl ?_|refine is_nil rfl ?_|refine rk_seq ?_|refine is_lenM rfl ?_|(refine is_neq rfl rfl (fun _=>?_) (fun _=>?_)<;>try (exfalso;omega))|refine ru_iteF rfl ?_|refine is_box rfl rfl rfl ?_|refine ru_skip ?_|refine ru_block ?_)
   all_goals try contradiction
   refine ru_loopP (α:=Nat × List Blk) (fun p=>[(3,.ptr lv wb 0 0 0),(26,.lit (l.map Tr.av)),(27,.int .i64 l.length),(28,.int .i64 p.1)])
    (fun p=>⟨A,false,.arr 7 0 [.agg [.int .u64 (0:Nat),.int .i64 h,.int .i64 m.b,.int .i64 m.r,.int .i64 m.l,.str s,.lit (l.map Tr.av)]]::p.2⟩) (fun p=>p.1≤l.length) (fun p=>l.length-p.1) (0,[]) rfl rfl (by simp) ?_
   rintro ⟨i,G⟩ hi
   simp only at hi ⊢
   repeat' (first|refine ru_seq ?_|refine ru_reg ?_|refine is_nil rfl ?_|refine rk_seq ?_|(refine is_lss rfl rfl (fun _=>?_) (fun _=>?_)<;>try (exfalso;omega))|refine ru_iteT rfl ?_|refine ru_iteF rfl ?_|refine is_boxG rfl rfl rfl ?_|refine is_ixM rfl rfl (by omega) tr_wide (fun _ _=>?_)|refine is_ldl rfl (tr_part _) ?_|refine is_stT rfl rfl rfl (tr_seal _ _ _) (tr_put _ _) rfl ?_|refine ru_skip ?_|refine ru_exit ?_|refine ru_block ?_|refine rk_nil ?_|refine rk_seq_ex ?_|refine rk_blk_eq rfl ?_|refine rk_inv_ex ?_)
   ·rename_i u hu
    have hu2:l[i]?=some u:=hu
    have hum:=List.mem_of_getElem? hu2
    have h5:=fun L=>ih u hum (hk u hum) (hk2 u hum) (hg L)
    refine is_ld rfl (hg _) rfl rfl ?_
    repeat' (refine is_ldT rfl rfl (tr_part _) ?_)
    refine is_callE rfl rfl (wk4 _ _ _ _ rfl rfl rfl) (h5 _) ?_
    repeat' (first|refine ru_reg ?_|refine is_mv rfl ?_|refine is_nil rfl ?_|refine rk_seq ?_|refine is_addS rfl rfl (by omega) ?_|refine rk_blk ?_|refine rk_inv ?_)
    exact ⟨(i+1,G++[.arr 7 0 [u.av]]),⟨rfl,rfl⟩,by simp only;omega,by simp only;omega⟩
   ·refine end_st hA (by first|exact .inl rfl|exact .inr rfl) rfl rfl rfl rfl ?_
    rfl
theorem seal_mapK {b lv ix:Nat} (st:St) (h:lv<b):sealV deep b st (.map lv ix)=some (.map lv ix,st):=by
 simp only [sealV,deep,if_pos h]
theorem Kept_fresh {t:Tr} (hf:Fresh t) (hp:t.Pos) (st:St):S Tb F_plan_Kept [t.av] st=some (.lit [],st):=by
 refine s_of rfl (fun A hA=>?_)
 have hW:∀ L,L=[.arr 7 0 [t.av],.arr 1 0 [],.arr 1 0 [.ref A.length 1 0 0 0],.map [],.arr 1 0 [.map A.length 3],.arr 1 0 [.func (.func F_plan_KeptC1) [] [.ptr A.length 4 0 0 0,.ptr A.length 2 0 0 0,.ptr A.length 5 0 0 0]]] →
  S Tb F_plan_KeptC1 [t.av,.ptr A.length 4 0 0 0,.ptr A.length 2 0 0 0,.ptr A.length 5 0 0 0] ⟨A,false,L⟩=some (.tup [],⟨A,false,L⟩):=by
  rintro L rfl
  exact kept_walk t hf hp (by rw [St.get_cur];rfl)
 repeat' (first|refine ru_seq ?_|refine ru_reg ?_|refine is_mv rfl ?_|refine is_ldc rfl rfl rfl rfl ?_|refine is_nil rfl ?_|refine rk_seq ?_|refine is_mkf rfl rfl ?_|refine is_box rfl rfl rfl ?_|refine is_boxnil rfl ?_|refine is_mkmap rfl ?_|refine is_ldc rfl rfl rfl (tr_part _) ?_|refine is_boxG rfl (tr_wide _) (tr_force _) ?_|refine is_stb rfl rfl rfl (seal_mapK _ (Nat.lt_succ_self _)) rfl rfl ?_|refine is_stb rfl rfl rfl (seal_fn3 _ (Nat.lt_succ_self _)) rfl rfl ?_)
 refine is_callE rfl rfl (wk4 _ _ _ _ rfl rfl rfl) (hW _ rfl) ?_
 repeat' (first|refine ru_seq ?_|refine ru_reg ?_|refine is_mv rfl ?_|refine is_ldc rfl rfl rfl rfl ?_|refine is_nil rfl ?_|refine rk_seq ?_|refine ru_ret ?_|refine rk_nil ?_)
 refine end_ref hA (by first|exact .inl rfl|exact .inr rfl) rfl rfl (by simp) (by first|(simp [imm];done)|exact fun _ h=>absurd h (by simp)) ?_
 rfl
end Go.Q15
namespace Go.Q15
open Go Go.QAbs
set_option maxRecDepth 100000
set_option maxHeartbeats 16000000
theorem is_callPin {k:List Fr} {Q:Post} {e:Env} {keep:List Nat} {is:List PI} {d:Nat} {T:Tab} {st:St} {f:Opd} {args:List Opd} {g:FuncId} {first cap vs ws:List AV} {kd:IntKind} {n:Int} (hf:opdO e f=some (.func (.func g) first cap)) (ha:getsO e args=some vs) (hw:forceL (weaks (first++vs++cap))=some ws)
 (hc:∀ st,S T g ws st=some (.int kd n,st)) (h:Is (S T) is keep k Q ((d,.int kd n)::e) st):Is (S T) (⟨some d,none,false,.call .pin f args⟩::is) keep k Q e st:=by
 refine is_of (v:=.int kd n) (st':=st) ?_ h
 have hi:callM (S T) .inner g ws st.allRo=some (.int kd n,st.allRo):=inner_of (st:=st.allRo) (hc _) rfl
 have hi2:(S T g ws st.allRo.push).bind scopeK=some (.int kd n,st.allRo):=hi
 simp only [evalPI,opdO_some hf,getsO_some ha,callV,forceL_some hw,callM,hi2,Option.bind_some,pureK]
theorem is_mnxT {O:Orc} {k:List Fr} {Q:Post} {e:Env} {st:St} {keep:List Nat} {is:List PI} {d:Nat} {x y:Opd} {kd:IntKind} {a b:Int} (hx:opdO e x=some (.int kd a)) (hy:opdO e y=some (.int kd b)) (h:Is O is keep k Q ((d,.int kd (max a b))::e) st):Is O (⟨some d,none,false,.mnx true x y⟩::is) keep k Q e st:=by
 refine is_mnx hx hy ?_
 rw [if_pos rfl];exact h
theorem shape_facts {N:Nodes} (hN:GoodN N) {t:Tr} (ht:VE N t) (hb:t.bytes≤9000):∃ b:Tr,∃ nb nc:Nat,b=buildM (t.txt N)∧VE N b∧b.bytes=t.bytes∧b.h≤t.h∧nb≤nc∧(∀ st,S Tb F_plan_New [b.av] st=some (.int .i64 nb,st))∧(∀ st,S Tb F_plan_Kept [b.av] st=some (.lit [],st)) ∧
 ∀ {st:St} {lv ix:Nat},Rd st lv ix N→S Tb F_quartolaw15_count [.ptr lv ix 0 0 0,t.av] st=some (.int .i64 nc,st):=by
 have hlen:=ht.len hN
 obtain ⟨b1,b2,b3⟩:=buildM_ok hN (s:=t.txt N) (by omega)
 have hK:=fun st=>Kept_fresh (build_fresh (t.txt N)) b1.pos.1 st
 rcases ht with he|hv
 ·have h0:=he.bytes
  have hx:t.txt N=[]:=he.txt N
  rw [hx] at b1 b2 b3 hK hlen ⊢
  have e:buildM []=Tr.zero:=rfl
  refine ⟨_,0,0,rfl,b1,by rw [b3,h0];rfl,by rw [e];exact Nat.zero_le _,Nat.le_refl _,fun st=>?_,hK,fun {st lv ix} hr=>?_⟩
  ·rw [e]
   have:=New_leafy (t:=Tr.zero) (c:=1) rfl (fun st=>kind_empty _ zero_empty st) st
   rw [this];rfl
  ·have hZ:=fun st=>refZero_empty t he st
   refine s_of rfl (fun A hA=>?_)
   repeat' (first|refine ru_seq ?_|refine ru_reg ?_|refine is_mv rfl ?_|refine is_nil rfl ?_|refine rk_seq ?_|refine ru_iteT rfl ?_|refine is_ldT rfl rfl (tr_part _) ?_|refine is_boxG rfl (tr_wide _) (tr_force _) ?_|refine is_callE rfl rfl (by first|rfl|(simp only [List.nil_append,List.append_nil,List.cons_append,weaks,tr_weak,forceL];first|done|rfl)) (hZ _) ?_|refine ru_ret ?_|refine rk_nil ?_|refine rk_seq_ret ?_)
   refine end_st hA (by first|exact .inl rfl|exact .inr rfl) rfl rfl rfl rfl ?_
   rfl
 ·obtain ⟨l1,l2⟩:=build_least hN hv (by omega)
  have hcb:=cnt_bytes hN t.h t hv rfl
  have hp:=hv.pos.2
  refine ⟨_,(buildM (t.txt N)).cnt,cntF N t.h t,rfl,b1,by omega,l2,l1,?_,hK,fun {st lv ix} hr=>lawCount_c hN t.h t hv rfl (by omega) hr⟩
  exact New_c (b1.val (by omega)) (by omega)
theorem shape_loop {N:Nodes} (hN:GoodN N) {st:St} {A:List (Bool × List Blk)} (hA:A=st.A++[(st.ro,st.L)]) {LB:List Blk} (hR:∀ T,Rd ⟨A,false,LB++T⟩ A.length 6 N)
 (ts:List Tr) (hl:ts.length≤60) (ht:∀ t∈ts,VE N t∧t.bytes≤9000) (at_:Int) :
 Ru (S Tb) (.loop p_quartolaw15_PlanShape_37) [.blk 0,.seq (.seq p_quartolaw15_PlanShape_38 .ret)] (fun x e st'=>endK false [RV.s 6] (x,e,st')=some (.bool true,st)) [(2,.int .i64 at_),(9,.ptr A.length 6 0 0 0),(10,.lit (ts.map Tr.av)),(11,.int .i64 0)] ⟨A,false,LB⟩:=by
 have e0:∀ L:List Blk,(⟨A,false,L⟩:St)=⟨A,false,L++[]⟩:=fun L=>by rw [List.append_nil]
 refine ru_loopP (α:=Nat × List Blk) (fun q=>[(2,.int .i64 at_),(9,.ptr A.length 6 0 0 0),(10,.lit (ts.map Tr.av)),(11,.int .i64 q.1)]) (fun q=>⟨A,false,q.2⟩) (fun q=>q.1≤ts.length∧∀ T,Rd ⟨A,false,q.2++T⟩ A.length 6 N) (fun q=>ts.length-q.1) (0,LB) rfl rfl ⟨Nat.zero_le _,hR⟩ ?_
 clear hR
 rintro ⟨i,LG⟩ ⟨hi,hR⟩
 simp only at hi hR ⊢
 have hnext:∀ T,i<ts.length→∃ c:Nat × List Blk,(([(2,AV.int .i64 at_),(9,.ptr A.length 6 0 0 0),(10,.lit (ts.map Tr.av)),(11,.int .i64 ((i:Int)+1))]:Env)=[(2,.int .i64 at_),(9,.ptr A.length 6 0 0 0),(10,.lit (ts.map Tr.av)),(11,.int .i64 c.1)]∧(⟨A,false,LG++T⟩:St)=⟨A,false,c.2⟩) ∧
  (c.1≤ts.length∧∀ T,Rd ⟨A,false,c.2++T⟩ A.length 6 N)∧ts.length-c.1<ts.length-i:=fun T hlt =>
  ⟨(i+1,LG++T),⟨rfl,rfl⟩,⟨hlt,fun U=>by simp only;rw [List.append_assoc];exact hR _⟩,by simp only;omega⟩
 rcases Nat.lt_or_ge i ts.length with hlt|hge
 ·obtain ⟨t,ht0⟩:∃ t,ts[i]?=some t:=⟨ts[i]'hlt,by simp [hlt]⟩
  have ht1:0≤((i:Nat):Int)∧ts[((i:Nat):Int).toNat]?=some t:=⟨by omega,by rw [show ((i:Nat):Int).toNat=i by omega];exact ht0⟩
  obtain ⟨vt,bt⟩:=ht t (List.mem_of_getElem? ht0)
  have pt:=vt.pos.2
  have hTx:=fun T=>Text_c hN (hR T) vt (by omega)
  have hlen:=vt.len hN
  have hCt:=fun T=>Check_ve (hR T) vt (by omega)
  have hBd:=fun st=>Build_c hN (t.txt N) (by omega) st
  obtain ⟨b,nb,nc,hb0,vb,bb,hbh,hbc,hNew,hKe,hCo⟩:=shape_facts hN vt bt
  rw [← hb0] at hBd
  clear hb0
  have hCo:=fun T=>hCo (hR T)
  have hCb:=fun T=>Check_ve (hR T) vb (by omega)
  have hpk:=pickM_bounds (x:=at_) (n:=t.bytes) pt
  have hPk:=fun st=>pick_c at_ t.bytes pt (by omega) st
  have hCu:=fun T=>inner_tr2 (Cut_c2 hN (hR T).inner vt (pickM at_ t.bytes) hpk.1 hpk.2 (by omega))
  have hok:=cutF_ok hN t.h t (pickM at_ t.bytes) vt rfl hpk.1 hpk.2 (by omega)
  have hpv:=own_ve hok.l
  have hqv:=own_ve hok.r
  have hpb:=own_bytes (cutF N t.h t (pickM at_ t.bytes)).1
  have hqb:=own_bytes (cutF N t.h t (pickM at_ t.bytes)).2
  have hph:=own_h (cutF N t.h t (pickM at_ t.bytes)).1
  have hqh:=own_h (cutF N t.h t (pickM at_ t.bytes)).2
  have hlh:=hok.lh
  have hrh:=hok.rh
  rw [hok.lb] at hpb
  rw [hok.rb] at hqb
  rw [← hph] at hlh
  rw [← hqh] at hrh
  clear hph hqh
  have hCp:=fun T=>Check_ve (hR T) hpv (by omega)
  have hCq:=fun T=>Check_ve (hR T) hqv (by omega)
  generalize (cutF N t.h t (pickM at_ t.bytes)).1.own=p at *
  generalize (cutF N t.h t (pickM at_ t.bytes)).2.own=q at *
  generalize pickM at_ t.bytes=a at *
  rw [← hlen] at hPk
  clear hok
  generalize hX:t.txt N=X at *
  have hZ:∀ {u:Tr},VE N u→∀ st,S Tb F_quartoref15_Zero [u.av] st=some (.bool (decide (u.bytes=0)),st):=by
   intro u hu st
   rcases hu with he|hv
   ·rw [refZero_empty u he st,he.bytes];rfl
   ·rw [refZero_val hv st,decide_eq_false (by have:=hv.pos.2;omega)]
  have hZt:=fun st=>hZ vt st
  rw [e0 LG]
  repeat' (first|refine is_ixMk rfl rfl ht1 tr_wide ?_|refine is_ldl rfl (tr_part _) ?_|refine is_ldA rfl rfl rfl (tr_part _) ?_|refine is_ldA rfl rfl rfl (tr_hpart _) ?_|refine is_boxA rfl rfl rfl rfl rfl ?_|refine ru_regHA rfl ?_|refine is_hereBox rfl rfl rfl rfl rfl ?_|refine is_stA rfl rfl rfl rfl (tr_seal _ _ _) (tr_put _ _) rfl ?_|refine ru_seq ?_|refine ru_reg ?_|refine is_mv rfl ?_|refine is_fadr rfl rfl ?_|refine is_gT rfl ?_|refine is_gF rfl rfl ?_|refine is_pick rfl rfl rfl rfl ?_|refine is_ext rfl rfl ?_|refine is_nil rfl ?_|refine rk_seq ?_|refine is_lenS rfl ?_|refine is_lenF rfl rfl ?_|refine is_lenM rfl ?_|(refine is_lss rfl rfl (fun _=>?_) (fun _=>?_)<;>try (exfalso;omega))|(refine is_gtr rfl rfl (fun _=>?_) (fun _=>?_)<;>try (exfalso;omega))|(refine is_eql rfl rfl (fun _=>?_) (fun _=>?_)<;>try (exfalso;omega))|(refine is_neq rfl rfl (fun _=>?_) (fun _=>?_)<;>try (exfalso;omega))|refine ru_iteT rfl ?_|refine ru_iteF rfl ?_|refine is_addS rfl rfl (by omega) ?_|refine is_subS rfl rfl (by omega) ?_|refine is_ixM rfl rfl (by omega) tr_wide (fun _ _=>?_)|refine is_callE rfl rfl (by first|rfl|(simp only [List.nil_append,List.append_nil,List.cons_append,weaks,tr_weak,forceL];first|done|rfl)) (hTx _) ?_|refine is_callE rfl rfl (by first|rfl|(simp only [List.nil_append,List.append_nil,List.cons_append,weaks,tr_weak,forceL];first|done|rfl)) (hCt _) ?_|refine is_callE rfl rfl (by first|rfl|(simp only [List.nil_append,List.append_nil,List.cons_append,weaks,tr_weak,forceL];first|done|rfl)) (hBd _) ?_|refine is_callE rfl rfl (by first|rfl|(simp only [List.nil_append,List.append_nil,List.cons_append,weaks,tr_weak,forceL];first|done|rfl)) (hCb _) ?_|refine is_callE rfl rfl (by first|rfl|(simp only [List.nil_append,List.append_nil,List.cons_append,weaks,tr_weak,forceL];first|done|rfl)) (hCo _) ?_|refine is_callE rfl rfl (by first|rfl|(simp only [List.nil_append,List.append_nil,List.cons_append,weaks,tr_weak,forceL];first|done|rfl)) (hKe _) ?_|refine is_callE rfl rfl (by first|rfl|(simp only [List.nil_append,List.append_nil,List.cons_append,weaks,tr_weak,forceL];first|done|rfl)) (hCp _) ?_|refine is_callE rfl rfl (by first|rfl|(simp only [List.nil_append,List.append_nil,List.cons_append,weaks,tr_weak,forceL];first|done|rfl)) (hCq _) ?_|refine is_callP rfl rfl (by first|rfl|(simp only [List.nil_append,List.append_nil,List.cons_append,weaks,tr_weak,forceL];first|done|rfl)) (hNew _) ?_|refine is_callPin rfl rfl rfl hPk ?_|refine is_callI rfl rfl wkPTI (hCu _) ?_|(refine is_callB rfl rfl (by first|rfl|(simp only [List.nil_append,List.append_nil,List.cons_append,weaks,tr_weak,forceL];first|done|rfl)) (hZt _) (fun _=>?_) (fun _=>?_))|refine ru_skip ?_|refine ru_exit ?_|refine ru_block ?_|refine rk_seq_ex ?_|refine rk_blk_eq rfl ?_|refine rk_inv ?_)
  ·exact hnext _ hlt
  ·exact hnext _ hlt
  ·rename_i hi0 hz u hu
   obtain ⟨vu,bu⟩:=ht u (List.mem_of_getElem? hu)
   have hu1:0≤((i:Nat):Int)-1∧ts[(((i:Nat):Int)-1).toNat]?=some u:=⟨by omega,hu⟩
   have pu:=vu.pos.2
   have wt:=vt.val hz
   have wt16:=wt.h16
   by_cases hz2:u.bytes=0
   ·have hZu:=fun st=>hZ vu st
    rw [decide_eq_true hz2] at hZu
    repeat' (first|refine ru_reg ?_|refine is_mv rfl ?_|refine is_pick rfl rfl rfl rfl ?_|refine is_nil rfl ?_|refine rk_seq ?_|refine ru_iteT rfl ?_|refine is_addS rfl rfl (by omega) ?_|refine is_callE rfl rfl (by first|rfl|(simp only [List.nil_append,List.append_nil,List.cons_append,weaks,tr_weak,forceL];first|done|rfl)) (hZu _) ?_|refine ru_exit ?_|refine rk_seq_ex ?_|refine rk_blk_eq rfl ?_|refine rk_inv ?_)
    exact hnext _ hlt
   ·have hZu:=fun st=>hZ vu st
    rw [decide_eq_false hz2] at hZu
    have wu:=vu.val hz2
    have wu16:=wu.h16
    have hCc:=fun T=>inner_tr1 (Concat_c hN (hR T).inner vu vt (by omega))
    have hck:=concM_ok hN vu vt (by omega)
    have hcv:=own_ve hck.ve
    have hcb:=own_bytes (concM N u t)
    have hch:=own_h (concM N u t)
    rw [hck.bytes] at hcb
    have hcc:=fun T=>Check_ve (hR T) hcv (by omega)
    have hMg:=fun T=>Merge_c hN (hR T) wu wt (by omega)
    have hMo:=mergeF_ok hN _ u t wu wt rfl
    have hcm:concM N u t=grp (mergeF N (u.h+t.h) u t):=by rw [concM,if_neg hz2,if_neg hz]
    have hch2:(concM N u t).h+1=max u.h t.h+(mergeF N (u.h+t.h) u t).length:=by
     rw [hcm]
     have hl2:=hMo.len
     have hh2:=hMo.h
     generalize mergeF N (u.h+t.h) u t=r at *
     match r,hl2,hh2 with
     | [z],_,hh2=>have:=hh2 z (by simp);simp only [grp,List.length_singleton];omega
     | [z,w],_,hh2 =>
      have:=hh2 z (by simp)
      rw [grp_two (by simp)]
      show Tr.hs [z,w]+1+1=_
      have e:Tr.hs [z,w]=z.h:=rfl
      rw [e];simp only [List.length_cons,List.length_nil];omega
     | [],w,_=>simp at w
     | _::_::_::_,w,_=>simp at w
    have hmv:∀ z∈(mergeF N (u.h+t.h) u t).map Tr.own,VE N z∧z.bytes≤18000∧z.h=max u.h t.h:=by
     intro z hz
     obtain ⟨z',hz',rfl⟩:=List.mem_map.1 hz
     refine ⟨own_ve (.inr (hMo.val z' hz')),?_,by rw [own_h];exact hMo.h z' hz'⟩
     rw [own_bytes]
     have h1:=bytes_le hMo hz'
     omega
    have hml:((mergeF N (u.h+t.h) u t).map Tr.own).length=1∨((mergeF N (u.h+t.h) u t).map Tr.own).length=2:=by rw [List.length_map];exact hMo.len
    rw [← hch,← List.length_map (f:=Tr.own)] at hch2
    generalize (concM N u t).own=c at *
    generalize (mergeF N (u.h+t.h) u t).map Tr.own=mm at *
    clear hMo hcm hck hch
    repeat' (first|refine is_ixMk rfl rfl hu1 tr_wide ?_|refine is_ldl rfl (tr_part _) ?_|refine is_ldl rfl (tr_hpart _) ?_|refine is_ldA rfl rfl rfl (tr_part _) ?_|refine is_ldA rfl rfl rfl (tr_hpart _) ?_|refine is_mnxT rfl rfl ?_|refine ru_seq ?_|refine ru_reg ?_|refine is_mv rfl ?_|refine is_fadr rfl rfl ?_|refine is_gT rfl ?_|refine is_pick rfl rfl rfl rfl ?_|refine is_ext rfl rfl ?_|refine is_nil rfl ?_|refine rk_seq ?_|refine is_lenM rfl ?_|(refine is_lss rfl rfl (fun _=>?_) (fun _=>?_)<;>try (exfalso;omega))|(refine is_gtr rfl rfl (fun _=>?_) (fun _=>?_)<;>try (exfalso;omega))|(refine is_neq rfl rfl (fun _=>?_) (fun _=>?_)<;>try (exfalso;omega))|refine ru_iteF rfl ?_|refine is_subS rfl rfl (by omega) ?_|refine is_callE rfl rfl (by first|rfl|(simp only [List.nil_append,List.append_nil,List.cons_append,weaks,tr_weak,forceL];first|done|rfl)) (hZu _) ?_|refine is_callE rfl rfl (by first|rfl|(simp only [List.nil_append,List.append_nil,List.cons_append,weaks,tr_weak,forceL];first|done|rfl)) (hMg _) ?_|refine ru_skip ?_|refine ru_block ?_)
    all_goals try (exfalso;rcases hml with w|w<;>omega)
    refine ru_loopP (α:=Nat) (fun j=>[(2,.int .i64 at_),(9,.ptr A.length 6 0 0 0),(10,.lit (ts.map Tr.av)),(11,.int .i64 i),(12,.ptr A.length (LG.length+0) 0 0 0),(18,.int .i64 (max (t.h:Int) (u.h:Int))),(19,.lit (mm.map Tr.av)),(20,.int .i64 j)]) (fun j=>⟨A,false,LG++[.arr 7 0 [t.av],.arr 7 0 [b.av],.arr 7 0 [p.av],.arr 7 0 [q.av]]⟩) (fun j=>j≤mm.length) (fun j=>mm.length-j) 0 rfl rfl (Nat.zero_le _) ?_
    intro j hj
    rcases Nat.lt_or_ge j mm.length with hjl|hjg
    ·obtain ⟨z,hz0⟩:∃ z,mm[j]?=some z:=⟨mm[j]'hjl,by simp [hjl]⟩
     obtain ⟨vz,bz,zh⟩:=hmv z (List.mem_of_getElem? hz0)
     have ht1:0≤((j:Nat):Int)∧mm[((j:Nat):Int).toNat]?=some z:=⟨by omega,by rw [show ((j:Nat):Int).toNat=j by omega];exact hz0⟩
     have hCz:=fun T=>Check_ve (hR T) vz (by omega)
     repeat' (first|refine is_ixMk rfl rfl ht1 tr_wide ?_|refine is_ldl rfl (tr_part _) ?_|refine is_ldl rfl (tr_hpart _) ?_|refine ru_seq ?_|refine ru_reg ?_|refine is_mv rfl ?_|refine is_fadr rfl rfl ?_|refine is_gT rfl ?_|refine is_pick rfl rfl rfl rfl ?_|refine is_nil rfl ?_|refine rk_seq ?_|refine is_lenM rfl ?_|(refine is_lss rfl rfl (fun _=>?_) (fun _=>?_)<;>try (exfalso;omega))|(refine is_neq rfl rfl (fun _=>?_) (fun _=>?_)<;>try (exfalso;omega))|refine ru_iteT rfl ?_|refine ru_iteF rfl ?_|refine is_addS rfl rfl (by omega) ?_|refine is_callE rfl rfl (by first|rfl|(simp only [List.nil_append,List.append_nil,List.cons_append,weaks,tr_weak,forceL];first|done|rfl)) (hCz _) ?_|refine ru_skip ?_|refine ru_block ?_|refine rk_blk ?_|refine rk_inv ?_)
     all_goals try (exfalso;omega)
     exact ⟨j+1,⟨rfl,rfl⟩,by omega,by omega⟩
    ·obtain rfl:j=mm.length:=by omega
     repeat' (first|refine is_ixMk rfl rfl hu1 tr_wide ?_|refine is_ldl rfl (tr_part _) ?_|refine is_ldA rfl rfl rfl (tr_part _) ?_|refine is_ldA rfl rfl rfl (tr_hpart _) ?_|refine ru_regHA rfl ?_|refine is_hereBox rfl rfl rfl rfl rfl ?_|refine is_stA rfl rfl rfl rfl (tr_seal _ _ _) (tr_put _ _) rfl ?_|refine ru_seq ?_|refine ru_reg ?_|refine is_mv rfl ?_|refine is_fadr rfl rfl ?_|refine is_gT rfl ?_|refine is_pick rfl rfl rfl rfl ?_|refine is_ext rfl rfl ?_|refine is_nil rfl ?_|refine rk_seq ?_|refine is_lenM rfl ?_|(refine is_lss rfl rfl (fun _=>?_) (fun _=>?_)<;>try (exfalso;omega))|(refine is_neq rfl rfl (fun _=>?_) (fun _=>?_)<;>try (exfalso;omega))|refine ru_iteF rfl ?_|refine is_addS rfl rfl (by omega) ?_|refine is_subS rfl rfl (by omega) ?_|refine is_callE rfl rfl (by first|rfl|(simp only [List.nil_append,List.append_nil,List.cons_append,weaks,tr_weak,forceL];first|done|rfl)) (hcc _) ?_|refine is_callI rfl rfl wkPTT (hCc _) ?_|refine ru_skip ?_|refine ru_exit ?_|refine rk_seq_ex ?_|refine rk_blk ?_|refine rk_blk_eq rfl ?_|refine rk_inv ?_|refine rk_inv_ex ?_)
     all_goals try (exfalso;omega)
     exact hnext _ hlt
 ·obtain rfl:i=ts.length:=by omega
  repeat' (first|refine ru_seq ?_|refine ru_reg ?_|refine is_mv rfl ?_|refine is_nil rfl ?_|refine rk_seq ?_|refine is_lenM rfl ?_|(refine is_lss rfl rfl (fun _=>?_) (fun _=>?_)<;>try (exfalso;omega))|refine ru_iteF rfl ?_|refine is_callE rfl rfl rfl (works_c _) ?_|refine ru_ret ?_|refine ru_exit ?_|refine rk_nil ?_|refine rk_seq_ex ?_|refine rk_blk_eq rfl ?_|refine rk_inv_ex ?_)
  refine end_st hA (by first|exact .inl rfl|exact .inr rfl) rfl rfl rfl rfl ?_
  rfl
end Go.Q15
namespace Go.Q15
open Go Go.QAbs
set_option maxRecDepth 100000
set_option maxHeartbeats 16000000
theorem shape_rest {N:Nodes} (hN:GoodN N) {st:St} {A:List (Bool × List Blk)} (hA:A=st.A++[(st.ro,st.L)]) {LB:List Blk} {jb:Nat} {y rv:AV} {rs:List Ro} (q11:LB[jb]?=some (.arr 3 0 [.agg [.ptr A.length 6 0 0 0,y,rv]])) (hR:∀ T,Rd ⟨A,false,LB++T⟩ A.length 6 N)
 (hV:SlRo ⟨A,false,LB⟩ (weak rv) rs) (hrs:∀ r∈rs,RootOk N r∧r.m.b≤900) (hrl:rs.length≤4) (l:List Stp) (hl:l.length≤30) (ht:∀ s∈l,s.text.length≤200) (at_:Int) :
 Ru (S Tb) (.seq (.seq p_quartolaw15_PlanShape_4 (.ite (.s 35) (.seq p_quartolaw15_PlanShape_5 .ret) .skip)) (.seq p_quartolaw15_PlanShape_6 (.seq p_quartolaw15_PlanShape_7 (.seq (.seq p_quartolaw15_PlanShape_8 (.ite (.s 47) (.seq p_quartolaw15_PlanShape_9 .ret) .skip)) (.seq (.seq p_quartolaw15_PlanShape_10 (.block 0 (.loop p_quartolaw15_PlanShape_37))) (.seq p_quartolaw15_PlanShape_38 .ret)))))) []
  (fun x e st'=>endK false [RV.s 6] (x,e,st')=some (.bool true,st)) [(1,.lit (l.map Stp.av)),(2,.int .i64 at_),(7,.ptr A.length jb 0 0 0),(8,.bool true)] ⟨A,false,LB⟩:=by
 have hR0:=hR []
 rw [List.append_nil] at hR0
 obtain ⟨v,st',hS,rfl,es,ts,inv,rfl⟩:=run_c hN hR0 hV hrs (by omega) l hl ht
 have hlen:=inv.len
 have hLoop:=shape_loop hN hA hR ts (by omega) (fun t ht=>⟨(inv.vb t ht).1,by have:=(inv.vb t ht).2;omega⟩) at_
 repeat' (first|refine is_ldc rfl q11 rfl rfl ?_|refine is_callE rfl rfl wkRun hS ?_|exact hLoop|refine ru_seq ?_|refine ru_reg ?_|refine is_mv rfl ?_|refine is_fadr rfl rfl ?_|refine is_ext rfl rfl ?_|refine is_nil rfl ?_|refine rk_seq ?_|refine ru_iteF rfl ?_|refine is_not rfl rfl ?_|refine ru_skip ?_|refine ru_block ?_)
theorem shape_c (texts:List (List UInt8)) (l:List Stp) (at_:Int) (hb:texts.length<9223372036854775808∧(∀ s∈texts,s.length<9223372036854775808)∧l.length<9223372036854775808∧∀ s∈l,s.text.length<9223372036854775808) (st:St) :
 S Tb F_quartolaw15_PlanShape [.lit (texts.map .str),.lit (l.map Stp.av),.int .i64 at_] st=some (.bool true,st):=by
 refine s_of rfl (fun A hA=>?_)
 have hLo:=fun st=>long_c texts hb.1 hb.2.1 st
 have hMa:=fun st=>many_c l hb.2.2.1 hb.2.2.2 st
 repeat' (first|refine ru_seq ?_|refine ru_reg ?_|refine is_mv rfl ?_|refine is_gT rfl ?_|refine is_gF rfl rfl ?_|refine is_pick rfl rfl rfl rfl ?_|refine is_nil rfl ?_|refine rk_seq ?_|refine ru_iteT rfl ?_|refine ru_iteF rfl ?_|(refine is_callB rfl rfl rfl (hLo _) (fun _=>?_) (fun _=>?_))|(refine is_callB rfl rfl rfl (hMa _) (fun _=>?_) (fun _=>?_))|refine is_callE rfl rfl rfl (works_c _) ?_|refine ru_skip ?_|refine ru_ret ?_|refine rk_nil ?_|refine rk_seq_ret ?_)
 ·refine end_st hA (by first|exact .inl rfl|exact .inr rfl) rfl rfl rfl rfl ?_
  rfl
 ·refine end_st hA (by first|exact .inl rfl|exact .inr rfl) rfl rfl rfl rfl ?_
  rfl
 ·rename_i h1 h2
  obtain ⟨t4,t9⟩:=longP_no h1
  obtain ⟨l30,l200⟩:=manyP_no h2
  obtain ⟨LL,N,rs,rv,hS,hrv,hR,hV,hN,hrs,hrl⟩:=laid_c texts t4 t9 A
  have hrest:=fun LB q11 hR hV=>shape_rest hN hA (LB:=LB) (jb:=LL.length) (y:=.ptr A.length 11 0 0 0) (rv:=rv) (rs:=rs) q11 hR hV hrs hrl l l30 l200 at_
  have hh:∀ B,B=Blk.arr 3 0 [.agg [.ptr A.length 6 0 0 0,.ptr A.length 11 0 0 0,rv]]→_:=fun B hB=>hrest (LL++[B]) (by rw [hB,List.getElem?_append_right (Nat.le_refl _),Nat.sub_self];rfl) (fun T=>by rw [List.append_assoc];exact hR _) (hV _)
  have hh:=hh _ rfl
  rcases hrv with rfl|⟨kx,w,m,rfl⟩
  ·repeat' (first|refine is_stT rfl rfl rfl (seal_laid _ (Nat.lt_succ_self _)) rfl rfl ?_|exact hh|refine is_mv rfl ?_|refine is_ext rfl rfl ?_|refine is_nil rfl ?_|refine rk_seq ?_|refine is_boxG rfl rfl rfl ?_|refine is_callE rfl rfl rfl (hS) ?_)
  ·repeat' (first|refine is_stT rfl rfl rfl (seal_laidR _ (Nat.lt_succ_self _)) rfl rfl ?_|exact hh|refine is_mv rfl ?_|refine is_ext rfl rfl ?_|refine is_nil rfl ?_|refine rk_seq ?_|refine is_boxG rfl rfl rfl ?_|refine is_callE rfl rfl rfl (hS) ?_)
end Go.Q15
