/- A part of the proof: RG, RH, RI, RJ, RK, M52, RL, S4, S5, S6, YX, W7, RN, RO, W8, RP, SA, SC, RS, RQ, RT, RU, RV, M18, PO, RW, M40, RX, SO, RY, SPa, SPb, SPc, W9, SPd, SQa, SQb, SQc, SQd, SKa, SKb. No condition. -/
import Derived.Test.YtbmllhocajbcfaaGreatSbT7
set_option linter.unusedVariables false
set_option linter.unusedSimpArgs false
namespace Go.Q15
open Go Go.QAbs
set_option maxRecDepth 100000
set_option maxHeartbeats 8000000
def ndOf (ρ:Nat→Ro):ItC→Nd
 | .leaf s=>⟨0,s,none⟩
 | .inn h ks=>⟨h,[],some (ks.map fun k=>(ρ k).kid)⟩
def itKs:ItC→List Nat
 | .leaf _=>[]
 | .inn _ ks=>ks
theorem nd_weak (x:Nd):weak x.av=x.av:=by
 obtain ⟨h,s,k⟩:=x
 cases k<;>rfl
theorem wkPN {a:AV} (h:weak a=a) (x:Nd):forceL (weaks ([]++[a,x.av]++[]))=some [a,x.av]:=by
 simp only [lE,lN,lC,weaks,nd_weak,forceL,h]
theorem ndOf_kids {ρ:Nat→Ro} {c:ItC} (h:NdOk (ndOf ρ c)):((ndOf ρ c).h=0→(ndOf ρ c).kids=none)∧∀ hh ks,c=.inn hh ks→1≤ks.length∧ks.length≤4:=by
 cases c with
 | leaf s=>exact ⟨fun _=>rfl,fun hh ks q=>by simp at q⟩
 | inn hh ks =>
  rcases h with q|⟨n,l,q⟩
  ·have:=q.lo;simp [ndOf] at this
  ·have e:=q.eq
   have h1:=q.lo
   have h2:=q.hi
   simp only [ndOf,Nd.mk.injEq,oJ] at e
   obtain ⟨e1,_,e3⟩:=e
   refine ⟨fun w=>by simp [ndOf] at w;omega,fun hh' ks' q2=>?_⟩
   simp only [ItC.inn.injEq] at q2
   obtain ⟨rfl,rfl⟩:=q2
   rw [← e3,List.length_map] at h1 h2
   omega
theorem content_c {st:St} {n:Nat} {F:List (Nat × Blk)} {ρ:Nat→Ro} {cv:AV} {c:ItC} (hcv:CvOk n F cv c) (hF:∀ p∈F,st.get n p.1=some p.2) (hR:∀ r∈itKs c,st.get n r=some (.arr 5 0 [(ρ r).av])) (hl:∀ h ks,c=.inn h ks→1≤ks.length∧ks.length≤4) :
 S Tb (match cv with|.func (.func g) _ _=>g|_=>0) (match cv with|.func _ _ cap=>cap|_=>[]) st=some ((ndOf ρ c).av,st):=by
 cases c with
 | leaf s =>
  obtain ⟨xb,rfl,h2⟩:=hcv
  exact addC1_c (hF _ h2)
 | inn h ks =>
  obtain ⟨tb,kb,kx,t,rfl,h2,h3,h4,h5⟩:=hcv
  subst h2
  exact addC2_c (hF _ h3) (hF _ h4) (hF _ h5) hR (hl _ _ rfl)
theorem CvOk.form {n:Nat} {F:List (Nat × Blk)} {cv:AV} {c:ItC} (h:CvOk n F cv c):Cv n cv:=by
 cases c with
 | leaf s=>obtain ⟨xb,rfl,_⟩:=h;exact .one _
 | inn h ks=>obtain ⟨tb,kb,kx,t,rfl,_⟩:=h;exact .two _ _
def Ro.wr (r:Ro) (h:Nat):Ro:=⟨h,r.h,r.m⟩
theorem putC1_c {st:St} {n ip la b b0 b1 b2:Nat} {td rp cv:AV} {r:AR} {F:List (Nat × Blk)} {ρ:Nat→Ro} {it:It} (hb0:st.get n b0=some (.arr 1 0 [.ptr n ip 0 0 0])) (hb1:st.get n b1=some (.arr 1 0 [cv])) (hb2:st.get n b2=some (.arr 1 0 [.ptr n it.rx 0 0 0]))
 (hip:st.get n ip=some (.arr 3 0 [.agg [.ptr la (b+5) 0 0 0,td,rp]])) (hcv:CvOk n F cv it.c) (hF:∀ p∈F,st.get n p.1=some p.2) (hR:∀ k∈itKs it.c,st.get n k=some (.arr 5 0 [(ρ k).av])) (hrx:st.get n it.rx=some (.arr 5 0 [(ρ it.rx).av]))
 (hA:Has st la b r) (ho:AROk r) (hn:0<r.n) (hx:NdOk (ndOf ρ it.c)) (hL:∀ k∈(ndOf ρ it.c).ks,∃ y,lk r.nodes k.at_=some y∧NdOk y∧y.h+1=(ndOf ρ it.c).h∧y.mea=k.m) (hw:st.wr n)
 (hs:∀ i,i=it.rx∨i=b2→¬ (n=la∧b≤i∧i≤b+5)) :
 S Tb F_rope_Pen_putC1 [.ptr n b0 0 0 0,.ptr n b1 0 0 0,.ptr n b2 0 0 0] st=some (.tup [.int .u64 r.next,.int .i64 0],(arSt st la b (r.add (ndOf ρ it.c))).upd n it.rx (.arr 5 0 [((ρ it.rx).wr r.next).av])):=by
 obtain ⟨hk0,hk4⟩:=ndOf_kids hx
 refine s_ofW rfl (fun A hA'=>?_)
 have g0:=fun L=>get_old hA' (ro:=false) (L:=L) hb0
 have g1:=fun L=>get_old hA' (ro:=false) (L:=L) hb1
 have g2:=fun L=>get_old hA' (ro:=false) (L:=L) hb2
 have g3:=fun L=>get_old hA' (ro:=false) (L:=L) hip
 have hC:=fun L=>content_c (st:=St.allRo ⟨A,false,L⟩) (ρ:=ρ) hcv (fun p hp=>by rw [allRo_get];exact get_old hA' (hF p hp)) (fun k hk=>by rw [allRo_get];exact get_old hA' (hR k hk)) hk4
 have hAl:=fun L=>Alloc_nd (hA.push hA' (ro:=false) (L:=L)) ho hn hx hk0 hL
 have hle:=hA.le
 have hP:=hA.put (r.add (ndOf ρ it.c))
 have hw1:(arSt st la b (r.add (ndOf ρ it.c))).wr n:=putC_wr hA.cl.wr hw
 have hg2:(arSt st la b (r.add (ndOf ρ it.c))).get n b2=some (.arr 1 0 [.ptr n it.rx 0 0 0]):=by rw [hA.out _ (hs _ (.inr rfl))];exact hb2
 have hgr:(arSt st la b (r.add (ndOf ρ it.c))).get n it.rx=some (.arr 5 0 [(ρ it.rx).av]):=by rw [hA.out _ (hs _ (.inl rfl))];exact hrx
 cases hcv.form
 all_goals simp only at hC
 all_goals repeat' (first|refine is_callE rfl rfl (wkPN rfl _) (hAl _) ?_|refine ru_seq ?_|refine ru_reg ?_|refine is_mv rfl ?_|refine is_fadr rfl rfl ?_|refine is_ext rfl rfl ?_|refine is_nil rfl ?_|refine rk_seq ?_|refine is_nilck rfl rfl ?_|(refine is_eql rfl rfl (fun _=>?_) (fun _=>?_)<;>try (exfalso;omega))|refine ru_iteT rfl ?_|refine is_ld rfl (g0 _) rfl rfl ?_|refine is_ld rfl (g1 _) rfl rfl ?_|refine is_ld rfl (g3 _) rfl rfl ?_|refine is_callP rfl rfl rfl (hC _) ?_)
 all_goals rw [arSt_push hA' hle]
 all_goals obtain ⟨A1,hA1⟩:∃ A1,A1=(arSt st la b (r.add (ndOf ρ it.c))).ps:=⟨_,rfl⟩
 all_goals rw [← hA1]
 all_goals generalize arSt st la b (r.add (ndOf ρ it.c))=st1 at *
 all_goals have q2:=fun L=>get_old hA1 (ro:=false) (L:=L) hg2
 all_goals repeat' (first|refine is_mv rfl ?_|refine is_fadr rfl rfl ?_|refine is_nilck rfl rfl ?_|refine is_ld rfl (q2 _) rfl rfl ?_)
 all_goals refine is_stP hA1 rfl rfl hw1 hgr rfl rfl rfl (fun A2 hA2=>?_)
 all_goals repeat' (first|refine ru_seq ?_|refine ru_reg ?_|refine is_mv rfl ?_|refine is_nil rfl ?_|refine rk_seq ?_|refine ru_ret ?_|refine rk_nil ?_)
 all_goals refine end_st hA2 (.inr rfl) rfl rfl rfl rfl ?_
 all_goals rfl
theorem Step_c {st:St} {n ip la b b0 b1 b2 tx ver j:Nat} {rp cv cl:AV} {cls:List AV} {r:AR} {F:List (Nat × Blk)} {ρ:Nat→Ro} {it:It} (htd:st.get n tx=some (.arr 1 ver cls)) (hj:cls[j]?=some cl) (hcl:ClOk n ip F cl it) (hlen:cls.length<1000000)
 (hip:st.get n ip=some (.arr 3 0 [.agg [.ptr la (b+5) 0 0 0,.ref n tx ver j (cls.length-j),rp]])) (hF:∀ p∈F,st.get n p.1=some p.2) (hR:∀ k∈itKs it.c,st.get n k=some (.arr 5 0 [(ρ k).av])) (hrx:st.get n it.rx=some (.arr 5 0 [(ρ it.rx).av]))
 (hA:Has st la b r) (ho:AROk r) (hn:0<r.n) (hx:NdOk (ndOf ρ it.c)) (hL:∀ k∈(ndOf ρ it.c).ks,∃ y,lk r.nodes k.at_=some y∧NdOk y∧y.h+1=(ndOf ρ it.c).h∧y.mea=k.m) (hw:st.wr n)
 (hs:∀ i,i=it.rx∨i=ip∨i=tx∨(∃ p∈F,i=p.1)→¬ (n=la∧b≤i∧i≤b+5)) (hne:it.rx≠ip∧it.rx≠tx∧tx≠ip) :
 S Tb F_rope_Pen_Step [.ptr n ip 0 0 0] st=some (.tup [.int .u64 r.next,.bool (decide (cls.length=j+1)),.int .i64 0],
  ((arSt st la b (r.add (ndOf ρ it.c))).upd n it.rx (.arr 5 0 [((ρ it.rx).wr r.next).av])).upd n ip (.arr 3 0 [.agg [.ptr la (b+5) 0 0 0,.ref n tx ver (j+1) (cls.length-j-1),rp]])):=by
 obtain ⟨b0,b1,b2,cv,rfl,h0,h1,h2,hcv⟩:=hcl
 have hjl:=(List.getElem?_eq_some_iff.1 hj).1
 refine s_ofW rfl (fun A hA'=>?_)
 have g3:=fun L=>get_old hA' (ro:=false) (L:=L) hip
 have gt:=fun L=>get_old hA' (ro:=false) (L:=L) htd
 have hwi:∀ L,wIs 1 ver (St.get ⟨A,false,L⟩ n tx)=true:=fun L=>by rw [gt];simp [wIs]
 have hle:=hA.le
 have hnl:n≤st.A.length:=St.get_le hip
 have hP:=hA.put (r.add (ndOf ρ it.c))
 have hw1:(arSt st la b (r.add (ndOf ρ it.c))).wr n:=putC_wr hA.cl.wr hw
 have hp1:=hs ip (.inr (.inl rfl))
 have hp2:=hs tx (.inr (.inr (.inl rfl)))
 have hp3:=hs it.rx (.inl rfl)
 have k1:(arSt st la b (r.add (ndOf ρ it.c))).get n it.rx=_:=(hA.out _ hp3).trans hrx
 have k2:(arSt st la b (r.add (ndOf ρ it.c))).get n ip=_:=(hA.out _ hp1).trans hip
 have k3:(arSt st la b (r.add (ndOf ρ it.c))).get n tx=_:=(hA.out _ hp2).trans htd
 have hput:=fun L=>putC1_c (st:=⟨A,false,L⟩) (ρ:=ρ) (get_old hA' (hF _ h0)) (get_old hA' (hF _ h1)) (get_old hA' (hF _ h2)) (g3 L) hcv (fun p hp=>get_old hA' (hF p hp)) (fun k hk=>get_old hA' (hR k hk)) (get_old hA' hrx) (hA.push hA' (ro:=false) (L:=L)) ho hn hx hL (wr_push hA' hnl hw)
  (fun i hi=>by
   rcases hi with rfl|rfl
   ·exact hp3
   ·exact hs _ (.inr (.inr (.inr ⟨_,h2,rfl⟩))))
 have e1:∀ L,(arSt ⟨A,false,L⟩ la b (r.add (ndOf ρ it.c))).upd n it.rx (.arr 5 0 [((ρ it.rx).wr r.next).av])=⟨((arSt st la b (r.add (ndOf ρ it.c))).upd n it.rx (.arr 5 0 [((ρ it.rx).wr r.next).av])).ps,false,L⟩:=fun L=>by
  rw [arSt_push hA' hle]
  exact upd_push rfl (by rw [arSt_A];exact hnl)
 simp only [e1] at hput
 clear e1
 have m1:∀ l' i',((arSt st la b (r.add (ndOf ρ it.c))).upd n it.rx (.arr 5 0 [((ρ it.rx).wr r.next).av])).get l' i'=if l'=n∧i'=it.rx then some (.arr 5 0 [((ρ it.rx).wr r.next).av]) else (arSt st la b (r.add (ndOf ρ it.c))).get l' i':=fun l' i'=>St.get_upd k1 rfl
 have n2:=(m1 n ip).trans ((if_neg (fun q=>hne.1 q.2.symm)).trans k2)
 have n3:=(m1 n tx).trans ((if_neg (fun q=>hne.2.1 q.2.symm)).trans k3)
 have hw2:((arSt st la b (r.add (ndOf ρ it.c))).upd n it.rx (.arr 5 0 [((ρ it.rx).wr r.next).av])).wr n:=St.wr_upd hw1 hw1
 clear m1 k1 k2 k3
 generalize (arSt st la b (r.add (ndOf ρ it.c))).upd n it.rx (.arr 5 0 [((ρ it.rx).wr r.next).av])=st1 at *
 have hj2:cls[j+((0:Nat):Int).toNat]?=some (clV n b0 b1 b2):=by simpa using hj
 unfold clV at hj2
 repeat' (first|refine ru_seq ?_|refine ru_reg ?_|refine is_mv rfl ?_|refine is_fadr rfl rfl ?_|refine is_nil rfl ?_|refine rk_seq ?_|refine is_nilck rfl rfl ?_|refine is_lenR rfl ?_|(refine is_eql rfl rfl (fun _=>?_) (fun _=>?_)<;>try (exfalso;omega))|refine ru_iteF rfl ?_|refine is_eqs rfl rfl rfl rfl ?_|refine is_ld rfl (g3 _) rfl rfl ?_|refine is_ixR rfl rfl (by omega) (hwi _) ?_|refine is_ld rfl (gt _) hj2 rfl ?_|refine ru_skip ?_)
 all_goals try (exfalso;omega)
 refine is_callE rfl rfl rfl (hput _) ?_
 obtain ⟨A1,hA1⟩:∃ A1,A1=st1.ps:=⟨_,rfl⟩
 rw [← hA1]
 have q2:=fun L=>get_old hA1 (ro:=false) (L:=L) n2
 have q3:=fun L=>get_old hA1 (ro:=false) (L:=L) n3
 have hwi1:∀ L,wIs 1 ver (St.get ⟨A1,false,L⟩ n tx)=true:=fun L=>by rw [q3];simp [wIs]
 repeat' (first|refine ru_seq ?_|refine ru_reg ?_|refine is_mv rfl ?_|refine is_fadr rfl rfl ?_|refine is_ext rfl rfl ?_|refine is_nil rfl ?_|refine rk_seq ?_|refine is_nilck rfl rfl ?_|(refine is_neq rfl rfl (fun _=>?_) (fun _=>?_)<;>try (exfalso;omega))|refine ru_iteF rfl ?_|refine is_ld rfl (q2 _) rfl rfl ?_|refine is_slcR_lo rfl rfl (by omega) (hwi1 _) ?_|refine ru_skip ?_)
 all_goals try contradiction
 refine is_stP hA1 rfl rfl hw2 n2 rfl (seal_refL _ (Nat.lt_succ_self _)) rfl (fun A2 hA2=>?_)
 have eB:Blk.arr 3 0 ([AV.agg [.ptr la (b+5) 0 0 0,.ref n tx ver j (cls.length-j),rp]].set 0 (.agg [.ptr la (b+5) 0 0 0,.ref n tx ver (j+(1:Int).toNat) (cls.length-j-(1:Int).toNat),rp]))=Blk.arr 3 0 [.agg [.ptr la (b+5) 0 0 0,.ref n tx ver (j+1) (cls.length-j-1),rp]]:=rfl
 rw [eB] at hA2
 have r2:(st1.upd n ip (Blk.arr 3 0 [.agg [.ptr la (b+5) 0 0 0,.ref n tx ver (j+1) (cls.length-j-1),rp]])).get n ip=_:=(St.get_upd n2 rfl).trans (if_pos ⟨rfl,rfl⟩)
 have p2:=fun L=>get_old hA2 (ro:=false) (L:=L) r2
 repeat' (first|refine ru_seq ?_|refine ru_reg ?_|refine is_mv rfl ?_|refine is_fadr rfl rfl ?_|refine is_nil rfl ?_|refine rk_seq ?_|refine is_nilck rfl rfl ?_|refine is_lenR rfl ?_|(refine is_eql rfl rfl (fun _=>?_) (fun _=>?_)<;>try (exfalso;omega))|refine is_ld rfl (p2 _) rfl rfl ?_|refine ru_ret ?_|refine rk_nil ?_)
 ·rename_i hz
  rw [decide_eq_true (show cls.length=j+1 by omega)]
  exact end_st hA2 (.inr rfl) rfl rfl rfl rfl rfl
 ·rename_i hz
  rw [decide_eq_false (show ¬ cls.length=j+1 by omega)]
  exact end_st hA2 (.inr rfl) rfl rfl rfl rfl rfl
end Go.Q15
namespace Go.Q15
open Go Go.QAbs
set_option maxRecDepth 100000
def Ext (N M:Nodes):Prop:=∀ o x,lk N o=some x→lk M o=some x
theorem Ext.refl (N:Nodes):Ext N N:=fun _ _ h=>h
theorem Ext.trans {N M K:Nodes} (h:Ext N M) (g:Ext M K):Ext N K:=fun o x q=>g o x (h o x q)
theorem textH_ext {N M:Nodes} (hN:GoodN N) (hs:Ext N M):∀ n o x,lk N o=some x→x.h=n→textH M n o=textH N n o:=by
 intro n
 induction n with
 | zero=>intro o x hx hh;rw [textH,textH,hx,hs _ _ hx]
 | succ n ih =>
  intro o x hx hh
  rw [textH,textH,hx,hs _ _ hx]
  simp only [Option.map_some,Option.getD_some]
  have hk:=(hN o x hx).2
  have key:∀ l:List Kid,(∀ k∈l,k∈x.ks)→(l.flatMap fun k=>textH M n k.at_)=l.flatMap fun k=>textH N n k.at_:=by
   intro l
   induction l with
   | nil=>intro _;rfl
   | cons k l ih2 =>
    intro h
    obtain ⟨_,y,y1,y2,_⟩:=hk k (h k (by simp))
    rw [List.flatMap_cons,List.flatMap_cons,ih k.at_ y y1 (by omega),ih2 (fun q hq=>h q (by simp [hq]))]
  exact key _ fun _ h=>h
theorem ext_add {r:AR} (ho:AROk r) (hn:0<r.n) (x:Nd):Ext r.nodes (r.add x).nodes:=fun o y h=>by
 rw [lk_add ho hn,if_neg]
 ·exact h
 ·intro q;rw [q,ho.new hn] at h;simp at h
def KidsIn (N:Nodes) (x:Nd):Prop:=∀ k∈x.ks,∃ y,lk N k.at_=some y∧NdOk y∧y.h+1=x.h∧y.mea=k.m
theorem good_add {r:AR} (ho:AROk r) (hn:0<r.n) (hg:GoodN r.nodes) {x:Nd} (hx:NdOk x) (hk:KidsIn r.nodes x) (h0:∀ k∈x.ks,k.at_≠0):GoodN (r.add x).nodes:=by
 intro o y h
 have hE:=ext_add ho hn x
 rw [lk_add ho hn] at h
 split at h
 ·simp only [oJ] at h
  subst h
  refine ⟨hx.copy,fun k hkk=>?_⟩
  have hkk':k∈x.ks:=hkk
  obtain ⟨z,z1,z2,z3,z4⟩:=hk k hkk'
  exact ⟨h0 k hkk',z,hE _ _ z1,z3,z4⟩
 ·obtain ⟨h1,h2⟩:=hg o y h
  refine ⟨h1,fun k hkk=>?_⟩
  obtain ⟨g0,z,z1,z2,z3⟩:=h2 k hkk
  exact ⟨g0,z,hE _ _ z1,z2,z3⟩
theorem AROk.hnd {r:AR} (h:AROk r) {o:Nat} {x:Nd} (hx:lk r.nodes o=some x):handleP o∧o≠0:=by
 obtain ⟨s,g,h1,h2,h3,h4⟩:=h.key o x hx
 obtain ⟨g',g1,g2,g3⟩:=h.gen s h2
 rw [h4] at g1
 simp only [oJ] at g1
 have:=h.n16
 have:=h.most
 unfold handleP
 omega
def rset (ρ:Nat→Ro) (k h:Nat):Nat→Ro:=fun i=>if i=k then (ρ i).wr h else ρ i
inductive RunOk:List It→AR→(Nat→Ro)→AR→(Nat→Ro)→List Nat→Prop
 | nil {r ρ}:RunOk [] r ρ r ρ []
 | cons {it its r ρ r' ρ' hs} (hn:0<r.n) (hx:NdOk (ndOf ρ it.c)) (hk:KidsIn r.nodes (ndOf ρ it.c)) (h:RunOk its (r.add (ndOf ρ it.c)) (rset ρ it.rx r.next) r' ρ' hs):RunOk (it::its) r ρ r' ρ' (r.next::hs)
theorem RunOk.append {i1 i2:List It} {r r1 r2:AR} {ρ ρ1 ρ2:Nat→Ro} {h1 h2:List Nat} (h:RunOk i1 r ρ r1 ρ1 h1) (g:RunOk i2 r1 ρ1 r2 ρ2 h2):RunOk (i1++i2) r ρ r2 ρ2 (h1++h2):=by
 induction h with
 | nil=>exact g
 | cons hn hx hk h ih=>exact .cons hn hx hk (ih g)
namespace Tr
mutual
def wr:Tr→AR→AR × Ro × List Nat
 | .mk o h m s k,r =>
  if o≠0 then (r,⟨o,h,m⟩,[])
  else if h=0 then (r.add ⟨0,s,none⟩,⟨r.next,0,meaT s⟩,[r.next])
  else ((wrO k r).1.add ⟨h,[],some (wrO k r).2.1⟩,⟨(wrO k r).1.next,h,sumM ((wrO k r).2.1.map Kid.m)⟩,(wrO k r).2.2++[(wrO k r).1.next])
def wrO:Option (List Tr)→AR→AR × List Kid × List Nat
 | none,r=>(r,[],[])
 | some l,r=>wrL l r
def wrL:List Tr→AR→AR × List Kid × List Nat
 | [],r=>(r,[],[])
 | t::l,r=>((wrL l (t.wr r).1).1,(t.wr r).2.1.kid::(wrL l (t.wr r).1).2.1,(t.wr r).2.2++(wrL l (t.wr r).1).2.2)
end
end Tr
structure WrB (r:AR) (c:Nat) (r':AR) (hs:List Nat):Prop where
 ok:AROk r'
 good:GoodN r'.nodes
 ext:Ext r.nodes r'.nodes
 n:r'.n+c=r.n
 len:hs.length=c
 new:∀ h∈hs,lk r.nodes h=none
 all:∀ h x,lk r'.nodes h=some x→lk r.nodes h=some x∨h∈hs
 has:∀ h∈hs,∃ x,lk r'.nodes h=some x
 nodup:hs.Nodup
 frees:r'.frees=r.frees
 stale:r'.stale=r.stale
 slots:r'.slots=r.slots
 allocs:r'.allocs=r.allocs+c
 nl:r'.nodes.length=r.nodes.length+c
theorem WrB.refl {r:AR} (ho:AROk r) (hg:GoodN r.nodes):WrB r 0 r [] :=
 ⟨ho,hg,.refl _,by simp,rfl,fun h q=>by simp at q,fun h x q=>.inl q,fun h q=>by simp at q,by simp,rfl,rfl,rfl,by simp,by simp⟩
theorem WrB.trans {r r1 r2:AR} {c d:Nat} {h1 h2:List Nat} (h:WrB r c r1 h1) (g:WrB r1 d r2 h2):WrB r (c+d) r2 (h1++h2):=by
 refine ⟨g.ok,g.good,h.ext.trans g.ext,by have:=h.n;have:=g.n;omega,by rw [lL,h.len,g.len],fun o ho=>?_,fun o x ho=>?_,fun o ho=>?_,?_,g.frees.trans h.frees,g.stale.trans h.stale,g.slots.trans h.slots,by rw [g.allocs,h.allocs];omega,by rw [g.nl,h.nl];omega⟩
 ·rcases List.mem_append.1 ho with q|q
  ·exact h.new o q
  ·cases hk:lk r.nodes o with
   | none=>rfl
   | some x=>have:=g.new o q;rw [h.ext _ _ hk] at this;simp at this
 ·rcases g.all o x ho with q|q
  ·rcases h.all o x q with w|w
   ·exact .inl w
   ·exact .inr (by simp [w])
  ·exact .inr (by simp [q])
 ·rcases List.mem_append.1 ho with q|q
  ·obtain ⟨x,hx⟩:=h.has o q
   exact ⟨x,g.ext _ _ hx⟩
  ·exact g.has o q
 ·rw [List.nodup_append]
  refine ⟨h.nodup,g.nodup,fun x hx y hy e=>?_⟩
  subst e
  obtain ⟨z,hz⟩:=h.has x hx
  rw [g.new x hy] at hz
  simp at hz
theorem WrB.one {r:AR} (ho:AROk r) (hn:0<r.n) (hg:GoodN r.nodes) {x:Nd} (hx:NdOk x) (hk:KidsIn r.nodes x) (h0:∀ k∈x.ks,k.at_≠0):WrB r 1 (r.add x) [r.next]:=by
 refine ⟨ho.add hn x,good_add ho hn hg hx hk h0,ext_add ho hn x,?_,rfl,fun o q=>?_,fun o y q=>?_,fun o q=>?_,by simp,rfl,rfl,rfl,rfl,by simp [AR.add,AR.alloc]⟩
 ·show r.n-1+1=r.n;omega
 ·simp only [List.mem_singleton] at q;subst q;exact ho.new hn
 ·rw [lk_add ho hn] at q
  split at q
  ·rename_i e;exact .inr (by simp [e])
  ·exact .inl q
 ·simp only [List.mem_singleton] at q
  exact ⟨x.copy,by rw [lk_add ho hn,if_pos q]⟩
end Go.Q15
namespace Go.Q15
open Go Go.QAbs
set_option maxRecDepth 100000
structure WrOk (N:Nodes) (t:Tr) (r':AR) (ro:Ro):Prop where
 rm:ro.m=t.mea
 rh:ro.h=t.h
 live:∃ y,lk r'.nodes ro.at_=some y∧NdOk y∧y.h=t.h∧y.mea=t.mea
 txt:textH r'.nodes t.h ro.at_=t.txt N
def Exec (N:Nodes) (t:Tr):Prop:=∀ (r:AR),AROk r→GoodN r.nodes→Ext N r.nodes→t.cnt≤r.n→∀ (rx:Nat) (its:List It) (R:List (Nat × Ro)) (ρ:Nat→Ro),AddT t rx its R→(∀ p∈R,ρ p.1=p.2)→(R.map Prod.fst).Nodup →
 ∃ ρ',RunOk its r ρ (t.wr r).1 ρ' (t.wr r).2.2∧ρ' rx=(t.wr r).2.1∧(∀ k,k∉R.map Prod.fst→ρ' k=ρ k)∧WrB r t.cnt (t.wr r).1 (t.wr r).2.2∧WrOk N t (t.wr r).1 (t.wr r).2.1
structure WrLs (N:Nodes) (l:List Tr) (h:Nat) (r':AR) (ks:List Kid):Prop where
 len:ks.length=l.length
 m:ks.map Kid.m=l.map Tr.mea
 ok:∀ k∈ks,KidOk h k∧k.at_≠0∧∃ y,lk r'.nodes k.at_=some y∧NdOk y∧y.h=h∧y.mea=k.m
 txt:(ks.flatMap fun k=>textH r'.nodes h k.at_)=Tr.txtL N l
theorem execL {N:Nodes} (hN:GoodN N) {h:Nat}:∀ (l:List Tr),(∀ u∈l,Val N u∧u.h=h∧Big u)→(∀ u∈l,Exec N u)→∀ (r:AR),AROk r→GoodN r.nodes→Ext N r.nodes→Tr.cntL l≤r.n→∀ (rs:List Nat) (its:List It) (R:List (Nat × Ro)) (ρ:Nat→Ro),AddL l rs its R→(∀ p∈R,ρ p.1=p.2)→(R.map Prod.fst).Nodup →
 ∃ ρ',RunOk its r ρ (Tr.wrL l r).1 ρ' (Tr.wrL l r).2.2∧(rs.map fun k=>(ρ' k).kid)=(Tr.wrL l r).2.1∧(∀ k,k∉R.map Prod.fst→ρ' k=ρ k)∧WrB r (Tr.cntL l) (Tr.wrL l r).1 (Tr.wrL l r).2.2∧WrLs N l h (Tr.wrL l r).1 (Tr.wrL l r).2.1:=by
 intro l
 induction l with
 | nil =>
  intro _ _ r ho hg hE hc rs its R ρ ha hR hnd
  cases ha
  exact ⟨ρ,.nil,rfl,fun _ _=>rfl,.refl ho hg,⟨rfl,rfl,fun k hk=>by simp [Tr.wrL] at hk,rfl⟩⟩
 | cons t l ih =>
  intro hv hx r ho hg hE hc rs its R ρ ha hR hnd
  cases ha with
  | @cons _ _ rx rs i1 i2 R1 R2 ht hl =>
   rw [Tr.cntL] at hc
   rw [List.map_append,List.nodup_append] at hnd
   obtain ⟨nd1,nd2,nd3⟩:=hnd
   obtain ⟨ρ1,a1,a2,a3,a4,a5⟩:=hx t (by simp) r ho hg hE (by omega) rx i1 R1 ρ ht (fun p hp=>hR p (by simp [hp])) nd1
   have hn1:=a4.n
   have hd:∀ p∈R2,p.1∉R1.map Prod.fst:=fun p hp q=>nd3 _ q _ (List.mem_map.2 ⟨p,hp,rfl⟩) rfl
   obtain ⟨ρ2,b1,b2,b3,b4,b5⟩:=ih (fun u hu=>hv u (by simp [hu])) (fun u hu=>hx u (by simp [hu])) _ a4.ok a4.good (hE.trans a4.ext) (by omega) rs i2 R2 ρ1 hl (fun p hp=>by rw [a3 _ (hd p hp)];exact hR p (by simp [hp])) nd2
   obtain ⟨rr,hrr,_,_⟩:=ht.root
   have hrx:rx∉R2.map Prod.fst:=fun q=>nd3 rx (List.mem_map.2 ⟨_,hrr,rfl⟩) rx q rfl
   obtain ⟨v1,v2,v3⟩:=hv t (by simp)
   refine ⟨ρ2,a1.append b1,?_,?_,?_,?_⟩
   ·rw [List.map_cons,b3 rx hrx,a2,b2];rfl
   ·intro k hk
    rw [List.map_append,List.mem_append,not_or] at hk
    rw [b3 k hk.2,a3 k hk.1]
   ·rw [Tr.cntL];exact a4.trans b4
   ·obtain ⟨y,y1,y2,y3,y4⟩:=a5.live
    have hh:=a4.ok.hnd y1
    have hkm:((t.wr r).2.1.kid).m=t.mea:=a5.rm
    have hka:((t.wr r).2.1.kid).at_=(t.wr r).2.1.at_:=rfl
    refine ⟨by show _+1=_;rw [b5.len];rfl,?_,?_,?_⟩
    ·show ((t.wr r).2.1.kid).m::_=_
     rw [hkm,b5.m];rfl
    ·intro k hk
     rcases List.mem_cons.1 hk with rfl|q
     ·refine ⟨?_,hh.2,y,b4.ext _ _ y1,y2,by rw [y3,v2],by rw [y4];exact hkm.symm⟩
      have hs:=v1.size hN v3
      have hb:=v1.mea_ok.1
      have:=y2.kid (a:=(t.wr r).2.1.at_) (by rw [y3,y4,hb];exact hs) hh.1
      rw [y3,v2,y4,← a5.rm] at this
      exact this
     ·exact b5.ok k q
    ·show textH (Tr.wrL l (t.wr r).1).1.nodes h (t.wr r).2.1.at_++((Tr.wrL l (t.wr r).1).2.1.flatMap fun k=>textH (Tr.wrL l (t.wr r).1).1.nodes h k.at_)=_
     rw [b5.txt,Tr.txtL,← a5.txt,v2]
     congr 1
     exact textH_ext a4.good b4.ext h _ y y1 (by rw [y3,v2])
theorem exec_ok {N:Nodes} (hN:GoodN N) {t:Tr} (hv:Val N t):t.bytes≤65536→Exec N t:=by
 induction hv with
 | @kept o h m k x h0 hx hok hh hm hk =>
  intro _ r ho hg hE hc rx its R ρ ha hR hnd
  have e:(Tr.mk o h m [] k).wr r=(r,⟨o,h,m⟩,[]):=by rw [Tr.wr,if_pos h0]
  have ec:(Tr.mk o h m [] k).cnt=0:=by rw [Tr.cnt,Tr.cntO_getD,hk,if_neg h0];rfl
  rw [e,ec]
  cases ha with
  | kept _ =>
   refine ⟨ρ,.nil,hR (rx,⟨o,h,m⟩) (by simp),fun _ _=>rfl,.refl ho hg,⟨(mea_kept h0).symm,rfl,⟨x,hE _ _ hx,hok,hh,by rw [mea_kept h0];exact hm⟩,?_⟩⟩
   show textH r.nodes h o=_
   rw [textH_ext hN hE h o x hx hh,Tr.txt,if_neg h0,Tr.txtO_getD,hk]
   simp [Tr.txtL]
  | leaf=>exact absurd rfl h0
  | inner=>exact absurd rfl h0
 | @leaf s k h1 h2 hk =>
  intro _ r ho hg hE hc rx its R ρ ha hR hnd
  have e:(Tr.mk 0 0 .zero s k).wr r=(r.add ⟨0,s,none⟩,⟨r.next,0,meaT s⟩,[r.next]):=by rw [Tr.wr];simp
  have ec:(Tr.mk 0 0 .zero s k).cnt=1:=by rw [Tr.cnt,Tr.cntO_getD,hk];rfl
  rw [ec] at hc
  rw [e,ec]
  have hx:NdOk ⟨0,s,none⟩:=.inl ⟨rfl,h1,h2,rfl⟩
  cases ha with
  | kept h0=>exact absurd rfl h0
  | leaf =>
   have hρ:ρ rx=⟨0,0,meaT s⟩:=hR (rx,⟨0,0,meaT s⟩) (by simp)
   refine ⟨rset ρ rx r.next,.cons (by omega) hx (fun k hk=>by simp [ndOf,Nd.ks] at hk) .nil,?_,fun k hk=>?_,.one ho (by omega) hg hx (fun k hk=>by simp [Nd.ks] at hk) (fun k hk=>by simp [Nd.ks] at hk),⟨(mea_leaf s k).symm,rfl,⟨(⟨0,s,none⟩:Nd).copy,?_,hx.copy,rfl,?_⟩,?_⟩⟩
   ·simp only [rset,if_true,hρ];rfl
   ·simp only [List.map_cons,List.map_nil,List.mem_singleton] at hk
    simp only [rset,if_neg hk]
   ·rw [lk_add ho (by omega),if_pos rfl]
   ·rw [mea_leaf];rfl
   ·show textH _ 0 r.next=_
    rw [textH,lk_add ho (by omega),if_pos rfl,Tr.txt,if_pos rfl,Tr.txtO_getD,hk]
    simp [Tr.txtL,Nd.copy]
 | @inner h l hh h2 h4 hl hb hv ih =>
  intro hb2 r ho hg hE hc rx its R ρ ha hR hnd
  have eb:(Tr.mk 0 (h+1) .zero [] (some l)).bytes=Tr.bytesL l:=by rw [Tr.bytes,Tr.bytesO];simp [Mea.zero]
  have hbs:∀ u∈l,u.bytes≤65536:=fun u hu=>by
   obtain ⟨i,hi,rfl⟩:=List.getElem_of_mem hu
   have h3:Tr.bytesL l=Tr.bytesL (l.take i)+(l[i].bytes+Tr.bytesL (l.drop (i+1))):=by
    conv=>lhs;rw [← List.take_append_drop (i+1) l,take_succ_get (List.getElem?_eq_getElem hi),Tr.bytesL_append,Tr.bytesL_append]
    simp [Tr.bytesL];omega
   have n1:=Tr.bytesL_nonneg (l:=l.take i) (fun t ht=>by have:=(hv t (List.mem_of_mem_take ht)).pos.2;omega)
   have n2:=Tr.bytesL_nonneg (l:=l.drop (i+1)) (fun t ht=>by have:=(hv t (List.mem_of_mem_drop ht)).pos.2;omega)
   omega
  have ec:(Tr.mk 0 (h+1) .zero [] (some l)).cnt=Tr.cntL l+1:=by rw [Tr.cnt,Tr.cntO];simp;omega
  rw [ec] at hc
  have hbl:(sumM (l.map Tr.mea)).b=Tr.bytesL l:=sumM_b l fun u hu=>(hv u hu).mea_ok.1
  have e:(Tr.mk 0 (h+1) .zero [] (some l)).wr r=((Tr.wrL l r).1.add ⟨h+1,[],some (Tr.wrL l r).2.1⟩,⟨(Tr.wrL l r).1.next,h+1,sumM ((Tr.wrL l r).2.1.map Kid.m)⟩,(Tr.wrL l r).2.2++[(Tr.wrL l r).1.next]):=by
   rw [Tr.wr];simp [Tr.wrO]
  rw [e,ec]
  cases ha with
  | kept h0=>exact absurd rfl h0
  | @inner _ _ _ rs i1 R1 hal hn1 hx1 =>
   obtain ⟨ρ1,a1,a2,a3,a4,a5⟩:=execL hN l (fun u hu=>⟨hv u hu,hl u hu,fun q=>hb u hu (by rw [← hl u hu];exact q)⟩) (fun u hu=>ih u hu (hbs u hu)) r ho hg hE (by omega) rs i1 R1 ρ hal (fun p hp=>hR p (by simp [hp])) hn1
   have hρ:ρ1 rx=⟨0,h+1,sumM (l.map Tr.mea)⟩:=by rw [a3 rx hx1];exact hR (rx,⟨0,h+1,sumM (l.map Tr.mea)⟩) (by simp)
   have hn:0<(Tr.wrL l r).1.n:=by have:=a4.n;omega
   generalize hks:(Tr.wrL l r).2.1=ks at *
   generalize (Tr.wrL l r).1=r1 at *
   have hx:NdOk ⟨h+1,[],some ks⟩:=.inr ⟨h,ks,rfl,by omega,by have:=a5.len;omega,by have:=a5.len;omega,fun k hk=>(a5.ok k hk).1,by rw [a5.m,hbl];omega⟩
   have hki:KidsIn r1.nodes ⟨h+1,[],some ks⟩:=fun k hk=>by
    obtain ⟨_,_,y,y1,y2,y3,y4⟩:=a5.ok k hk
    exact ⟨y,y1,y2,by show y.h+1=h+1;omega,y4⟩
   have hnd2:ndOf ρ1 (.inn (h+1) rs)=⟨h+1,[],some ks⟩:=by rw [ndOf,a2]
   have hrun:RunOk [⟨rx,.inn (h+1) rs⟩] r1 ρ1 (r1.add ⟨h+1,[],some ks⟩) (rset ρ1 rx r1.next) [r1.next]:=by
    have:=RunOk.cons (it:=⟨rx,.inn (h+1) rs⟩) (ρ:=ρ1) hn (by rw [hnd2];exact hx) (by rw [hnd2];exact hki) .nil
    rw [hnd2] at this
    exact this
   refine ⟨rset ρ1 rx r1.next,a1.append hrun,?_,fun k hk=>?_,a4.trans (.one a4.ok hn a4.good hx hki (fun k hk=>(a5.ok k hk).2.1)),⟨?_,rfl,⟨(⟨h+1,[],some ks⟩:Nd).copy,?_,hx.copy,rfl,?_⟩,?_⟩⟩
   ·simp only [rset,if_true,hρ,Ro.wr,a5.m]
   ·rw [List.map_append,List.mem_append,not_or] at hk
    have:k≠rx:=fun q=>hk.2 (by simp [q])
    simp only [rset,if_neg this]
    exact a3 k hk.1
   ·rw [mea_in]
    show sumM (ks.map Kid.m)=_
    rw [a5.m]
   ·rw [lk_add a4.ok hn,if_pos rfl]
   ·rw [mea_in,← a5.m];rfl
   ·show textH _ (h+1) r1.next=_
    rw [textH,lk_add a4.ok hn,if_pos rfl,Tr.txt,if_pos rfl,Tr.txtO,← a5.txt]
    show (ks.flatMap fun k=>textH (r1.add _).nodes h k.at_)=_
    have key:∀ m:List Kid,(∀ k∈m,k∈ks)→(m.flatMap fun k=>textH (r1.add ⟨h+1,[],some ks⟩).nodes h k.at_)=m.flatMap fun k=>textH r1.nodes h k.at_:=by
     intro m
     induction m with
     | nil=>intro _;rfl
     | cons k m ih2 =>
      intro q
      obtain ⟨_,_,y,y1,y2,y3,y4⟩:=a5.ok k (q k (by simp))
      rw [List.flatMap_cons,List.flatMap_cons,textH_ext a4.good (ext_add a4.ok hn _) h k.at_ y y1 y3,ih2 (fun w hw=>q w (by simp [hw]))]
    exact key ks fun _ h=>h
end Go.Q15
namespace Go.Q15
open Go Go.QAbs
set_option maxRecDepth 100000
set_option maxHeartbeats 8000000
theorem ClsOk.get {n ip:Nat} {F:List (Nat × Blk)} {cs:List AV} {is:List It} (h:ClsOk n ip F cs is):∀ {j:Nat} {it:It},is[j]?=some it→∃ c,cs[j]?=some c∧ClOk n ip F c it:=by
 induction h with
 | nil=>intro j it hj;simp at hj
 | cons hc ht ih =>
  intro j it hj
  cases j with
  | zero =>
   simp only [List.getElem?_cons_zero,oJ] at hj
   subst hj
   exact ⟨_,rfl,hc⟩
  | succ j=>exact ih hj
def TdOk (st:St) (n tx ver j:Nat) (cls:List AV) (td:AV):Prop:=(cls=[]∧td=.nils)∨(cls≠[]∧td=.ref n tx ver j (cls.length-j)∧st.get n tx=some (.arr 1 ver cls))
structure PenS (st:St) (n ip tx ver la b:Nat) (cls:List AV) (its:List It) (F:List (Nat × Blk)) (keys:List Nat) (rx:Nat) (ρ:Nat→Ro) (j:Nat):Prop where
 wr:st.wr n
 pen:∃ td,st.get n ip=some (.arr 3 0 [.agg [.ptr la (b+5) 0 0 0,td,.ptr n rx 0 0 0]])∧TdOk st n tx ver j cls td
 cl:ClsOk n ip F cls its
 fx:∀ p∈F,st.get n p.1=some p.2
 rts:∀ k∈keys,st.get n k=some (.arr 5 0 [(ρ k).av])
 key:∀ it∈its,it.rx∈keys∧∀ k∈itKs it.c,k∈keys
 rk:rx∈keys
 s1:∀ k∈keys,k≠ip∧k≠tx
 s2:tx≠ip
 s3:∀ p∈F,p.1∉keys∧p.1≠ip∧p.1≠tx
 ar:∀ i,i=ip∨(cls≠[]∧i=tx)∨i∈keys∨(∃ p∈F,i=p.1)→¬ (n=la∧b≤i∧i≤b+5)
 len:cls.length<1000000
 jl:j≤cls.length
theorem Root_c {st:St} {n ip tx ver la b:Nat} {cls:List AV} {its:List It} {F:List (Nat × Blk)} {keys:List Nat} {rx:Nat} {ρ:Nat→Ro} {j:Nat} (h:PenS st n ip tx ver la b cls its F keys rx ρ j) (hj:j=cls.length):S Tb F_rope_Pen_Root [.ptr n ip 0 0 0] st=some (.tup [(ρ rx).av,.int .i64 0],st):=by
 obtain ⟨td,h1,h2⟩:=h.pen
 have h3:=h.rts rx h.rk
 refine s_of rfl (fun A hA=>?_)
 have g1:=fun L=>get_old hA (ro:=false) (L:=L) h1
 have g3:=fun L=>get_old hA (ro:=false) (L:=L) h3
 unfold Ro.av at g3 ⊢
 rcases h2 with ⟨_,rfl⟩|⟨_,rfl,_⟩
 all_goals repeat' (first|refine ru_seq ?_|refine ru_reg ?_|refine is_mv rfl ?_|refine is_fadr rfl rfl ?_|refine is_nil rfl ?_|refine rk_seq ?_|refine is_nilck rfl rfl ?_|refine is_lenR rfl ?_|refine is_lenN rfl ?_|(refine is_gtr rfl rfl (fun _=>?_) (fun _=>?_)<;>try (exfalso;omega))|refine ru_iteF rfl ?_|refine is_eqs rfl rfl rfl rfl ?_|refine is_box rfl rfl rfl ?_|refine is_stb rfl rfl rfl rfl rfl rfl ?_|refine is_ld rfl (g1 _) rfl rfl ?_|refine is_ld rfl (g3 _) rfl rfl ?_|refine ru_skip ?_|refine ru_ret ?_|refine rk_nil ?_)
 all_goals try (exfalso;omega)
 all_goals refine end_c hA (by first|exact .inl rfl|exact .inr rfl) rfl rfl rfl rfl rfl ?_
 all_goals rfl
def stepSt (st:St) (n ip tx ver la b:Nat) (len:Nat) (rx:Nat) (r':AR) (k:Nat) (ro:Ro) (j:Nat):St :=
 ((arSt st la b r').upd n k (.arr 5 0 [ro.av])).upd n ip (.arr 3 0 [.agg [.ptr la (b+5) 0 0 0,.ref n tx ver (j+1) (len-j-1),.ptr n rx 0 0 0]])
theorem PenS.step {st:St} {n ip tx ver la b:Nat} {cls:List AV} {its:List It} {F:List (Nat × Blk)} {keys:List Nat} {rx:Nat} {ρ:Nat→Ro} {j:Nat} (h:PenS st n ip tx ver la b cls its F keys rx ρ j) {r:AR} (hA:Has st la b r) (ho:AROk r) (hn:0<r.n) {it:It} (hj:its[j]?=some it)
 (hx:NdOk (ndOf ρ it.c)) (hk:KidsIn r.nodes (ndOf ρ it.c)) :
 S Tb F_rope_Pen_Step [.ptr n ip 0 0 0] st=some (.tup [.int .u64 r.next,.bool (decide (cls.length=j+1)),.int .i64 0],stepSt st n ip tx ver la b cls.length rx (r.add (ndOf ρ it.c)) it.rx ((ρ it.rx).wr r.next) j) ∧
 PenS (stepSt st n ip tx ver la b cls.length rx (r.add (ndOf ρ it.c)) it.rx ((ρ it.rx).wr r.next) j) n ip tx ver la b cls its F keys rx (rset ρ it.rx r.next) (j+1) ∧
 Has (stepSt st n ip tx ver la b cls.length rx (r.add (ndOf ρ it.c)) it.rx ((ρ it.rx).wr r.next) j) la b (r.add (ndOf ρ it.c)):=by
 obtain ⟨td,h1,h2⟩:=h.pen
 obtain ⟨cl,c1,c2⟩:=h.cl.get hj
 have hjl:=(List.getElem?_eq_some_iff.1 c1).1
 have hm:=List.mem_of_getElem? hj
 obtain ⟨k1,k2⟩:=h.key it hm
 have hrx:=h.rts it.rx k1
 have hrp:=h.s1 it.rx k1
 have hne:cls≠[]:=fun q=>by rw [q] at c1;simp at c1
 rcases h2 with ⟨q,_⟩|⟨_,rfl,h3⟩
 ·exact absurd q hne
 have hS:=Step_c (it:=it) (ρ:=ρ) (b0:=0) (b1:=0) (b2:=0) (cv:=.nils) h3 c1 c2 h.len h1 h.fx (fun k hk=>h.rts k (k2 k hk)) hrx hA ho hn hx hk h.wr (fun i hi=>h.ar i (by
  rcases hi with rfl|rfl|rfl|q
  ·exact .inr (.inr (.inl k1))
  ·exact .inl rfl
  ·exact .inr (.inl ⟨hne,rfl⟩)
  ·exact .inr (.inr (.inr q)))) ⟨hrp.1,hrp.2,h.s2⟩
 have a1:∀ i,¬ (n=la∧b≤i∧i≤b+5)→(arSt st la b (r.add (ndOf ρ it.c))).get n i=st.get n i:=fun i hi=>hA.out _ hi
 have g1:∀ l' i',((arSt st la b (r.add (ndOf ρ it.c))).upd n it.rx (.arr 5 0 [((ρ it.rx).wr r.next).av])).get l' i'=if l'=n∧i'=it.rx then some (.arr 5 0 [((ρ it.rx).wr r.next).av]) else (arSt st la b (r.add (ndOf ρ it.c))).get l' i' :=
  fun l' i'=>St.get_upd ((a1 _ (h.ar _ (.inr (.inr (.inl k1))))).trans hrx) rfl
 have hp0:((arSt st la b (r.add (ndOf ρ it.c))).upd n it.rx (.arr 5 0 [((ρ it.rx).wr r.next).av])).get n ip=_:=(g1 n ip).trans ((if_neg (fun q=>hrp.1 q.2.symm)).trans ((a1 _ (h.ar _ (.inl rfl))).trans h1))
 have g2:∀ l' i',(stepSt st n ip tx ver la b cls.length rx (r.add (ndOf ρ it.c)) it.rx ((ρ it.rx).wr r.next) j).get l' i'=if l'=n∧i'=ip then some (.arr 3 0 [.agg [.ptr la (b+5) 0 0 0,.ref n tx ver (j+1) (cls.length-j-1),.ptr n rx 0 0 0]]) else if l'=n∧i'=it.rx then some (.arr 5 0 [((ρ it.rx).wr r.next).av]) else (arSt st la b (r.add (ndOf ρ it.c))).get l' i':=fun l' i'=>by
  rw [stepSt,St.get_upd hp0 rfl,g1]
 have hw1:(arSt st la b (r.add (ndOf ρ it.c))).wr n:=putC_wr hA.cl.wr h.wr
 have hwl:(arSt st la b (r.add (ndOf ρ it.c))).wr la:=(hA.put _).wr
 have hw2:∀ {l:Nat},(arSt st la b (r.add (ndOf ρ it.c))).wr l→(stepSt st n ip tx ver la b cls.length rx (r.add (ndOf ρ it.c)) it.rx ((ρ it.rx).wr r.next) j).wr l:=fun w=>St.wr_upd (St.wr_upd hw1 hw1) (St.wr_upd hw1 w)
 refine ⟨hS,⟨hw2 hw1,⟨_,by rw [g2,if_pos ⟨rfl,rfl⟩,Nat.sub_sub],.inr ⟨hne,rfl,?_⟩⟩,h.cl,fun p hp=>?_,fun k hk=>?_,h.key,h.rk,h.s1,h.s2,h.s3,h.ar,h.len,hjl⟩,?_⟩
 ·rw [g2,if_neg (fun q=>h.s2 q.2),if_neg (fun q=>hrp.2 q.2.symm),a1 _ (h.ar _ (.inr (.inl ⟨hne,rfl⟩)))];exact h3
 ·obtain ⟨q1,q2,q3⟩:=h.s3 p hp
  rw [g2,if_neg (fun q=>q2 q.2),if_neg (fun q=>q1 (by rw [q.2];exact k1)),a1 _ (h.ar _ (.inr (.inr (.inr ⟨p,hp,rfl⟩))))];exact h.fx p hp
 ·obtain ⟨q1,q2⟩:=h.s1 k hk
  rw [g2,if_neg (fun q=>q1 q.2)]
  unfold rset
  by_cases e:k=it.rx
  ·subst e;rw [if_pos ⟨rfl,rfl⟩,if_pos rfl]
  ·rw [if_neg (fun q=>e q.2),if_neg e,a1 _ (h.ar _ (.inr (.inr (.inl hk))))];exact h.rts k hk
 ·have hP:=hA.put (r.add (ndOf ρ it.c))
  have n1:∀ i,b≤i→i≤b+5→¬ (la=n∧i=ip)∧¬ (la=n∧i=it.rx):=fun i i1 i2=>⟨fun q=>h.ar ip (.inl rfl) ⟨q.1.symm,by omega,by omega⟩,fun q=>h.ar it.rx (.inr (.inr (.inl k1))) ⟨q.1.symm,by omega,by omega⟩⟩
  have gg:∀ i,b≤i→i≤b+5→(stepSt st n ip tx ver la b cls.length rx (r.add (ndOf ρ it.c)) it.rx ((ρ it.rx).wr r.next) j).get la i=(arSt st la b (r.add (ndOf ρ it.c))).get la i:=fun i i1 i2=>by
   rw [g2,if_neg (n1 i i1 i2).1,if_neg (n1 i i1 i2).2]
  exact ⟨hw2 hwl,(gg _ (by omega) (by omega)).trans hP.h0,(gg _ (by omega) (by omega)).trans hP.h1,(gg _ (by omega) (by omega)).trans hP.h2,(gg _ (by omega) (by omega)).trans hP.h3,(gg _ (by omega) (by omega)).trans hP.h4,(gg _ (by omega) (by omega)).trans hP.h5⟩
end Go.Q15
namespace Go.Q15
open Go Go.QAbs
set_option maxRecDepth 100000
set_option maxHeartbeats 8000000
theorem get_appR {A:List (Bool × List Blk)} {ro:Bool} {L:List Blk} {lv ix:Nat} {b:Blk} (T:List Blk) (h:St.get ⟨A,ro,L⟩ lv ix=some b):St.get ⟨A,ro,L++T⟩ lv ix=some b:=by
 unfold St.get at h ⊢
 simp only at h ⊢
 split
 ·rename_i q
  rw [if_pos q] at h
  have h2:=(vis_noH h).1
  rw [List.getElem?_append_left (List.getElem?_eq_some_iff.1 h2).1];exact h
 ·rename_i q
  rw [if_neg q] at h;exact h
theorem HasR.app {A:List (Bool × List Blk)} {ro:Bool} {L:List Blk} {la b:Nat} {r:AR} (h:HasR ⟨A,ro,L⟩ la b r) (T:List Blk):HasR ⟨A,ro,L++T⟩ la b r :=
 ⟨get_appR T h.h0,get_appR T h.h1,get_appR T h.h2,get_appR T h.h3,get_appR T h.h4,get_appR T h.h5⟩
mutual
theorem AddT.keys:∀ {t:Tr} {rx:Nat} {its:List It} {R:List (Nat × Ro)},AddT t rx its R→rx∈R.map Prod.fst∧∀ it∈its,it.rx∈R.map Prod.fst∧∀ k∈itKs it.c,k∈R.map Prod.fst
 | _,_,_,_,.kept h0=>⟨by simp,fun it h=>by simp at h⟩
 | _,_,_,_,.leaf=>⟨by simp,fun it h=>by simp only [List.mem_singleton] at h;subst h;exact ⟨by simp,fun k hk=>by simp [itKs] at hk⟩⟩
 | _,_,_,_,.inner hl hn hx=>by
  obtain ⟨h1,h2⟩:=AddL.keys hl
  refine ⟨by simp,fun it h=>?_⟩
  rcases List.mem_append.1 h with q|q
  ·obtain ⟨a1,a2⟩:=h2 it q
   exact ⟨by rw [List.map_append];exact List.mem_append_left _ a1,fun k hk=>by rw [List.map_append];exact List.mem_append_left _ (a2 k hk)⟩
  ·simp only [List.mem_singleton] at q
   subst q
   exact ⟨by simp,fun k hk=>by rw [List.map_append];exact List.mem_append_left _ (h1 k hk)⟩
theorem AddL.keys:∀ {l:List Tr} {rs:List Nat} {its:List It} {R:List (Nat × Ro)},AddL l rs its R→(∀ r∈rs,r∈R.map Prod.fst)∧∀ it∈its,it.rx∈R.map Prod.fst∧∀ k∈itKs it.c,k∈R.map Prod.fst
 | _,_,_,_,.nil=>⟨fun r h=>by simp at h,fun it h=>by simp at h⟩
 | _,_,_,_,.cons ht hl=>by
  obtain ⟨a1,a2⟩:=ht.keys
  obtain ⟨b1,b2⟩:=hl.keys
  refine ⟨fun r h=>?_,fun it h=>?_⟩
  ·rw [List.map_append]
   rcases List.mem_cons.1 h with rfl|q
   ·exact List.mem_append_left _ a1
   ·exact List.mem_append_right _ (b1 r q)
  ·rw [List.map_append]
   rcases List.mem_append.1 h with q|q
   ·exact ⟨List.mem_append_left _ (a2 it q).1,fun k hk=>List.mem_append_left _ ((a2 it q).2 k hk)⟩
   ·exact ⟨List.mem_append_right _ (b2 it q).1,fun k hk=>List.mem_append_right _ ((b2 it q).2 k hk)⟩
end
def roOf (R:List (Nat × Ro)) (k:Nat):Ro:=((R.find? fun p=>p.1 == k).map Prod.snd).getD .zero
theorem roOf_ok:∀ {R:List (Nat × Ro)},(R.map Prod.fst).Nodup→∀ p∈R,roOf R p.1=p.2
 | [],_,p,hp=>by simp at hp
 | q::R,hn,p,hp=>by
  rw [List.map_cons,List.nodup_cons] at hn
  unfold roOf
  rw [List.find?_cons]
  rcases List.mem_cons.1 hp with rfl|w
  ·simp
  ·have:q.1≠p.1:=fun e=>hn.1 (by rw [e];exact List.mem_map.2 ⟨p,w,rfl⟩)
   rw [show (q.1 == p.1)=false by simp [this]]
   exact roOf_ok hn.2 p w
def PI (t:Tr) (its:List It) (rx:Nat) (ρ:Nat→Ro):Prop:=(IsEmpty t∧its=[]∧ρ rx=.zero)∨(∃ N,Val N t)∧∃ R,AddT t rx its R∧(∀ p∈R,ρ p.1=p.2)∧(R.map Prod.fst).Nodup
def nw (t:Tr):Nat:=if t.old=0∧t.h=0∧t.text=[] then 0 else t.cnt
theorem nw_val {N:Nodes} {t:Tr} (hv:Val N t):nw t=t.cnt:=by
 unfold nw
 cases hv with
 | kept h0=>rw [if_neg];simp [Tr.old,h0]
 | leaf h1=>rw [if_neg];rintro ⟨_,_,q⟩;simp only [Tr.text] at q;rw [q] at h1;simp at h1
 | inner=>rw [if_neg];simp [Tr.h]
structure Begun (A:List (Bool × List Blk)) (L L2:List Blk) (la b:Nat) (t:Tr) (tx ver:Nat) (cs:List AV) (its:List It) (F:List (Nat × Blk)) (keys:List Nat) (rx:Nat) (ρ:Nat→Ro):Prop where
 ps:PenS ⟨A,false,L2⟩ A.length (L.length+1) tx ver la b cs its F keys rx ρ 0
 len:L.length+2≤L2.length
 old:∀ i,i<L.length→L2[i]?=L[i]?
 klo:∀ k∈keys,L.length+2≤k
 flo:∀ p∈F,L.length+2≤p.1
 tlo:cs≠[]→L.length+2≤tx
 pi:PI t its rx ρ
theorem begin_val {N:Nodes} {A:List (Bool × List Blk)} {L:List Blk} {la b:Nat} {r:AR} (hA:HasR ⟨A,false,L⟩ la b r) (hN:r.n≤r.blk.length) (h16:r.states.length≤16384) (h6:r.n<65536) {t:Tr} (hv:Val r.nodes t) (hb:t.bytes≤65536) (hn:t.cnt≤r.n) :
 ∃ L2 tx ver cs its F keys rx ρ,S Tb F_rope_Begin [.ptr la (b+5) 0 0 0,t.av] ⟨A,false,L⟩=some (.tup [.ptr A.length (L.length+1) 0 0 0,.int .i64 0],⟨A,false,L2⟩)∧Begun A L L2 la b t tx ver cs its F keys rx ρ:=by
 have hCk:=fun T=>Check_val (hA.app T).rd hv hb
 have hNw:=fun st=>New_c hv (by omega) st
 have hSt:=fun T=>Stats_c (hA.app T) hN h16 h6
 unfold AR.statsAV at hSt
 obtain ⟨T,hT⟩:∃ T:List Blk,T=[.arr 7 0 [t.av],.arr 3 0 [.agg [.ptr la (b+5) 0 0 0,.nils,.nilptr]]]:=⟨_,rfl⟩
 have hTl:T.length=2:=by rw [hT];rfl
 have hip:(L++T)[L.length+1]?=some (.arr 3 0 [.agg [.ptr la (b+5) 0 0 0,.nils,.nilptr]]):=by rw [get_app,hT];rfl
 have hP:Pen A (L++T) (L.length+1) (.ptr la (b+5) 0 0 0) .nils []:=⟨⟨_,hip⟩,.inl ⟨rfl,rfl⟩⟩
 obtain ⟨L1,td1,rx,its,cs,R,F,hS,ha⟩:=add_c hv hb hP (by simp;omega)
 obtain ⟨⟨rp,p1⟩,p2⟩:=ha.pen
 rw [lE] at p2
 have hl1:=ha.frm.len
 rw [lL,hTl] at hl1
 have hlt1:L.length+1<L1.length:=(List.getElem?_eq_some_iff.1 p1).1
 have hkl:∀ k∈R.map Prod.fst,L.length+2≤k:=fun k hk=>by
  obtain ⟨p,hp,rfl⟩:=List.mem_map.1 hk
  have:=ha.rlo p hp
  rwa [lL,hTl] at this
 have hfl:∀ p∈F,L.length+2≤p.1:=fun p hp=>by
  have:=ha.flo p hp
  rwa [lL,hTl] at this
 have hg:∀ i,i≠L.length+1→∀ B,(L1.set (L.length+1) B)[i]?=L1[i]?:=fun i hi B=>List.getElem?_set_ne (fun q=>hi q.symm)
 obtain ⟨q1,q2⟩:=ha.tr.keys
 have hbl:la=A.length→b+5<L.length:=fun e=>by
  have:=hA.h5
  subst e
  rw [St.get_cur] at this
  exact (List.getElem?_eq_some_iff.1 (vis_noH this).1).1
 -- where the list lies
 obtain ⟨tx,ver,t1,t2,t3⟩:∃ tx ver,(cs=[]∧td1=.nils∧tx=L.length∨cs≠[]∧td1=.ref A.length tx ver 0 cs.length∧L1[tx]?=some (.arr 1 ver cs)∧L.length+2≤tx∧penX (L.length+1) td1 tx)∧tx≠L.length+1∧(∀ k,L.length+2≤k→¬ penX (L.length+1) td1 k→k≠tx):=by
  rcases p2 with ⟨e1,e2⟩|⟨tx,ver,e1,e2,e3,e4⟩
  ·exact ⟨L.length,0,.inl ⟨e2,e1,rfl⟩,by omega,fun k hk _=>by omega⟩
  ·have hX:penX (L.length+1) td1 tx:=.inr ⟨_,_,_,_,e1⟩
   refine ⟨tx,ver,.inr ⟨e4,e1,e2,?_,hX⟩,e3,fun k hk hn q=>hn (by rw [q];exact hX)⟩
   rcases ha.frm.own tx hX with w|w
   ·rcases w with w|⟨_,_,_,_,w⟩
    ·exact absurd w e3
    ·simp at w
   ·rwa [lL,hTl] at w
 refine ⟨L1.set (L.length+1) (.arr 3 0 [.agg [.ptr la (b+5) 0 0 0,td1,.ptr A.length rx 0 0 0]]),tx,ver,cs,its,F,R.map Prod.fst,rx,roOf R,s_keep rfl ?_,⟨⟨by simp [St.wr],⟨td1,by rw [St.get_cur,List.getElem?_set_self hlt1];rfl,?_⟩,ha.cl,?_,?_,q2,q1,?_,t2,?_,?_,?_,Nat.zero_le _⟩,by rw [List.length_set];omega,?_,hkl,hfl,fun hc=>(by
  rcases t1 with ⟨w,_⟩|⟨_,_,_,w,_⟩
  ·exact absurd w hc
  ·exact w),.inr ⟨⟨_,hv⟩,R,ha.tr,roOf_ok ha.nd,ha.nd⟩⟩⟩
 ·have e0:(⟨A,false,L⟩:St)=⟨A,false,L++[]⟩:=by rw [lN]
  rw [e0]
  rw [hT] at hS
  repeat' (first|refine is_boxA rfl (tr_wide _) (tr_force _) rfl rfl ?_|refine is_boxA rfl rfl rfl rfl rfl ?_|refine is_ldA rfl rfl rfl (tr_part _) ?_|refine ru_seq ?_|refine ru_reg ?_|refine is_mv rfl ?_|refine is_fadr rfl rfl ?_|refine is_nil rfl ?_|refine rk_seq ?_|refine is_fld (agg:=false) rfl rfl ?_|refine is_nilck rfl rfl ?_|(refine is_gtr rfl rfl (fun _=>?_) (fun _=>?_)<;>try (exfalso;omega))|(refine is_neq rfl rfl (fun _=>?_) (fun _=>?_)<;>try (exfalso;omega))|refine ru_iteF rfl ?_|refine is_buildO rfl rfl rfl ?_|refine is_callE rfl rfl (by first|rfl|(simp only [lE,lN,lC,weaks,tr_weak,forceL];first|done|rfl)) (hCk _) ?_|refine is_callE rfl rfl (by first|rfl|(simp only [lE,lN,lC,weaks,tr_weak,forceL];first|done|rfl)) (hNw _) ?_|refine is_callE rfl rfl (by first|rfl|(simp only [lE,lN,lC,weaks,tr_weak,forceL];first|done|rfl)) (hSt _) ?_|refine is_callE rfl rfl (by first|rfl|(simp only [lE,lN,lC,weaks,tr_weak,forceL];first|done|rfl)) (hS) ?_|refine ru_skip ?_)
  all_goals try (exfalso;omega)
  refine is_stn p1 rfl rfl rfl ?_ rfl ?_
  ·simp only [sealV,deep,if_pos (Nat.lt_succ_self _)]
  repeat' (first|refine ru_seq ?_|refine ru_reg ?_|refine is_mv rfl ?_|refine is_nil rfl ?_|refine rk_seq ?_|refine ru_ret ?_|refine rk_nil ?_)
  refine (end_keep (.inr rfl) rfl rfl rfl rfl).trans ?_
  rfl
 ·rcases t1 with ⟨e1,e2,e3⟩|⟨e0,e1,e2,e3⟩
  ·exact .inl ⟨e1,e2⟩
  ·exact .inr ⟨e0,e1,by rw [St.get_cur,hg _ t2,e2];rfl⟩
 ·intro p hp
  obtain ⟨f1,f2⟩:=ha.fx p hp
  obtain ⟨w,v,es,f3,f4⟩:=ha.fw p hp
  have:p.1≠L.length+1:=fun q=>f2 (.inl q)
  rw [St.get_cur,hg _ this,f1,f3];rfl
 ·intro k hk
  obtain ⟨p,hp,rfl⟩:=List.mem_map.1 hk
  obtain ⟨f1,f2⟩:=ha.rts.get hp
  have:p.1≠L.length+1:=fun q=>f2 (.inl q)
  rw [St.get_cur,hg _ this,f1,roOf_ok ha.nd p hp];rfl
 ·intro k hk
  have h1:=hkl k hk
  obtain ⟨p,hp,rfl⟩:=List.mem_map.1 hk
  exact ⟨by omega,t3 _ h1 (ha.rts.get hp).2⟩
 ·intro p hp
  obtain ⟨f1,f2⟩:=ha.fx p hp
  obtain ⟨w,v,es,f3,f4⟩:=ha.fw p hp
  have h1:=hfl p hp
  refine ⟨fun q=>?_,by omega,t3 _ h1 f2⟩
  obtain ⟨u,hu,e⟩:=List.mem_map.1 q
  have f5:=(ha.rts.get hu).1
  rw [e,f1,f3] at f5
  simp only [oJ,Blk.arr.injEq] at f5
  exact f4 f5.1
 ·intro i hi ⟨e1,e2,e3⟩
  have:=hbl e1.symm
  rcases hi with rfl|⟨c1,rfl⟩|q|⟨p,hp,rfl⟩
  ·omega
  ·rcases t1 with ⟨w,_⟩|⟨_,_,_,w,_⟩
   ·exact c1 w
   ·omega
  ·have:=hkl i q;omega
  ·have:=hfl p hp;omega
 ·have h1:=ha.cl.len
  have h2:=ha.tr.cnt
  omega
 ·intro i hi
  rw [hg i (by omega),ha.frm.old i (by rw [lL];omega) (fun q=>?_),List.getElem?_append_left hi]
  rcases q with q|⟨_,_,_,_,q⟩
  ·omega
  ·simp at q
theorem get_top {A:List (Bool × List Blk)} {ro:Bool} {L:List Blk} {i:Nat} {b:Blk} (h:L[i]?=some b) (hv:vis (some b)=some b):St.get ⟨A,ro,L⟩ A.length i=some b:=by rw [St.get_cur,h,hv]
theorem New_empty {t:Tr} (ht:IsEmpty t) (st:St):S Tb F_plan_New [t.av] st=some (.int .i64 (0:Nat),st) :=
 New_leafy (c:=1) ht.ks (fun st=>kind_empty t ht st) st
theorem begin_empty {A:List (Bool × List Blk)} {L:List Blk} {la b:Nat} {r:AR} (hA:HasR ⟨A,false,L⟩ la b r) (hN:r.n≤r.blk.length) (h16:r.states.length≤16384) (h6:r.n<65536) {t:Tr} (ht:IsEmpty t) :
 ∃ L2 tx ver cs its F keys rx ρ,S Tb F_rope_Begin [.ptr la (b+5) 0 0 0,t.av] ⟨A,false,L⟩=some (.tup [.ptr A.length (L.length+1) 0 0 0,.int .i64 0],⟨A,false,L2⟩)∧Begun A L L2 la b t tx ver cs its F keys rx ρ:=by
 have hCk:=fun T=>Check_empty (st:=⟨A,false,L++T⟩) (lv:=la) (ix:=b+5) ht
 have hNw:=fun st=>New_empty ht st
 have hSt:=fun T=>Stats_c (hA.app T) hN h16 h6
 unfold AR.statsAV at hSt
 have hbl:la=A.length→b+5<L.length:=fun e=>by
  have:=hA.h5
  subst e
  rw [St.get_cur] at this
  exact (List.getElem?_eq_some_iff.1 (vis_noH this).1).1
 obtain ⟨T,hT⟩:∃ T:List Blk,T=[.arr 7 0 [t.av],.arr 3 0 [.agg [.ptr la (b+5) 0 0 0,.nils,.nilptr]]]:=⟨_,rfl⟩
 have hadd:S Tb F_rope_Pen_add [.ptr A.length (L.length+1) 0 0 0,t.av] ⟨A,false,L++T⟩=some (.ptr A.length ((L++T).length+1) 0 0 0,⟨A,false,(L++T)++[.arr 7 0 [t.av],.arr 5 0 [Ro.zero.av]]⟩):=by
  refine s_keep rfl ?_
  have e0:(⟨A,false,L++T⟩:St)=⟨A,false,(L++T)++[]⟩:=by rw [lN]
  rw [e0]
  generalize L++T=L0
  obtain ⟨o,h,m,s,k⟩:=t
  obtain ⟨h1,h2,h3,h4,h5⟩:=ht
  simp only [Tr.old,Tr.h,Tr.m,Tr.text,Tr.ks] at h1 h2 h3 h4 h5
  subst h1 h2 h3 h4
  obtain ⟨ka,hka,hka2⟩:∃ ka,Tr.avO k=ka∧(ka=.nils∨ka=.lit []):=by
   cases k with
   | none=>exact ⟨_,rfl,.inl rfl⟩
   | some l=>have:l=[]:=h5;subst this;exact ⟨_,rfl,.inr rfl⟩
  simp only [Tr.av,Mea.zero,hka] at *
  rcases hka2 with rfl|rfl
  all_goals repeat' (first|refine is_boxA rfl rfl rfl rfl rfl ?_|refine is_ldA rfl rfl rfl rfl ?_|refine ru_seq ?_|refine ru_reg ?_|refine is_mv rfl ?_|refine is_fadr rfl rfl ?_|refine is_gT rfl ?_|refine is_pick rfl rfl rfl rfl ?_|refine is_nil rfl ?_|refine rk_seq ?_|refine is_lenF rfl rfl ?_|refine is_lenN rfl ?_|(refine is_eql rfl rfl (fun _=>?_) (fun _=>?_)<;>try (exfalso;omega))|(refine is_neq rfl rfl (fun _=>?_) (fun _=>?_)<;>try (exfalso;omega))|(refine is_eqlS rfl rfl (fun _=>?_) (fun _=>?_)<;>try contradiction)|refine ru_iteT rfl ?_|refine is_buildO rfl rfl rfl ?_|refine ru_skip ?_|refine ru_ret ?_|refine ru_block ?_|refine rk_nil ?_|refine rk_blk ?_)
  all_goals try contradiction
  all_goals try (exfalso;omega)
  all_goals refine (end_keep (.inr rfl) rfl rfl rfl rfl).trans ?_
  all_goals rfl
 have hTl:T.length=2:=by rw [hT];rfl
 have hl2:(L++T).length=L.length+2:=by rw [lL,hTl]
 rw [hl2] at hadd
 have p1:((L++T)++[Blk.arr 7 0 [t.av],Blk.arr 5 0 [Ro.zero.av]])[L.length+1]?=some (.arr 3 0 [.agg [.ptr la (b+5) 0 0 0,.nils,.nilptr]]):=by
  rw [List.append_assoc,get_app,hT];rfl
 refine ⟨((L++T)++[Blk.arr 7 0 [t.av],Blk.arr 5 0 [Ro.zero.av]]).set (L.length+1) (Blk.arr 3 0 [.agg [.ptr la (b+5) 0 0 0,.nils,.ptr A.length (L.length+3) 0 0 0]]),L.length,0,[],[],[],[L.length+3],L.length+3,fun _=>.zero,s_keep rfl ?_,⟨⟨by simp [St.wr],⟨.nils,?_,.inl ⟨rfl,rfl⟩⟩,.nil,fun p hp=>by simp at hp,fun k hk=>?_,fun it hi=>by simp at hi,by simp,fun k hk=>?_,by omega,fun p hp=>by simp at hp,fun i hi=>?_,by simp,Nat.zero_le _⟩,by simp,fun i hi=>?_,fun k hk=>?_,fun p hp=>by simp at hp,fun hc=>absurd rfl hc,.inl ⟨ht,rfl,rfl⟩⟩⟩
 ·have e0:(⟨A,false,L⟩:St)=⟨A,false,L++[]⟩:=by rw [lN]
  rw [e0]
  rw [hT] at hadd p1 ⊢
  repeat' (first|refine is_boxA rfl (tr_wide _) (tr_force _) rfl rfl ?_|refine is_boxA rfl rfl rfl rfl rfl ?_|refine is_ldA rfl rfl rfl (tr_part _) ?_|refine ru_seq ?_|refine ru_reg ?_|refine is_mv rfl ?_|refine is_fadr rfl rfl ?_|refine is_nil rfl ?_|refine rk_seq ?_|refine is_fld (agg:=false) rfl rfl ?_|refine is_nilck rfl rfl ?_|(refine is_gtr rfl rfl (fun _=>?_) (fun _=>?_)<;>try (exfalso;omega))|(refine is_neq rfl rfl (fun _=>?_) (fun _=>?_)<;>try (exfalso;omega))|refine ru_iteF rfl ?_|refine is_buildO rfl rfl rfl ?_|refine is_callE rfl rfl (by first|rfl|(simp only [lE,lN,lC,weaks,tr_weak,forceL];first|done|rfl)) (hCk _) ?_|refine is_callE rfl rfl (by first|rfl|(simp only [lE,lN,lC,weaks,tr_weak,forceL];first|done|rfl)) (hNw _) ?_|refine is_callE rfl rfl (by first|rfl|(simp only [lE,lN,lC,weaks,tr_weak,forceL];first|done|rfl)) (hSt _) ?_|refine is_callE rfl rfl (by first|rfl|(simp only [lE,lN,lC,weaks,tr_weak,forceL];first|done|rfl)) (hadd) ?_|refine ru_skip ?_)
  all_goals try (exfalso;omega)
  refine is_stn p1 rfl rfl rfl ?_ rfl ?_
  ·simp only [sealV,deep,if_pos (Nat.lt_succ_self _)]
  repeat' (first|refine ru_seq ?_|refine ru_reg ?_|refine is_mv rfl ?_|refine is_nil rfl ?_|refine rk_seq ?_|refine ru_ret ?_|refine rk_nil ?_)
  refine (end_keep (.inr rfl) rfl rfl rfl rfl).trans ?_
  rfl
 ·exact get_top (List.getElem?_set_self (by simp)) rfl
 ·simp only [List.mem_singleton] at hk
  subst hk
  refine get_top ?_ rfl
  rw [List.getElem?_set_ne (by omega),show L.length+3=(L++T).length+1 by rw [hl2],get_app];rfl
 ·simp only [List.mem_singleton] at hk
  omega
 ·rintro ⟨e1,e2,e3⟩
  have:=hbl e1.symm
  rcases hi with rfl|⟨c1,rfl⟩|q|⟨p,hp,rfl⟩
  ·omega
  ·exact c1 rfl
  ·simp only [List.mem_singleton] at q;omega
  ·simp at hp
 ·rw [List.getElem?_set_ne (by omega),List.append_assoc,List.getElem?_append_left hi]
 ·simp only [List.mem_singleton] at hk
  omega
end Go.Q15
namespace Go.Q15
open Go Go.QAbs
set_option maxRecDepth 100000
set_option maxHeartbeats 8000000
def hnAV (h:Nat):AV:=.int .u64 h
namespace Tr
end Tr
end Go.Q15
namespace Go.Q15
open Go Go.QAbs
set_option maxRecDepth 100000
set_option maxHeartbeats 8000000
def wrV (t:Tr) (r:AR):AR × Ro × List Nat:=if t.old=0∧t.h=0∧t.text=[] then (r,.zero,[]) else t.wr r
theorem wrV_val {N:Nodes} {t:Tr} (hv:Val N t) (r:AR):wrV t r=t.wr r:=by
 unfold wrV
 cases hv with
 | kept h0=>rw [if_neg];simp [Tr.old,h0]
 | leaf h1=>rw [if_neg];rintro ⟨_,_,q⟩;simp only [Tr.text] at q;rw [q] at h1;simp at h1
 | inner=>rw [if_neg];simp [Tr.h]
theorem wrV_empty {t:Tr} (h:IsEmpty t) (r:AR):wrV t r=(r,.zero,[]):=by
 unfold wrV;rw [if_pos ⟨h.old,h.h,h.text⟩]
theorem Val.not_empty {N:Nodes} {t:Tr} (hv:Val N t):¬ IsEmpty t:=fun h=>by
 have:=hv.pos.2
 have:=h.bytes
 omega
theorem PI.run {r:AR} (ho:AROk r) (hg:GoodN r.nodes) {t:Tr} (hv:VE r.nodes t) (hb:t.bytes≤65536) (hn:nw t≤r.n) {its:List It} {rx:Nat} {ρ:Nat→Ro} (h:PI t its rx ρ) :
 ∃ ρ',RunOk its r ρ (wrV t r).1 ρ' (wrV t r).2.2∧ρ' rx=(wrV t r).2.1:=by
 rcases h with ⟨h1,rfl,h2⟩|⟨⟨M,hM⟩,R,h1,h2,h3⟩
 ·rw [wrV_empty h1];exact ⟨ρ,.nil,h2⟩
 ·rcases hv with hv|hv
  ·exact absurd hv hM.not_empty
  ·rw [wrV_val hv]
   rw [nw_val hv] at hn
   obtain ⟨ρ',a1,a2,_⟩:=exec_ok hg hv hb r ho hg (.refl _) hn rx its R ρ h1 h2 h3
   exact ⟨ρ',a1,a2⟩
theorem begin_c {A:List (Bool × List Blk)} {L:List Blk} {la b:Nat} {r:AR} (hA:HasR ⟨A,false,L⟩ la b r) (hN:r.n≤r.blk.length) (h16:r.states.length≤16384) (h6:r.n<65536) {t:Tr} (hv:VE r.nodes t) (hb:t.bytes≤65536) (hn:nw t≤r.n) :
 ∃ L2 tx ver cs its F keys rx ρ,S Tb F_rope_Begin [.ptr la (b+5) 0 0 0,t.av] ⟨A,false,L⟩=some (.tup [.ptr A.length (L.length+1) 0 0 0,.int .i64 0],⟨A,false,L2⟩)∧Begun A L L2 la b t tx ver cs its F keys rx ρ:=by
 rcases hv with hv|hv
 ·exact begin_empty hA hN h16 h6 hv
 ·rw [nw_val hv] at hn
  exact begin_val (N:=r.nodes) hA hN h16 h6 hv hb hn
theorem seal_wr {A:List (Bool × List Blk)} {L:List Blk} {ix ver n:Nat} {l:List Nat} {ro:Ro} {e:Int} (hg:L[ix]?=some (.arr 1 ver (l.map hnAV))) (hn:n=l.length) :
 sealV deep A.length ⟨A,false,L⟩ (.tup [ro.av,.ref A.length ix ver 0 n,.int .i64 e])=some (.tup [ro.av,.lit (l.map hnAV),.int .i64 e],⟨A,false,L.set ix .dead⟩):=by
 subst hn
 have h1:=seal_refO (n:=4) (A:=A) (s:=0) (m:=l.length) hg (by simp) (es':=l.map hnAV) (by
  rw [List.drop_zero,List.take_of_length_le (by simp)]
  exact ints_seal (k:=.u64) (fun n:Nat=>(n:Int)) 3 0 _ l)
 show (mapSt (sealV 5 A.length) _ _).bind tupK=_
 have h2:sealV 5 A.length ⟨A,false,L⟩ ro.av=some (ro.av,⟨A,false,L⟩):=rfl
 simp only [mapSt,h2,oS,h1]
 rfl
theorem RunOk.len {its:List It} {r r':AR} {ρ ρ':Nat→Ro} {hs:List Nat} (h:RunOk its r ρ r' ρ' hs):hs.length=its.length:=by
 induction h with
 | nil=>rfl
 | cons hn hx hk h ih=>simp [ih]
theorem RunOk.inv {it:It} {its:List It} {r r':AR} {ρ ρ':Nat→Ro} {l:List Nat} (h:RunOk (it::its) r ρ r' ρ' l) :
 ∃ hs,l=r.next::hs∧0<r.n∧NdOk (ndOf ρ it.c)∧KidsIn r.nodes (ndOf ρ it.c)∧RunOk its (r.add (ndOf ρ it.c)) (rset ρ it.rx r.next) r' ρ' hs:=by
 cases h with
 | cons hn hx hk h=>exact ⟨_,rfl,hn,hx,hk,h⟩
theorem RunOk.nil_inv {r r':AR} {ρ ρ':Nat→Ro} {l:List Nat} (h:RunOk [] r ρ r' ρ' l):l=[]∧r'=r∧ρ'=ρ:=by
 cases h;exact ⟨rfl,rfl,rfl⟩
theorem step_cur {st:St} {la b:Nat} (hl:la≤st.A.length) (rj r2:AR) {n:Nat} (hn:n=st.A.length+1) (L:List Blk) (ip tx ver len rx k:Nat) (ro:Ro) (j:Nat) :
 stepSt ⟨(arSt st la b rj).ps,false,L⟩ n ip tx ver la b len rx r2 k ro j=⟨(arSt st la b r2).ps,false,(L.set k (.arr 5 0 [ro.av])).set ip (.arr 3 0 [.agg [.ptr la (b+5) 0 0 0,.ref n tx ver (j+1) (len-j-1),.ptr n rx 0 0 0]])⟩:=by
 have e1:arSt ⟨(arSt st la b rj).ps,false,L⟩ la b r2=⟨(arSt st la b r2).ps,false,L⟩:=by
  rw [arSt_push rfl (by rw [arSt_A];exact hl),arSt_arSt]
 have e2:((arSt st la b r2).ps).length=n:=by rw [hn];simp [arSt_A]
 rw [stepSt,e1]
 unfold St.upd
 simp only [e2,if_true]
theorem PenS.frm {A:List (Bool × List Blk)} {L L':List Blk} {n ip tx ver la b:Nat} {cls:List AV} {its:List It} {F:List (Nat × Blk)} {keys:List Nat} {rx:Nat} {ρ:Nat→Ro} {j:Nat} (h:PenS ⟨A,false,L⟩ n ip tx ver la b cls its F keys rx ρ j) (hn:n=A.length)
 (hg:∀ i,i=ip∨(cls≠[]∧i=tx)∨i∈keys∨(∃ p∈F,i=p.1)→L'[i]?=L[i]?):PenS ⟨A,false,L'⟩ n ip tx ver la b cls its F keys rx ρ j:=by
 subst hn
 obtain ⟨td,h1,h2⟩:=h.pen
 have hget:∀ i,(i=ip∨(cls≠[]∧i=tx)∨i∈keys∨(∃ p∈F,i=p.1))→St.get ⟨A,false,L'⟩ A.length i=St.get ⟨A,false,L⟩ A.length i:=fun i hi=>by rw [St.get_cur,St.get_cur,hg i hi]
 refine ⟨by simp [St.wr],⟨td,by rw [hget _ (.inl rfl)];exact h1,?_⟩,h.cl,fun p hp=>by rw [hget _ (.inr (.inr (.inr ⟨p,hp,rfl⟩)))];exact h.fx p hp,fun k hk=>by rw [hget _ (.inr (.inr (.inl hk)))];exact h.rts k hk,h.key,h.rk,h.s1,h.s2,h.s3,h.ar,h.len,h.jl⟩
 rcases h2 with q|⟨hc,q1,q2⟩
 ·exact .inl q
 ·exact .inr ⟨hc,q1,by rw [hget _ (.inr (.inl ⟨hc,rfl⟩))];exact q2⟩
theorem end_wr {e:Env} {A:List (Bool × List Blk)} {st:St} {L:List Blk} {x:Ex} {c4 c5 c6 j4 ix w4 v4 ver n:Nat} {l:List Nat} {ro:Ro} {z:Int} (hA:A=st.A++[(st.ro,st.L)]) (hx:x=.norm∨x=.ret) (h4:lookO e c4=some (.ptr A.length j4 v4 0 0)) (hg4:L[j4]?=some (.arr w4 v4 [ro.av]))
 (h5:lookO e c5=some (.ref A.length ix ver 0 n)) (hg5:L[ix]?=some (.arr 1 ver (l.map hnAV))) (hn:n=l.length) (h6:lookO e c6=some (.int .i64 z)):endK false [.c c4 true 5,.s c5,.s c6] (x,e,⟨A,false,L⟩)=some (.tup [ro.av,.lit (l.map hnAV),.int .i64 z],st):=by
 refine end_of (v:=.tup [ro.av,.ref A.length ix ver 0 n,.int .i64 z]) hA hx ?_ (seal_wr hg5 hn) rfl
 have h1:resV ⟨A,false,L⟩ e (.c c4 true 5)=some ro.av:=by
  simp only [resV,lookO_some h4,loadP,St.get_cur,hg4,vis,loadB,if_true,List.getElem?_cons_zero,oS]
  rfl
 simp only [result,resL,h1,oS]
 simp only [resV,lookO_some h5,lookO_some h6,oS,Option.map_some,tupOf]
theorem Write_c {st:St} {la b:Nat} {r:AR} (hA:Has st la b r) (ho:AROk r) (hg:GoodN r.nodes) {t:Tr} (hv:VE r.nodes t) (hb:t.bytes≤65536) (hn:nw t≤r.n) :
 S Tb F_rope_Write [.ptr la (b+5) 0 0 0,t.av] st=some (.tup [(wrV t r).2.1.av,.lit ((wrV t r).2.2.map hnAV),.int .i64 0],arSt st la b (wrV t r).1):=by
 refine s_ofW rfl (fun A hA'=>?_)
 obtain ⟨LB,hLB⟩:∃ LB:List Blk,LB=[.arr 7 0 [t.av],.arr 5 0 [Ro.zero.av],.arr 1 0 []]:=⟨_,rfl⟩
 have hle:=hA.le
 have hla:la<A.length:=by rw [hA'];simp;omega
 have h3:LB.length=3:=by rw [hLB];rfl
 obtain ⟨L2,tx,ver,cs,its,F,keys,rx,ρ,hS,hB⟩:=begin_c (L:=LB) (hA.push hA').r ho.nb ho.n16 (by have:=ho.nn;have:=ho.n16;omega) hv hb hn
 obtain ⟨ρ',hrun,hro⟩:=hB.pi.run ho hg hv hb hn
 generalize (wrV t r).1=r' at *
 generalize (wrV t r).2.2=hs at *
 generalize (wrV t r).2.1=ro at *
 have hcl:=hB.ps.cl.len
 have hk5:∀ k∈keys,5≤k:=fun k hk=>by have:=hB.klo k hk;omega
 have g1:L2[1]?=some (.arr 5 0 [Ro.zero.av]):=by rw [hB.old 1 (by omega),hLB];rfl
 have g2:L2[2]?=some (.arr 1 0 (([]:List Nat).map hnAV)):=by rw [hB.old 2 (by omega),hLB];rfl
 have hps:=hB.ps
 rw [h3] at hS hps
 rw [hLB] at hS
 repeat' (first|refine ru_seq ?_|refine ru_reg ?_|refine is_mv rfl ?_|refine is_ext rfl rfl ?_|refine is_nil rfl ?_|refine rk_seq ?_|(refine is_neq rfl rfl (fun _=>?_) (fun _=>?_)<;>try (exfalso;omega))|refine ru_iteF rfl ?_|refine is_box rfl rfl rfl ?_|refine is_onil rfl ?_|refine is_ldc rfl rfl rfl (tr_part _) ?_|refine is_boxG rfl (tr_wide _) (tr_force _) ?_|refine is_callE rfl rfl (by first|rfl|(simp only [lE,lN,lC,weaks,tr_weak,forceL];first|done|rfl)) (hS) ?_|refine ru_skip ?_|refine ru_block ?_)
 all_goals try contradiction
 have hAn:A.length=st.A.length+1:=by rw [hA'];simp
 have hhl:=hrun.len
 refine ru_loopP (α:=Bool × Nat × AR × (Nat→Ro) × List Blk) (fun p=>match p.1 with
  | true=>[(4,.ptr A.length 1 0 0 0),(5,.ref A.length 2 p.2.1 0 p.2.1),(6,.int .i64 0),(7,.ptr A.length 4 0 0 0),(18,.bool false)]
  | false=>[(4,.ptr A.length 1 0 0 0),(5,.ref A.length 2 p.2.1 0 p.2.1),(7,.ptr A.length 4 0 0 0)])
  (fun p=>⟨(arSt st la b p.2.2.1).ps,false,p.2.2.2.2⟩)
  (fun p=>PenS ⟨(arSt st la b p.2.2.1).ps,false,p.2.2.2.2⟩ A.length 4 tx ver la b cs its F keys rx p.2.2.2.1 p.2.1∧AROk p.2.2.1∧RunOk (its.drop p.2.1) p.2.2.1 p.2.2.2.1 r' ρ' (hs.drop p.2.1)∧p.2.1≤its.length∧p.2.2.2.2[1]?=some (.arr 5 0 [Ro.zero.av])∧p.2.2.2.2[2]?=some (.arr 1 p.2.1 ((hs.take p.2.1).map hnAV)))
  (fun p=>its.length-p.2.1) (true,0,r,ρ,L2) rfl ?_ ?_ ?_
 ·simp only [hA.same,← hA']
 ·simp only [hA.same,← hA']
  exact ⟨hps,ho,hrun,Nat.zero_le _,g1,g2⟩
 rintro ⟨fst,j,rj,ρj,Lj⟩ ⟨q1,q2,q3,q4,q5,q6⟩
 simp only at q1 q2 q3 q4 q5 q6
 have hHj:Has ⟨(arSt st la b rj).ps,false,Lj⟩ la b rj:=(hA.put rj).push rfl
 obtain ⟨td,t1,t2⟩:=q1.pen
 have hAl:A.length=(arSt st la b rj).ps.length:=by rw [hAn];simp [arSt_A]
 rcases Nat.lt_or_ge j its.length with hlt|hge
 ·obtain ⟨it,hit⟩:∃ it,its[j]?=some it:=⟨its[j]'hlt,by simp [hlt]⟩
  have hd:its.drop j=it::its.drop (j+1):=by
   rw [List.drop_eq_getElem_cons hlt]
   rw [List.getElem?_eq_getElem hlt] at hit
   rw [Option.some.inj hit]
  rw [hd] at q3
  obtain ⟨hs2,e1,hn1,hx1,hk1,hr1⟩:=q3.inv
  have hdj:hs[j]?=some rj.next:=by
   have:=List.getElem?_drop (xs:=hs) (i:=j) (j:=0)
   rw [e1] at this
   simpa using this.symm
  have hd2:hs.drop (j+1)=hs2:=by
   rw [← List.drop_drop,e1];rfl
  obtain ⟨p1,p2,p3⟩:=q1.step hHj q2 hn1 hit hx1 hk1
  rw [step_cur hle rj _ hAn] at p1 p2
  have hjc:j<cs.length:=by rw [hcl];exact hlt
  have hne:cs≠[]:=fun q=>by rw [q] at hjc;simp at hjc
  rcases t2 with ⟨w,_⟩|⟨_,rfl,t3⟩
  ·exact absurd w hne
  obtain ⟨k1,_⟩:=q1.key it (List.mem_of_getElem? hit)
  have hk5':=hk5 _ k1
  have hl4:Lj[4]?=some (.arr 3 0 [.agg [.ptr la (b+5) 0 0 0,.ref A.length tx ver j (cs.length-j),.ptr A.length rx 0 0 0]]):=by
   rw [hAl] at t1
   rw [St.get_cur] at t1
   rw [hAl]
   exact (vis_noH t1).1
  obtain ⟨r2,hr2⟩:∃ r2,r2=rj.add (ndOf ρj it.c):=⟨_,rfl⟩
  rw [← hr2] at p1 p2 hr1
  have ho2:AROk r2:=by rw [hr2];exact q2.add hn1 _
  have hAl2:A.length=(arSt st la b r2).ps.length:=by rw [hAn];simp [arSt_A]
  obtain ⟨L3,hL3⟩:∃ L3,L3=(Lj.set it.rx (.arr 5 0 [((ρj it.rx).wr rj.next).av])).set 4 (.arr 3 0 [.agg [.ptr la (b+5) 0 0 0,.ref A.length tx ver (j+1) (cs.length-j-1),.ptr A.length rx 0 0 0]]):=⟨_,rfl⟩
  rw [← hL3] at p1 p2
  have h31:L3[1]?=some (.arr 5 0 [Ro.zero.av]):=by rw [hL3,List.getElem?_set_ne (by omega),List.getElem?_set_ne (by omega)];exact q5
  have h32:L3[2]?=some (.arr 1 j ((hs.take j).map hnAV)):=by rw [hL3,List.getElem?_set_ne (by omega),List.getElem?_set_ne (by omega)];exact q6
  have hj2:j=((hs.take j).map hnAV).length:=by simp;omega
  have hj3:∀ x:AV,((hs.take j).map hnAV).length+[x].length<4294967296:=fun x=>by have:=q1.len;simp;omega
  have hinv:∀ L4,L4=L3.set 2 (.arr 1 (j+1) ((hs.take j).map hnAV++[.int .u64 rj.next]))→PenS ⟨(arSt st la b r2).ps,false,L4⟩ A.length 4 tx ver la b cs its F keys rx (rset ρj it.rx rj.next) (j+1)∧AROk r2∧RunOk (its.drop (j+1)) r2 (rset ρj it.rx rj.next) r' ρ' (hs.drop (j+1))∧j+1≤its.length∧L4[1]?=some (.arr 5 0 [Ro.zero.av])∧L4[2]?=some (.arr 1 (j+1) ((hs.take (j+1)).map hnAV)):=by
   rintro L4 rfl
   refine ⟨?_,ho2,by rw [hd2];exact hr1,hlt,by rw [List.getElem?_set_ne (by omega)];exact h31,?_⟩
   ·refine p2.frm hAl2 (fun i hi=>List.getElem?_set_ne ?_)
    rcases hi with rfl|⟨hc,rfl⟩|q|⟨p,hp,rfl⟩
    ·omega
    ·have:=hB.tlo hc;omega
    ·have:=hk5 i q;omega
    ·have:=hB.flo p hp;omega
   ·rw [List.getElem?_set_self (List.getElem?_eq_some_iff.1 h32).1,take_succ_get hdj,List.map_append];rfl
  obtain ⟨A2,hA2⟩:∃ A2,A2=(arSt st la b r2).ps:=⟨_,rfl⟩
  obtain ⟨A1,hA1⟩:∃ A1,A1=(arSt st la b rj).ps:=⟨_,rfl⟩
  rw [← hA1] at p1 hAl ⊢
  rw [← hA2] at p1 hAl2
  have hA12:A1.length=A2.length:=hAl.symm.trans hAl2
  rw [hAl] at hl4 p1 hinv ⊢
  cases fst
  all_goals simp only
  all_goals repeat' (first|refine is_callE rfl rfl rfl p1 ?_|refine ru_seq ?_|refine ru_reg ?_|refine is_mv rfl ?_|refine is_fadr rfl rfl ?_|refine is_ext rfl rfl ?_|refine is_nil rfl ?_|refine rk_seq ?_|refine is_nilck rfl rfl ?_|refine is_lenR rfl ?_|(refine is_gtr rfl rfl (fun _=>?_) (fun _=>?_)<;>try (exfalso;omega))|(refine is_neq rfl rfl (fun _=>?_) (fun _=>?_)<;>try (exfalso;omega))|refine ru_iteT rfl ?_|refine ru_iteF rfl ?_|refine is_bslFO rfl rfl rfl rfl ?_|refine is_ldc rfl hl4 rfl rfl ?_|refine ru_skip ?_|refine ru_block ?_)
  all_goals try contradiction
  all_goals try (exfalso;omega)
  all_goals rw [hA12]
  all_goals repeat' (first|refine is_appG rfl rfl h32 hj2 rfl rfl (hj3 _) (by decide) ?_|refine is_mv rfl ?_|refine is_nil rfl ?_|refine rk_blk ?_|refine rk_inv ?_)
  all_goals rw [hA12,hA2] at hinv
  all_goals rw [hA2]
  all_goals exact ⟨(false,j+1,r2,rset ρj it.rx rj.next,_),⟨rfl,rfl⟩,hinv _ rfl,by simp only;omega⟩
 ·obtain rfl:j=its.length:=by omega
  rw [List.drop_length,← hhl,List.drop_length] at q3
  obtain ⟨_,rfl,rfl⟩:=q3.nil_inv
  rw [← hhl,List.take_length] at q6
  have hRt:=Root_c q1 hcl.symm
  rw [hro] at hRt
  obtain ⟨A1,hA1⟩:∃ A1,A1=(arSt st la b r').ps:=⟨_,rfl⟩
  rw [← hA1] at hRt hAl ⊢
  have hl4:∃ w,Lj[4]?=some (.arr 3 0 [.agg [.ptr la (b+5) 0 0 0,td,w]])∧(td=.nils∨∃ v,td=.ref A.length tx v its.length 0):=by
   rw [hAl,hA1,St.get_cur] at t1
   refine ⟨_,(vis_noH t1).1,?_⟩
   rcases t2 with ⟨_,w⟩|⟨_,w,_⟩
   ·exact .inl w
   ·refine .inr ⟨ver,?_⟩
    rw [w,hcl,Nat.sub_self]
  obtain ⟨w4,hl4,htd⟩:=hl4
  rw [← hhl] at *
  have hl1:=(List.getElem?_eq_some_iff.1 q5).1
  rw [hAl] at hRt htd ⊢
  rcases htd with rfl|⟨v,rfl⟩
  all_goals cases fst
  all_goals simp only
  all_goals repeat' (first|refine is_callE rfl rfl rfl hRt ?_|refine ru_seq ?_|refine ru_reg ?_|refine is_mv rfl ?_|refine is_fadr rfl rfl ?_|refine is_ext rfl rfl ?_|refine is_nil rfl ?_|refine rk_seq ?_|refine is_nilck rfl rfl ?_|refine is_lenR rfl ?_|refine is_lenN rfl ?_|(refine is_gtr rfl rfl (fun _=>?_) (fun _=>?_)<;>try (exfalso;omega))|refine ru_iteF rfl ?_|refine is_ldc rfl hl4 rfl rfl ?_|refine ru_exit ?_|refine rk_seq_ex ?_|refine rk_blk_eq rfl ?_|refine rk_inv_ex ?_)
  all_goals try (exfalso;omega)
  all_goals refine is_stn q5 rfl rfl rfl rfl rfl ?_
  all_goals repeat' (first|refine ru_seq ?_|refine ru_reg ?_|refine is_mv rfl ?_|refine is_nil rfl ?_|refine rk_seq ?_|refine is_ldc rfl (List.getElem?_set_self hl1) rfl rfl ?_)
  all_goals refine is_stn (List.getElem?_set_self hl1) rfl rfl rfl rfl rfl ?_
  all_goals rw [List.set_set]
  all_goals repeat' (first|refine is_mv rfl ?_|refine is_nil rfl ?_|refine rk_seq ?_|refine ru_ret ?_|refine rk_nil ?_)
  all_goals exact end_wr (ro:=ro) hA1 (.inr rfl) rfl (List.getElem?_set_self hl1) rfl ((List.getElem?_set_ne (by omega)).trans q6) (by simp) rfl
end Go.Q15
namespace Go.QAbs
end Go.QAbs
namespace Go.QAbs
end Go.QAbs
namespace Go.QAbs
end Go.QAbs
namespace Go.QAbs
end Go.QAbs
namespace Go.QAbs
end Go.QAbs
namespace Go.Q15
open Go Go.QAbs
set_option maxRecDepth 100000
set_option maxHeartbeats 8000000
def ndAt (N:Nodes) (o:Nat):Nd:=(lk N o).getD ⟨0,[],none⟩
theorem ndAt_of {N:Nodes} {o:Nat} {x:Nd} (h:lk N o=some x):ndAt N o=x:=by unfold ndAt;rw [h];rfl
end Go.Q15
namespace Go.Q15
open Go Go.QAbs
set_option maxRecDepth 100000
set_option maxHeartbeats 8000000
def RtOk (N:Nodes) (r:Ro):Prop:=r=.zero∨(r.at_≠0∧∃ x,lk N r.at_=some x∧NdOk x∧x.h=r.h∧x.mea=r.m)
theorem RtOk.h13 {N:Nodes} (hN:GoodN N) {r:Ro} (hr:RtOk N r):r.h≤13:=by
 rcases hr with rfl|⟨h0,x,h1,h2,h3,h4⟩
 ·decide
 ·have hv:Val N (.keep r):=.kept h0 h1 h2 h3 h4 rfl
  have hb:(Tr.keep r).bytes=r.m.b:=by simp [Tr.keep,Tr.bytes,Tr.bytesO]
  have:=h2.mea_pos
  exact hv.height hN (by rw [hb,← h4];omega)
def keepT (r:Ro):Tr:=if r.at_=0 then .zero else .keep r
theorem Keep_rt {st:St} {lv ix:Nat} {N:Nodes} (hr:Rd st lv ix N) {r:Ro} (h:RtOk N r):S Tb F_plan_Keep [.ptr lv ix 0 0 0,r.av] st=some (.tup [(keepT r).av,.int .i64 0],st):=by
 unfold keepT
 rcases h with rfl|⟨h0,x,h1,h2,h3,h4⟩
 ·rw [if_pos (by rfl)];exact Keep_zero
 ·rw [if_neg h0];exact Keep_c hr h1 h2 h0 h3 h4
end Go.Q15
namespace Go.QAbs
end Go.QAbs
namespace Go.Q15
open Go Go.QAbs
set_option maxRecDepth 100000
set_option maxHeartbeats 8000000
theorem strs_wide (l:List (List UInt8)):sameW 1 (l.map AV.str)=true:=by
 induction l with
 | nil=>rfl
 | cons b s ih=>rw [List.map_cons,sameW,List.all_cons];exact Bool.and_eq_true_iff.2 ⟨rfl,ih⟩
end Go.Q15
namespace Go.Q15
open Go Go.QAbs
set_option maxRecDepth 100000
set_option maxHeartbeats 8000000
end Go.Q15
namespace Go.Q15
open Go Go.QAbs
set_option maxRecDepth 100000
set_option maxHeartbeats 8000000
def liveP (r:AR) (o:Nat):Prop:=handleP o∧r.states[o % 65536]?=some 1∧r.gens[o % 65536]?=some ((o / 65536:Nat):Int)
instance (r:AR) (o:Nat):Decidable (liveP r o):=by unfold liveP;exact inferInstance
end Go.Q15
namespace Go.Q15
open Go Go.QAbs
set_option maxRecDepth 100000
set_option maxHeartbeats 8000000
theorem cntL_le8:∀ l:List Tr,(∀ t∈l,4*(t.cnt:Int)+4≤t.bytes)→4*(Tr.cntL l:Int)+4*l.length≤Tr.bytesL l
 | [],_=>by simp [Tr.cntL,Tr.bytesL]
 | t::l,h=>by
  have h1:=h t (by simp)
  have h2:=cntL_le8 l fun u hu=>h u (by simp [hu])
  simp only [Tr.cntL,Tr.bytesL,List.length_cons]
  omega
theorem cnt_le {N:Nodes} (hN:GoodN N) {t:Tr} (hv:Val N t):(t.cnt:Int)≤t.bytes∧(Big t→4*(t.cnt:Int)+4≤t.bytes):=by
 have hsz:=hv.size hN
 have hps:=hv.pos.2
 induction hv with
 | @kept o h m k x h0 hx hok hh hm hk =>
  have ec:(Tr.mk o h m [] k).cnt=0:=by rw [Tr.cnt,Tr.cntO_getD,hk,if_neg h0];rfl
  have hl:h≤16:=by
   rcases hok with q|⟨n,ks,q⟩
   ·rw [← hh,q.h];omega
   ·have:=q.n15;have e:=q.eq;subst e;simp only at hh;omega
  rw [ec]
  refine ⟨by omega,fun q=>?_⟩
  have h1:=hsz q
  have h2:=(leastB_le hl).1
  simp only [Tr.h] at h1
  omega
 | @leaf s k h1 h2 hk =>
  have ec:(Tr.mk 0 0 .zero s k).cnt=1:=by rw [Tr.cnt,Tr.cntO_getD,hk];rfl
  rw [ec]
  refine ⟨by omega,fun q=>?_⟩
  have:=q rfl
  omega
 | @inner h l hh h2 h4 hl hb hv ih =>
  have ec:(Tr.mk 0 (h+1) .zero [] (some l)).cnt=Tr.cntL l+1:=by rw [Tr.cnt,Tr.cntO];simp;omega
  have eb:(Tr.mk 0 (h+1) .zero [] (some l)).bytes=Tr.bytesL l:=by rw [Tr.bytes,Tr.bytesO];simp [Mea.zero]
  have:=cntL_le8 l fun u hu=>(ih u hu ((hv u hu).size hN) (hv u hu).pos.2).2 (fun q=>hb u hu (by rw [← hl u hu];exact q))
  rw [ec,eb]
  exact ⟨by omega,fun _=>by omega⟩
theorem nw_le {N:Nodes} (hN:GoodN N) {t:Tr} (hv:VE N t):(nw t:Int)≤t.bytes:=by
 rcases hv with he|hv
 ·unfold nw;rw [if_pos ⟨he.old,he.h,he.text⟩,he.bytes];decide
 ·rw [nw_val hv];exact (cnt_le hN hv).1
theorem begin_full {A:List (Bool × List Blk)} {L:List Blk} {la b:Nat} {r:AR} (hA:HasR ⟨A,false,L⟩ la b r) (hN:r.n≤r.blk.length) (h16:r.states.length≤16384) (h6:r.n<65536) {t:Tr} (hg:GoodN r.nodes) (hv:VE r.nodes t) (hb:t.bytes≤65536) (hn:r.n<nw t) :
 S Tb F_rope_Begin [.ptr la (b+5) 0 0 0,t.av] ⟨A,false,L⟩=some (.tup [.nilptr,.int .i64 6],⟨A,false,L++[.arr 7 0 [t.av]]⟩):=by
 have hv:Val r.nodes t:=by
  rcases hv with he|hv
  ·unfold nw at hn;rw [if_pos ⟨he.old,he.h,he.text⟩] at hn;omega
  ·exact hv
 rw [nw_val hv] at hn
 have hcb:=(cnt_le hg hv).1
 have hCk:=fun T=>Check_val (hA.app T).rd hv hb
 have hNw:=fun st=>New_c hv (by omega) st
 have hSt:=fun T=>Stats_c (hA.app T) hN h16 h6
 unfold AR.statsAV at hSt
 refine s_keep rfl ?_
 have e0:(⟨A,false,L⟩:St)=⟨A,false,L++[]⟩:=by rw [lN]
 rw [e0]
 repeat' (first|refine is_boxA rfl (tr_wide _) (tr_force _) rfl rfl ?_|refine is_ldA rfl rfl rfl (tr_part _) ?_|refine ru_seq ?_|refine ru_reg ?_|refine is_mv rfl ?_|refine is_nil rfl ?_|refine rk_seq ?_|refine is_fld (agg:=false) rfl rfl ?_|(refine is_gtr rfl rfl (fun _=>?_) (fun _=>?_)<;>try (exfalso;omega))|(refine is_neq rfl rfl (fun _=>?_) (fun _=>?_)<;>try (exfalso;omega))|refine ru_iteT rfl ?_|refine ru_iteF rfl ?_|refine is_callE rfl rfl (by first|rfl|(simp only [lE,lN,lC,weaks,tr_weak,forceL];first|done|rfl)) (hCk _) ?_|refine is_callE rfl rfl (by first|rfl|(simp only [lE,lN,lC,weaks,tr_weak,forceL];first|done|rfl)) (hNw _) ?_|refine is_callE rfl rfl (by first|rfl|(simp only [lE,lN,lC,weaks,tr_weak,forceL];first|done|rfl)) (hSt _) ?_|refine ru_skip ?_|refine ru_ret ?_|refine rk_nil ?_|refine rk_seq_ret ?_)
 all_goals try (exfalso;omega)
 refine (end_keep (.inr rfl) rfl rfl rfl rfl).trans ?_
 rfl
theorem Write_full {st:St} {la b:Nat} {r:AR} (hA:Has st la b r) (ho:AROk r) (hg:GoodN r.nodes) {t:Tr} (hv:VE r.nodes t) (hb:t.bytes≤65536) (hn:r.n<nw t) :
 S Tb F_rope_Write [.ptr la (b+5) 0 0 0,t.av] st=some (.tup [Ro.zero.av,.lit [],.int .i64 6],st):=by
 refine s_ofW rfl (fun A hA'=>?_)
 have hS:=fun L=>begin_full (L:=L) (hA.push hA').r ho.nb ho.n16 (by have:=ho.nn;have:=ho.n16;omega) hg hv hb hn
 repeat' (first|refine ru_seq ?_|refine ru_reg ?_|refine is_mv rfl ?_|refine is_ext rfl rfl ?_|refine is_nil rfl ?_|refine rk_seq ?_|(refine is_neq rfl rfl (fun _=>?_) (fun _=>?_)<;>try (exfalso;omega))|refine ru_iteT rfl ?_|refine is_buildO rfl rfl rfl ?_|refine is_box rfl rfl rfl ?_|refine is_stb rfl rfl rfl rfl rfl rfl ?_|refine is_onil rfl ?_|refine is_ldc rfl rfl rfl (tr_part _) ?_|refine is_boxG rfl (tr_wide _) (tr_force _) ?_|refine is_callE rfl rfl (by first|rfl|(simp only [lE,lN,lC,weaks,tr_weak,forceL];first|done|rfl)) (hS _) ?_|refine ru_ret ?_|refine rk_nil ?_|refine rk_seq_ret ?_)
 all_goals try contradiction
 all_goals try (exfalso;omega)
 exact end_wr (ro:=.zero) (l:=[]) hA' (.inr rfl) rfl rfl rfl rfl rfl rfl
end Go.Q15
namespace Go.Q15
open Go Go.QAbs
set_option maxRecDepth 100000
set_option maxHeartbeats 8000000
theorem flat_get {x:List UInt8} {l:List (List UInt8)} {i:Nat} (h:l[i]?=some x):(l.take (i+1)).flatten=(l.take i).flatten++x:=by
 rw [List.take_add_one,h];simp
theorem flat_le (l:List (List UInt8)) (i:Nat):(l.take i).flatten.length≤l.flatten.length:=by
 have:=congrArg List.length (congrArg List.flatten (List.take_append_drop i l))
 rw [List.flatten_append,lL] at this
 omega
end Go.Q15
namespace Go.Q15
open Go Go.QAbs
set_option maxRecDepth 100000
set_option maxHeartbeats 8000000
theorem PI.ok {r:AR} (ho:AROk r) (hg:GoodN r.nodes) {t:Tr} (hv:VE r.nodes t) (hb:t.bytes≤65536) (hn:nw t≤r.n) {its:List It} {rx:Nat} {ρ:Nat→Ro} (h:PI t its rx ρ) :
 WrB r (nw t) (wrV t r).1 (wrV t r).2.2∧(IsEmpty t∧(wrV t r).2.1=.zero∨Val r.nodes t∧WrOk r.nodes t (wrV t r).1 (wrV t r).2.1):=by
 rcases h with ⟨h1,_,h2⟩|⟨⟨M,hM⟩,R,h1,h2,h3⟩
 ·have e:nw t=0:=by unfold nw;rw [if_pos ⟨h1.old,h1.h,h1.text⟩]
  rw [wrV_empty h1,e];exact ⟨.refl ho hg,.inl ⟨h1,rfl⟩⟩
 ·rcases hv with hv|hv
  ·exact absurd hv hM.not_empty
  ·rw [wrV_val hv,nw_val hv]
   rw [nw_val hv] at hn
   obtain ⟨ρ',a1,a2,a3,a4,a5⟩:=exec_ok hg hv hb r ho hg (.refl _) hn rx its R ρ h1 h2 h3
   exact ⟨a4,.inr ⟨hv,a5⟩⟩
theorem wr_ok {st:St} {la b:Nat} {r:AR} (hA:Has st la b r) (ho:AROk r) (hg:GoodN r.nodes) {t:Tr} (hv:VE r.nodes t) (hb:t.bytes≤65536) (hn:nw t≤r.n) :
 WrB r (nw t) (wrV t r).1 (wrV t r).2.2∧(IsEmpty t∧(wrV t r).2.1=.zero∨Val r.nodes t∧WrOk r.nodes t (wrV t r).1 (wrV t r).2.1):=by
 obtain ⟨L2,tx,ver,cs,its,F,keys,rx,ρ,hS,hB⟩:=begin_c (L:=[]) (hA.push rfl).r ho.nb ho.n16 (by have:=ho.nn;have:=ho.n16;omega) hv hb hn
 exact hB.pi.ok ho hg hv hb hn
def textR (N:Nodes) (r:Ro):List UInt8:=if r.at_=0 then [] else textH N r.h r.at_
structure Rt (N:Nodes) (r:Ro) (s:List UInt8):Prop where
 rt:RtOk N r
 tx:textR N r=s
theorem RtOk.ext {N M:Nodes} (hE:Ext N M) {r:Ro} (h:RtOk N r):RtOk M r:=h.imp id fun ⟨h0,x,h1,h2⟩=>⟨h0,x,hE _ _ h1,h2⟩
theorem Rt.ext {N M:Nodes} (hN:GoodN N) (hE:Ext N M) {r:Ro} {s:List UInt8} (h:Rt N r s):Rt M r s:=by
 refine ⟨h.rt.ext hE,?_⟩
 rw [← h.tx]
 unfold textR
 split
 ·rfl
 ·rename_i q
  rcases h.rt with e|⟨_,x,h1,_,h2,_⟩
  ·rw [e] at q;exact absurd rfl q
  ·exact textH_ext hN hE _ _ x h1 h2
theorem Rt.zero (N:Nodes):Rt N .zero []:=⟨.inl rfl,rfl⟩
theorem Rt.m {N:Nodes} (hN:GoodN N) {r:Ro} {s:List UInt8} (h:Rt N r s):r.m=meaT s:=by
 obtain ⟨h,rfl⟩:=h
 unfold textR
 rcases h with rfl|⟨h0,x,h1,h2,h3,h4⟩
 ·rfl
 ·rw [if_neg h0,textH_mea hN _ _ x h1 h3,h4]
theorem Rt.wr {r:AR} (ho:AROk r) {N:Nodes} {t:Tr} {ro:Ro} (h:WrOk N t r ro):Rt r.nodes ro (t.txt N):=by
 obtain ⟨y,h1,h2,h3,h4⟩:=h.live
 have h0:=(ho.hnd h1).2
 refine ⟨.inr ⟨h0,y,h1,h2,by rw [h3,h.rh],by rw [h4,h.rm]⟩,?_⟩
 unfold textR
 rw [if_neg h0,h.rh,h.txt]
theorem Rt.keep {N:Nodes} {r:Ro} {s:List UInt8} (h:Rt N r s):VE N (keepT r)∧(keepT r).txt N=s:=by
 obtain ⟨h,rfl⟩:=h
 unfold textR keepT
 rcases h with rfl|⟨h0,x,h1,h2,h3,h4⟩
 ·rw [if_pos (by rfl),if_pos (by rfl)];exact ⟨.inl zero_empty,rfl⟩
 ·rw [if_neg h0,if_neg h0]
  exact ⟨.inr (.kept h0 h1 h2 h3 h4 rfl),by rw [Tr.keep,Tr.txt,if_neg h0];simp [Tr.txtO]⟩
theorem Rt.b {N:Nodes} (hN:GoodN N) {r:Ro} {s:List UInt8} (h:Rt N r s):(keepT r).bytes=s.length∧r.m.b=s.length:=by
 have h1:=h.keep
 have h2:=h1.1.len hN
 rw [h1.2] at h2
 exact ⟨h2.symm,by rw [h.m hN];rfl⟩
theorem wr_rt {st:St} {la b:Nat} {r:AR} (hA:Has st la b r) (ho:AROk r) (hg:GoodN r.nodes) {t:Tr} (hv:VE r.nodes t) (hb:t.bytes≤65536) (hn:nw t≤r.n) :
 WrB r (nw t) (wrV t r).1 (wrV t r).2.2∧Rt (wrV t r).1.nodes (wrV t r).2.1 (t.txt r.nodes):=by
 obtain ⟨h1,h2⟩:=wr_ok hA ho hg hv hb hn
 refine ⟨h1,?_⟩
 rcases h2 with ⟨he,h2⟩|⟨hv,h2⟩
 ·rw [h2,he.txt];exact .zero _
 ·exact .wr h1.ok h2
end Go.Q15
namespace Go.Q15
open Go Go.QAbs
set_option maxRecDepth 100000
set_option maxHeartbeats 8000000
theorem has_cur (A:List (Bool × List Blk)) (L0 T:List Blk) (r:AR):Has ⟨A,false,L0++(arB A.length L0.length r++T)⟩ A.length L0.length r:=by
 have h:∀ i b,(arB A.length L0.length r++T)[i]?=some b→vis (some b)=some b→St.get ⟨A,false,L0++(arB A.length L0.length r++T)⟩ A.length (L0.length+i)=some b:=by
  intro i b hb hv
  rw [St.get_cur,get_app,hb,hv]
 exact ⟨by simp [St.wr],h 0 _ rfl rfl,h 1 _ rfl rfl,h 2 _ rfl rfl,h 3 _ rfl rfl,h 4 _ rfl rfl,h 5 _ rfl rfl⟩
theorem arSt_cur (A:List (Bool × List Blk)) (L0 T:List Blk) (r r':AR):arSt ⟨A,false,L0++(arB A.length L0.length r++T)⟩ A.length L0.length r'=⟨A,false,L0++(arB A.length L0.length r'++T)⟩:=by
 have h:∀ (X:List Blk) (i:Nat) (b:Blk),St.upd ⟨A,false,L0++X⟩ A.length (L0.length+i) b=⟨A,false,L0++X.set i b⟩:=fun X i b=>by
  unfold St.upd
  simp only [if_true,set_app]
 have h0:∀ (X:List Blk) (b:Blk),St.upd ⟨A,false,L0++X⟩ A.length L0.length b=⟨A,false,L0++X.set 0 b⟩:=fun X b=>h X 0 b
 simp only [arSt,arK,arB,putC,h,h0]
 rfl
theorem end_ro {e:Env} {A:List (Bool × List Blk)} {st:St} {L:List Blk} {x:Ex} {c4 c5 j4 w4 v4:Nat} {ro:Ro} {z:Int} (hA:A=st.A++[(st.ro,st.L)]) (hx:x=.norm∨x=.ret) (h4:lookO e c4=some (.ptr A.length j4 v4 0 0)) (hg4:L[j4]?=some (.arr w4 v4 [ro.av]))
 (h6:lookO e c5=some (.int .i64 z)):endK false [.c c4 true 5,.s c5] (x,e,⟨A,false,L⟩)=some (.tup [ro.av,.int .i64 z],st):=by
 refine end_of (v:=.tup [ro.av,.int .i64 z]) hA hx ?_ (L':=L) rfl rfl
 have h1:resV ⟨A,false,L⟩ e (.c c4 true 5)=some ro.av:=by
  simp only [resV,lookO_some h4,loadP,St.get_cur,hg4,vis,loadB,if_true,List.getElem?_cons_zero,oS]
  rfl
 simp only [result,resL,h1,oS]
 simp only [resV,lookO_some h6,oS,Option.map_some,tupOf]
theorem rtNew_c {st:St} {la b:Nat} {r:AR} (hA:Has st la b r) (ho:AROk r) (hg:GoodN r.nodes) (s:List UInt8) (hs:s.length≤65536) (hn:nw (buildM s)≤r.n) :
 S Tb F_rope_New [.ptr la (b+5) 0 0 0,.str s] st=some (.tup [(wrV (buildM s) r).2.1.av,.int .i64 0],arSt st la b (wrV (buildM s) r).1):=by
 obtain ⟨b1,b2,b3⟩:=buildM_ok hg hs
 refine s_ofW rfl (fun A hA'=>?_)
 have hB:=fun L=>Build_c hg s hs ⟨A,false,L⟩
 have hle:=hA.le
 have hW:=fun L=>Write_c (st:=⟨A,false,L⟩) (hA.push hA') ho hg b1 (by rw [b3];omega) hn
 simp only [arSt_push hA' hle] at hW
 generalize (wrV (buildM s) r).1=r' at *
 generalize (wrV (buildM s) r).2.1=ro at *
 repeat' (first|refine ru_seq ?_|refine ru_reg ?_|refine is_mv rfl ?_|refine is_ext rfl rfl ?_|refine is_nil rfl ?_|refine rk_seq ?_|(refine is_neq rfl rfl (fun _=>?_) (fun _=>?_)<;>try (exfalso;omega))|refine ru_iteF rfl ?_|refine is_eqs rfl rfl rfl rfl ?_|refine is_box rfl rfl rfl ?_|refine is_ldc rfl rfl rfl (tr_part _) ?_|refine is_stb rfl rfl rfl (tr_seal _ _ _) (tr_put _ _) rfl ?_|refine is_callE rfl rfl (by first|rfl|(simp only [lE,lN,lC,weaks,tr_weak,forceL];first|done|rfl)) (hB _) ?_|refine ru_skip ?_)
 all_goals try contradiction
 all_goals try (exfalso;omega)
 obtain ⟨A2,hA2⟩:∃ A2,A2=(arSt st la b r').ps:=⟨_,rfl⟩
 simp only [← hA2] at hW
 have hAl:A.length=A2.length:=by rw [hA',hA2];simp [St.ps,arSt_A]
 refine is_callE rfl rfl (wkPT0 rfl _) (hW _) ?_
 rw [hAl]
 repeat' (first|refine is_stn rfl rfl rfl rfl rfl rfl ?_|refine is_ldc rfl rfl rfl rfl ?_|refine ru_seq ?_|refine ru_reg ?_|refine is_mv rfl ?_|refine is_ext rfl rfl ?_|refine is_nil rfl ?_|refine rk_seq ?_|refine is_box rfl rfl rfl ?_|refine ru_ret ?_|refine rk_nil ?_)
 exact end_ro hA2 (.inr rfl) rfl rfl rfl
end Go.Q15
namespace Go.Q15
open Go Go.QAbs
set_option maxRecDepth 100000
set_option maxHeartbeats 8000000
theorem newAR_ok (n g:Nat) (hn:n≤16384) (hg:1≤g∧g≤4294967295):AROk (newAR n g):=by
 have hb:∀ i,i<n→(newAR n g).blk[i]?=some ((n:Int)-1-i):=fun i hi=>by simp [newAR,hi]
 refine ⟨by simp [newAR],by simp [newAR];exact hn,by simp [newAR],by simp [newAR],fun i hi=>⟨n-1-i,?_,?_,?_⟩,fun i j hi hj q=>?_,fun s hs=>⟨1,?_,by omega,?_⟩,?_,fun h x hx=>?_,?_,?_,?_⟩
 ·have hi':i<n:=hi
  rw [hb i hi'];congr 1
  show (n:Int)-1-i=((n-1-i:Nat):Int)
  omega
 ·have hi':i<n:=hi
  show n-1-i<(List.replicate n (0:Int)).length
  rw [List.length_replicate];omega
 ·have hi':i<n:=hi
  show (List.replicate n (0:Int))[n-1-i]?=some 0
  rw [List.getElem?_replicate,if_pos (by omega)]
 ·have hi':i<n:=hi
  have hj':j<n:=hj
  rw [hb i hi',hb j hj'] at q
  have:=Option.some.inj q
  omega
 ·have hs':s<n:=by simpa [newAR] using hs
  simp [newAR,hs']
 ·show ((1:Nat):Int)≤(g:Int);omega
 ·show (g:Int)≤_;omega
 ·simp [newAR,lk] at hx
 ·simp [newAR]
 ·simp [newAR]
 ·simp [newAR];omega
noncomputable def laidF (p:AR × List Ro) (s:List UInt8):AR × List Ro:=((wrV (buildM s) p.1).1,p.2++[(wrV (buildM s) p.1).2.1])
noncomputable def laidV (texts:List (List UInt8)):AR × List Ro:=texts.foldl laidF (newAR 1500 3,[])
theorem laidV_snoc (l:List (List UInt8)) (s:List UInt8):laidV (l++[s])=laidF (laidV l) s:=by unfold laidV;rw [List.foldl_append];rfl
def Rts (N:Nodes) (ros:List Ro) (ss:List (List UInt8)):Prop:=ros.length=ss.length∧∀ (i:Nat) (ro:Ro) (s:List UInt8),ros[i]?=some ro→ss[i]?=some s→Rt N ro s
theorem Rts.ext {N M:Nodes} (hN:GoodN N) (hE:Ext N M) {ros:List Ro} {ss:List (List UInt8)} (h:Rts N ros ss):Rts M ros ss:=⟨h.1,fun i ro s h1 h2=>(h.2 i ro s h1 h2).ext hN hE⟩
theorem Rts.snoc {N:Nodes} {ros:List Ro} {ss:List (List UInt8)} (h:Rts N ros ss) {ro:Ro} {s:List UInt8} (g:Rt N ro s):Rts N (ros++[ro]) (ss++[s]):=by
 refine ⟨by simp [h.1],fun i r t h1 h2=>?_⟩
 rcases Nat.lt_or_ge i ros.length with q|q
 ·rw [List.getElem?_append_left q] at h1
  rw [List.getElem?_append_left (by rw [← h.1];exact q)] at h2
  exact h.2 i r t h1 h2
 ·rw [List.getElem?_append_right q] at h1
  rw [List.getElem?_append_right (by rw [← h.1];exact q)] at h2
  rw [← h.1] at h2
  match hk:i-ros.length with
  | 0=>rw [hk] at h1 h2;obtain rfl:=Option.some.inj h1;obtain rfl:=Option.some.inj h2;exact g
  | n+1=>rw [hk] at h1;simp at h1
structure LaidOk (texts:List (List UInt8)) (p:AR × List Ro):Prop where
 ok:AROk p.1
 good:GoodN p.1.nodes
 rts:Rts p.1.nodes p.2 texts
 room:1500≤p.1.n+texts.flatten.length
theorem laidF_ok {l:List (List UInt8)} {p:AR × List Ro} {s:List UInt8} (h:LaidOk l p) (hl:(l++[s]).flatten.length≤900):nw (buildM s)≤p.1.n∧LaidOk (l++[s]) (laidF p s):=by
 have hfl:(l++[s]).flatten.length=l.flatten.length+s.length:=by simp
 have hr:=h.room
 have hs:s.length≤65536:=by omega
 obtain ⟨b1,b2,b3⟩:=buildM_ok h.good hs
 have hw:=nw_le h.good b1
 rw [b3] at hw
 have hn:nw (buildM s)≤p.1.n:=by omega
 obtain ⟨w1,w2⟩:=wr_rt (has_cur [] [] [] p.1) h.ok h.good b1 (by rw [b3];omega) hn
 rw [b2] at w2
 refine ⟨hn,w1.ok,w1.good,(h.rts.ext h.good w1.ext).snoc w2,?_⟩
 have:=w1.n
 show 1500≤(wrV (buildM s) p.1).1.n+_
 omega
theorem laidV_ok (texts:List (List UInt8)) (hl:texts.flatten.length≤900):∀ i,i≤texts.length→LaidOk (texts.take i) (laidV (texts.take i)):=by
 intro i
 induction i with
 | zero=>intro _;exact ⟨newAR_ok 1500 3 (by omega) (by omega),good_nil,⟨rfl,fun i ro s h=>by simp [laidV] at h⟩,by simp [laidV,newAR]⟩
 | succ i ih =>
  intro hi
  obtain ⟨s,hs⟩:∃ s,texts[i]?=some s:=⟨texts[i]'(by omega),by simp [show i<texts.length by omega]⟩
  rw [take_succ_get hs,laidV_snoc]
  refine (laidF_ok (ih (by omega)) ?_).2
  rw [← take_succ_get hs]
  have:=flat_le texts (i+1)
  omega
def boxesR (l:List Ro):List Blk:=l.map fun r=>Blk.arr 5 0 [r.av]
theorem laid_c (texts:List (List UInt8)) (hl:texts.flatten.length≤900) (h4:texts.length≤4) (A:List (Bool × List Blk)) (L0:List Blk) :
 S Tb F_quartolaw16_laid [.lit (texts.map .str)] ⟨A,false,L0⟩=some (.tup [.ptr A.length (L0.length+5) 0 0 0,.ref A.length (L0.length+6) texts.length 0 texts.length,.bool true],⟨A,false,L0++(arB A.length L0.length (laidV texts).1++(.arr 5 texts.length ((laidV texts).2.map Ro.av)::boxesR (laidV texts).2))⟩):=by
 refine s_keep rfl ?_
 have hN:=arNew_c 1500 3 (by omega) (by omega) A L0
 repeat' (first|refine is_onilG ?_|refine ru_seq ?_|refine ru_reg ?_|refine is_mv rfl ?_|refine is_gT rfl ?_|refine is_pick rfl rfl rfl rfl ?_|refine is_ext rfl rfl ?_|refine is_nil rfl ?_|refine rk_seq ?_|(refine is_neq rfl rfl (fun _=>?_) (fun _=>?_)<;>try (exfalso;omega))|refine ru_iteF rfl ?_|refine is_eqs rfl rfl rfl rfl ?_|refine is_callE rfl rfl rfl (hN) ?_|refine ru_skip ?_|refine ru_block ?_)
 all_goals try contradiction
 have e7:(L0++[(newAR 1500 3).b0,(newAR 1500 3).b1,(newAR 1500 3).b2,(newAR 1500 3).b3 A.length L0.length,(newAR 1500 3).b4,(newAR 1500 3).b5 A.length L0.length]).length=L0.length+6:=by simp
 rw [e7]
 refine ru_loopP (α:=Nat) (fun i=>[(0,.lit (texts.map .str)),(5,.ptr A.length (L0.length+5) 0 0 0),(7,.ref A.length (L0.length+6) i 0 i),(8,.int .i64 i)])
  (fun i=>⟨A,false,L0++(arB A.length L0.length (laidV (texts.take i)).1++(.arr 5 i ((laidV (texts.take i)).2.map Ro.av)::boxesR (laidV (texts.take i)).2))⟩) (fun i=>i≤texts.length) (fun i=>texts.length-i) 0 rfl ?_ (by simp) ?_
 ·rw [List.append_assoc];rfl
 rintro i hi
 have hok:=laidV_ok texts hl i hi
 rcases Nat.lt_or_ge i texts.length with hlt|hge
 ·obtain ⟨s,hs⟩:∃ s,texts[i]?=some s:=⟨texts[i]'(by omega),by simp [show i<texts.length by omega]⟩
  have hfl:=flat_le texts (i+1)
  have htk:(texts.take i++[s]).flatten.length≤900:=by rw [← take_succ_get hs];omega
  obtain ⟨hn,hok2⟩:=laidF_ok hok htk
  have h1:=rtNew_c (has_cur A L0 (.arr 5 i ((laidV (texts.take i)).2.map Ro.av)::boxesR (laidV (texts.take i)).2) (laidV (texts.take i)).1) hok.ok hok.good s (by simp at htk;omega) hn
  rw [arSt_cur] at h1
  have hV:laidV (texts.take (i+1))=laidF (laidV (texts.take i)) s:=by rw [take_succ_get hs,laidV_snoc]
  unfold laidF at hV
  have hri:=hok.rts.1
  rw [List.length_take,Nat.min_eq_left hi] at hri
  generalize laidV (texts.take i)=V at *
  generalize wrV (buildM s) V.1=W at *
  have hx:0≤((i:Nat):Int)∧texts[((i:Nat):Int).toNat]?=some s:=⟨by omega,by rw [show ((i:Nat):Int).toNat=i by omega];exact hs⟩
  obtain ⟨L1,hL1⟩:∃ L1,L1=L0++(arB A.length L0.length W.1++Blk.arr 5 i (List.map Ro.av V.2)::boxesR V.2):=⟨_,rfl⟩
  rw [← hL1] at h1
  have g6:L1[L0.length+6]?=some (.arr 5 i (V.2.map Ro.av)):=by rw [hL1,get_app];rfl
  repeat' (first|refine is_ixKn rfl rfl hx (fun _=>rfl) ?_|refine ru_seq ?_|refine ru_reg ?_|refine is_mv rfl ?_|refine is_ext rfl rfl ?_|refine is_nil rfl ?_|refine rk_seq ?_|refine is_lenM rfl ?_|refine is_ldT rfl rfl rfl ?_|refine is_ldl rfl rfl ?_|(refine is_lss rfl rfl (fun _=>?_) (fun _=>?_)<;>try (exfalso;omega))|(refine is_neq rfl rfl (fun _=>?_) (fun _=>?_)<;>try (exfalso;omega))|refine ru_iteT rfl ?_|refine ru_iteF rfl ?_|refine is_boxG rfl rfl rfl ?_|refine is_stT rfl rfl rfl rfl rfl rfl ?_|refine is_bslFO rfl rfl rfl rfl ?_|refine is_callE rfl rfl rfl (h1) ?_|refine ru_skip ?_|refine ru_block ?_)
  all_goals try contradiction
  all_goals try (exfalso;omega)
  have h6l:L0.length+6<L1.length:=(List.getElem?_eq_some_iff.1 g6).1
  refine is_appG (es:=V.2.map Ro.av) (ys:=[W.2.1.av]) rfl rfl (get_left g6) (by rw [List.length_map];omega) rfl rfl (by rw [List.length_map,List.length_singleton];omega) (by decide) ?_
  repeat' (first|refine ru_reg ?_|refine is_mv rfl ?_|refine is_nil rfl ?_|refine rk_seq ?_|refine is_addS rfl rfl (by omega) ?_|refine rk_blk ?_|refine rk_inv ?_)
  refine ⟨i+1,⟨rfl,?_⟩,by omega,by omega⟩
  simp only [hV]
  rw [hL1,List.append_assoc,set_app]
  have e8:((V.2++[W.2.1]).map Ro.av)=V.2.map Ro.av++[W.2.1.av]:=by rw [List.map_append];rfl
  have e9:boxesR (V.2++[W.2.1])=boxesR V.2++[.arr 5 0 [W.2.1.av]]:=by unfold boxesR;rw [List.map_append];rfl
  rw [e8,e9]
  rfl
 ·obtain rfl:i=texts.length:=by omega
  rw [List.take_length]
  repeat' (first|refine ru_seq ?_|refine ru_reg ?_|refine is_mv rfl ?_|refine is_nil rfl ?_|refine rk_seq ?_|refine is_lenM rfl ?_|(refine is_lss rfl rfl (fun _=>?_) (fun _=>?_)<;>try (exfalso;omega))|refine ru_iteF rfl ?_|refine ru_ret ?_|refine ru_exit ?_|refine rk_nil ?_|refine rk_seq_ex ?_|refine rk_blk_eq rfl ?_|refine rk_inv_ex ?_)
  refine (end_keep (.inr rfl) rfl rfl rfl rfl).trans ?_
  rfl
end Go.Q15
namespace Go.Q15
open Go Go.QAbs
set_option maxRecDepth 100000
set_option maxHeartbeats 8000000
def pickM (x n:Int):Int:=(x % 18446744073709551616) % (n+1)
theorem pickM_bounds {x n:Int} (h:0≤n):0≤pickM x n∧pickM x n≤n:=by
 unfold pickM
 have:=Int.emod_nonneg (x % 18446744073709551616) (show n+1≠0 by omega)
 have:=Int.emod_lt_of_pos (x % 18446744073709551616) (show 0<n+1 by omega)
 omega
theorem wrapU (x:Int):IntKind.u64.wrap x=x % 18446744073709551616:=by
 have e1:IntKind.u64.signed=false:=rfl
 have e2:IntKind.u64.bits=64:=rfl
 simp only [IntKind.wrap,e1,e2,Bool.false_and,if_false,Bool.false_eq_true]
 rfl
end Go.Q15
namespace Go.Q15
open Go Go.QAbs
set_option maxRecDepth 100000
set_option maxHeartbeats 1000000
theorem ownO_getD (k:Option (List Tr)):(Tr.ownO k).getD []=(k.getD []).map Tr.own:=by
 cases k with
 | none=>rfl
 | some l=>simp [Tr.ownO,Tr.ownL_map]
theorem own_h (t:Tr):t.own.h=t.h:=by cases t;rfl
theorem own_bytes (t:Tr):t.own.bytes=t.bytes:=by
 induction t using Tr.ind with
 | step o h m s k ih =>
  rw [Tr.own,Tr.bytes,Tr.bytes,Tr.bytesO_getD,Tr.bytesO_getD,ownO_getD]
  generalize k.getD []=l at ih
  congr 1
  induction l with
  | nil=>rfl
  | cons a l ih2=>rw [List.map_cons,Tr.bytesL,Tr.bytesL,ih a (by simp),ih2 (fun t ht=>ih t (by simp [ht]))]
theorem own_val {N:Nodes} {t:Tr} (hv:Val N t):Val N t.own:=by
 induction hv with
 | kept h0 hx hok hh hm hk =>
  rw [Tr.own]
  exact .kept h0 hx hok hh hm (by rw [ownO_getD,hk];rfl)
 | leaf h1 h2 hk =>
  rw [Tr.own]
  exact .leaf h1 h2 (by rw [ownO_getD,hk];rfl)
 | inner hh h2 h4 hl hb hv ih =>
  rename_i h l
  rw [Tr.own,Tr.ownO,Tr.ownL_map]
  refine .inner hh (by rw [List.length_map];exact h2) (by rw [List.length_map];exact h4) ?_ ?_ ?_
  ·intro t ht
   obtain ⟨u,hu,rfl⟩:=List.mem_map.1 ht
   rw [own_h];exact hl u hu
  ·intro t ht q
   obtain ⟨u,hu,rfl⟩:=List.mem_map.1 ht
   rw [own_bytes];exact hb u hu q
  ·intro t ht
   obtain ⟨u,hu,rfl⟩:=List.mem_map.1 ht
   exact ih u hu
theorem own_ve {N:Nodes} {t:Tr} (h:VE N t):VE N t.own:=by
 rcases h with h|h
 ·obtain ⟨o,h',m,s,k⟩:=t
  obtain ⟨h1,h2,h3,h4,h5⟩:=h
  exact .inl ⟨h1,h2,h3,h4,by show (Tr.ownO k).getD []=[];rw [ownO_getD];simp only [Tr.ks] at h5;rw [h5];rfl⟩
 ·exact .inr (own_val h)
end Go.Q15
namespace Go.Q15
open Go Go.QAbs
set_option maxRecDepth 100000
set_option maxHeartbeats 8000000
theorem pick_c (x n:Int) (h0:0≤n) (h1:n<4611686018427387904) (st:St):S Tb F_quartolaw16_pick [.int .i64 x,.int .i64 n] st=some (.int .i64 (pickM x n),st):=by
 have hp:=pickM_bounds (x:=x) h0
 have hw:IntKind.u64.wrap (n+1)=n+1:=by rw [wrapU];omega
 have hx:=Int.emod_nonneg x (show (18446744073709551616:Int)≠0 by decide)
 have hrem:binV .rem (.int .u64 (IntKind.u64.wrap x)) (.int .u64 (n+1))=some (.int .u64 (pickM x n)):=by
  rw [wrapU]
  show (if n+1=0 then none else some (AV.int .u64 ((x % 18446744073709551616).tmod (n+1))))=_
  rw [if_neg (by omega),Int.tmod_eq_emod_of_nonneg hx];rfl
 refine s_of rfl (fun A hA=>?_)
 repeat' (first|refine ru_seq ?_|refine ru_reg ?_|refine is_mv rfl ?_|refine is_nil rfl ?_|refine rk_seq ?_)
 refine is_cint rfl ?_
 repeat' (first|refine is_mv rfl ?_|refine is_addS rfl rfl (by omega) ?_)
 refine is_cintW rfl hw ?_
 refine is_bin rfl rfl hrem ?_
 refine is_cintW rfl (wrap64 (by omega) (by omega)) ?_
 repeat' (first|refine is_mv rfl ?_|refine is_nil rfl ?_|refine rk_seq ?_|refine ru_ret ?_|refine rk_nil ?_)
 refine end_st hA (by first|exact .inl rfl|exact .inr rfl) rfl rfl rfl rfl ?_
 rfl
structure Ed where
 what:Nat
 n:Int
 at_:Int
 len:Int
 text:List UInt8
def Ed.av (y:Ed):AV:=.agg [.int .u8 y.what,.int .i64 y.n,.int .i64 y.at_,.int .i64 y.len,.str y.text]
def pickR (ros:List Ro) (x:Int):Option Ro:=ros[(pickM x ((ros.length:Int)-1)).toNat]?
noncomputable def planV (N:Nodes) (ros:List Ro) (y:Ed):Tr :=
 match pickR ros y.n with
 | none=>buildM y.text
 | some r=>(replM N (keepT r) (pickM y.at_ r.m.b) (pickM y.len (r.m.b-pickM y.at_ r.m.b)) y.text).own
theorem pickR_lt {ros:List Ro} {x:Int} (h:ros≠[]):∃ r,pickR ros x=some r∧r∈ros∧(pickM x ((ros.length:Int)-1)).toNat<ros.length:=by
 have hl:0<ros.length:=List.length_pos_iff.2 h
 have:=pickM_bounds (x:=x) (n:=(ros.length:Int)-1) (by omega)
 have hlt:(pickM x ((ros.length:Int)-1)).toNat<ros.length:=by omega
 exact ⟨ros[(pickM x ((ros.length:Int)-1)).toNat]'hlt,by unfold pickR;rw [List.getElem?_eq_getElem hlt],List.getElem_mem _,hlt⟩
theorem ro_part (r:Ro):partOf r.av true 0 5=some r.av:=by cases r;rfl
theorem len1L {O:Orc} {k:List Fr} {Q:Post} {e:Env} {st:St} {keep:List Nat} {is:List QAbs.PI} {d:Nat} {α:Type} {f:α→AV} {x:Opd} {l:List α} (hx:opdO e x=some (.lit (l.map f))) (h:Is O is keep k Q ((d,.int .i64 l.length)::e) st):Is O (⟨some d,none,false,.len 1 x⟩::is) keep k Q e st:=by
 refine is_lenL hx ?_
 rw [List.length_map];exact h
theorem wkPTIIS {lv ix:Nat} {t:Tr} {n m:Int} {s:List UInt8}:forceL (weaks ([]++[.ptr lv ix 0 0 0,t.av,.int .i64 n,.int .i64 m,.str s]++[]))=some [.ptr lv ix 0 0 0,t.av,.int .i64 n,.int .i64 m,.str s]:=by
 simp only [lE,lN,lC,weaks,tr_weak,forceL];rfl
structure PlanOk (N:Nodes) (ros:List Ro):Prop where
 rt:∀ r∈ros,RtOk N r∧(keepT r).bytes=r.m.b∧0≤r.m.b∧r.m.b≤60000
 len:ros.length<65536
theorem Rts.plan {N:Nodes} (hN:GoodN N) {ros:List Ro} {ss:List (List UInt8)} (h:Rts N ros ss) (hl:ros.length<65536) (hs:∀ s∈ss,s.length≤60000):PlanOk N ros:=by
 refine ⟨fun r hr=>?_,hl⟩
 obtain ⟨i,hi,rfl⟩:=List.getElem_of_mem hr
 have hi2:i<ss.length:=by rw [← h.1];exact hi
 have g:=h.2 i _ _ (List.getElem?_eq_getElem hi) (List.getElem?_eq_getElem hi2)
 obtain ⟨b1,b2⟩:=g.b hN
 have:=hs _ (List.getElem_mem hi2)
 exact ⟨g.rt,by rw [b1,b2],by omega,by omega⟩
theorem RtOk.keep {N:Nodes} {r:Ro} (h:RtOk N r):VE N (keepT r):=(Rt.keep ⟨h,rfl⟩).1
theorem planV_ok {N:Nodes} (hN:GoodN N) {ros:List Ro} (h:PlanOk N ros) {y:Ed} (hy:y.text.length≤200):VE N (planV N ros y)∧(planV N ros y).bytes≤60200:=by
 unfold planV
 match hq:pickR ros y.n with
 | none =>
  obtain ⟨b1,b2,b3⟩:=buildM_ok hN (s:=y.text) (by omega)
  exact ⟨b1,by show (buildM y.text).bytes≤_;omega⟩
 | some r =>
  obtain ⟨h1,h2,h3,h4⟩:=h.rt r (List.mem_of_getElem? (show ros[_]?=some r from hq))
  have p1:=pickM_bounds (x:=y.at_) h3
  have p2:=pickM_bounds (x:=y.len) (n:=r.m.b-pickM y.at_ r.m.b) (by omega)
  have:=replM_ok hN (s:=y.text) h1.keep (a:=pickM y.at_ r.m.b) (n:=pickM y.len (r.m.b-pickM y.at_ r.m.b)) p1.1 p2.1 (by omega) (by omega) (by omega)
  refine ⟨own_ve this.ve,?_⟩
  show (Tr.own _).bytes≤_
  rw [own_bytes,this.bytes];omega
theorem plans_c {st:St} {la b:Nat} {N:Nodes} (hN:GoodN N) (hR:Rd st la (b+5) N) {kx lv ver:Nat} {ros:List Ro} (hg:st.get lv kx=some (.arr 5 ver (ros.map Ro.av))) (hP:PlanOk N ros) {ys:List Ed} (hyl:ys.length<65536) (hy:∀ y∈ys,y.text.length≤200) :
 S Tb F_quartolaw16_plans [.ptr la (b+5) 0 0 0,.ref lv kx ver 0 ros.length,.lit (ys.map Ed.av)] st=some (.tup [.lit ((ys.map (planV N ros)).map Tr.av),.bool true],st):=by
 refine s_of rfl (fun A hA=>?_)
 have hr:=fun L=>hR.push hA (ro:=false) (L:=L)
 have gr:=fun L=>get_old hA (ro:=false) (L:=L) hg
 have hwi:∀ L,wIs 5 ver (St.get ⟨A,false,L⟩ lv kx)=true:=fun L=>by rw [gr];simp [wIs]
 have hpl:=hP.len
 repeat' (first|refine ru_seq ?_|refine ru_reg ?_|refine is_mv rfl ?_|refine is_nil rfl ?_|refine rk_seq ?_|refine is_onil rfl ?_|refine ru_block ?_)
 refine ru_loopP (α:=Nat × List Blk) (fun q=>[(0,.ptr la (b+5) 0 0 0),(1,.ref lv kx ver 0 ros.length),(2,.lit (ys.map Ed.av)),(8,.ref A.length 0 q.1 0 q.1),(9,.int .i64 q.1)])
  (fun q=>⟨A,false,.arr 7 q.1 (((ys.take q.1).map (planV N ros)).map Tr.av)::q.2⟩) (fun q=>q.1≤ys.length) (fun q=>ys.length-q.1) (0,[]) rfl rfl (Nat.zero_le _) ?_
 rintro ⟨i,G⟩ hi
 simp only at hi ⊢
 rcases Nat.lt_or_ge i ys.length with hlt|hge
 ·obtain ⟨y,hyi⟩:∃ y,ys[i]?=some y:=⟨ys[i]'(by omega),by simp [hlt]⟩
  have hy1:=hy y (List.mem_of_getElem? hyi)
  have hx:0≤((i:Nat):Int)∧ys[((i:Nat):Int).toNat]?=some y:=⟨by omega,by rw [show ((i:Nat):Int).toNat=i by omega];exact hyi⟩
  have hes:(((ys.take i).map (planV N ros)).map Tr.av).length=i:=by simp;omega
  have hfin:∀ c,planV N ros y=c→((ys.take (i+1)).map (planV N ros)).map Tr.av=((ys.take i).map (planV N ros)).map Tr.av++[c.av]:=fun c hc=>by
   rw [take_succ_get hyi,List.map_append,List.map_append,← hc];rfl
  generalize hES:((ys.take i).map (planV N ros)).map Tr.av=es at *
  have e0:(⟨A,false,.arr 7 i es::G⟩:St)=⟨A,false,(.arr 7 i es::G)++[]⟩:=by rw [lN]
  rw [e0]
  by_cases hros:ros=[]
  ·have hc:=hfin (buildM y.text) (by unfold planV;rw [show pickR ros y.n=none by subst hros;rfl])
   have h0:(ros.length:Int)=0:=by rw [hros];rfl
   have hBu:=fun st=>Build_c hN y.text (by omega) st
   generalize buildM y.text=c at *
   repeat' (first|refine len1L rfl ?_|refine is_lenR rfl ?_|refine is_ixKn rfl rfl hx (fun _=>rfl) ?_|refine is_boxA rfl rfl rfl rfl rfl ?_|refine is_ldA rfl rfl rfl (tr_part _) ?_|refine is_stA rfl rfl rfl rfl (tr_seal _ _ _) (tr_put _ _) rfl ?_|refine is_bslTr1 rfl ?_|refine ru_seq ?_|refine ru_reg ?_|refine is_mv rfl ?_|refine is_fadr rfl rfl ?_|refine is_ext rfl rfl ?_|refine is_nil rfl ?_|refine rk_seq ?_|refine is_ldl rfl rfl ?_|(refine is_lss rfl rfl (fun _=>?_) (fun _=>?_)<;>try (exfalso;omega))|(refine is_eql rfl rfl (fun _=>?_) (fun _=>?_)<;>try (exfalso;omega))|(refine is_neq rfl rfl (fun _=>?_) (fun _=>?_)<;>try (exfalso;omega))|refine ru_iteT rfl ?_|refine ru_iteF rfl ?_|refine is_callE rfl rfl (by first|rfl|(simp only [lE,lN,lC,weaks,tr_weak,forceL];first|done|rfl)) (hBu _) ?_|refine ru_skip ?_|refine ru_block ?_)
   all_goals try contradiction
   all_goals try (exfalso;omega)
   refine is_appG (es:=es) (ys:=[c].map Tr.av) rfl rfl rfl hes.symm (trs_wide _) (trs_seal _ _ _) (by rw [hes,List.length_map,List.length_singleton];omega) (by decide) ?_
   repeat' (first|refine ru_reg ?_|refine is_mv rfl ?_|refine is_nil rfl ?_|refine rk_seq ?_|refine is_addS rfl rfl (by omega) ?_|refine ru_exit ?_|refine rk_seq_ex ?_|refine rk_blk_eq rfl ?_|refine rk_inv ?_)
   refine ⟨(i+1,G++[.arr 7 0 [c.av]]),⟨rfl,?_⟩,by simp only;omega,by simp only;omega⟩
   simp only [hc]
   rfl
  ·obtain ⟨r,hr1,hr2,hr3⟩:=pickR_lt (x:=y.n) hros
   have hc:=hfin (replM N (keepT r) (pickM y.at_ r.m.b) (pickM y.len (r.m.b-pickM y.at_ r.m.b)) y.text).own (by unfold planV;rw [hr1])
   obtain ⟨h1,h2,h3,h4⟩:=hP.rt r hr2
   have hl0:0<ros.length:=List.length_pos_iff.2 hros
   have pn:=pickM_bounds (x:=y.n) (n:=(ros.length:Int)-1) (by omega)
   have p1:=pickM_bounds (x:=y.at_) h3
   have p2:=pickM_bounds (x:=y.len) (n:=r.m.b-pickM y.at_ r.m.b) (by omega)
   have hN1:=fun st=>pick_c y.n ((ros.length:Int)-1) (by omega) (by omega) st
   have hN2:=fun st=>pick_c y.at_ r.m.b (by omega) (by omega) st
   have hN3:=fun st=>pick_c y.len (r.m.b-pickM y.at_ r.m.b) (by omega) (by omega) st
   have hK:=fun L=>Keep_rt (hr L) h1
   have hRe:=fun L=>Replace_c hN (hr L) (s:=y.text) h1.keep (a:=pickM y.at_ r.m.b) (n:=pickM y.len (r.m.b-pickM y.at_ r.m.b)) p1.1 p2.1 (by omega) (by omega) (by omega)
   have gr2:(ros.map Ro.av)[0+(pickM y.n ((ros.length:Int)-1)).toNat]?=some r.av:=by
    rw [Nat.zero_add,List.getElem?_map,show ros[(pickM y.n ((ros.length:Int)-1)).toNat]?=some r from hr1];rfl
   generalize (replM N (keepT r) (pickM y.at_ r.m.b) (pickM y.len (r.m.b-pickM y.at_ r.m.b)) y.text).own=c at *
   generalize keepT r=kt at *
   repeat' (first|refine len1L rfl ?_|refine is_lenR rfl ?_|refine is_ixKn rfl rfl hx (fun _=>rfl) ?_|refine is_ixR rfl rfl (by omega) (hwi _) ?_|refine is_ld rfl (gr _) gr2 (ro_part _) ?_|refine is_boxA rfl rfl rfl rfl rfl ?_|refine is_ldA rfl rfl rfl rfl ?_|refine is_ldA rfl rfl rfl (tr_part _) ?_|refine is_stA rfl rfl rfl rfl (tr_seal _ _ _) (tr_put _ _) rfl ?_|refine is_stA rfl rfl rfl rfl rfl rfl rfl ?_|refine is_bslTr1 rfl ?_|refine ru_seq ?_|refine ru_reg ?_|refine is_mv rfl ?_|refine is_fadr rfl rfl ?_|refine is_ext rfl rfl ?_|refine is_nil rfl ?_|refine rk_seq ?_|refine is_ldl rfl rfl ?_|(refine is_lss rfl rfl (fun _=>?_) (fun _=>?_)<;>try (exfalso;omega))|(refine is_eql rfl rfl (fun _=>?_) (fun _=>?_)<;>try (exfalso;omega))|(refine is_neq rfl rfl (fun _=>?_) (fun _=>?_)<;>try (exfalso;omega))|refine ru_iteT rfl ?_|refine ru_iteF rfl ?_|refine is_subS rfl rfl (by omega) ?_|refine is_callE rfl rfl (by first|rfl|(simp only [lE,lN,lC,weaks,tr_weak,forceL];first|done|rfl)) (hN1 _) ?_|refine is_callE rfl rfl (by first|rfl|(simp only [lE,lN,lC,weaks,tr_weak,forceL];first|done|rfl)) (hN2 _) ?_|refine is_callP rfl rfl rfl (hN3 _) ?_|refine is_callE rfl rfl (by first|rfl|(simp only [lE,lN,lC,weaks,tr_weak,forceL];first|done|rfl)) (hK _) ?_|refine is_callE rfl rfl wkPTIIS (hRe _) ?_|refine ru_skip ?_|refine ru_block ?_)
   all_goals try contradiction
   all_goals try (exfalso;omega)
   refine is_appG (es:=es) (ys:=[c].map Tr.av) rfl rfl rfl hes.symm (trs_wide _) (trs_seal _ _ _) (by rw [hes,List.length_map,List.length_singleton];omega) (by decide) ?_
   repeat' (first|refine ru_reg ?_|refine is_mv rfl ?_|refine is_nil rfl ?_|refine rk_seq ?_|refine is_addS rfl rfl (by omega) ?_|refine rk_blk ?_|refine rk_inv ?_)
   refine ⟨(i+1,G++[.arr 5 0 [r.av],.arr 7 0 [c.av]]),⟨rfl,?_⟩,by simp only;omega,by simp only;omega⟩
   simp only [hc]
   rfl
 ·obtain rfl:i=ys.length:=by omega
  rw [List.take_length]
  repeat' (first|refine len1L rfl ?_|refine ru_seq ?_|refine ru_reg ?_|refine is_mv rfl ?_|refine is_nil rfl ?_|refine rk_seq ?_|(refine is_lss rfl rfl (fun _=>?_) (fun _=>?_)<;>try (exfalso;omega))|refine ru_iteF rfl ?_|refine ru_ret ?_|refine ru_exit ?_|refine rk_nil ?_|refine rk_seq_ex ?_|refine rk_blk_eq rfl ?_|refine rk_inv_ex ?_)
  all_goals try (exfalso;omega)
  exact end_ref1 hA (.inr rfl) rfl rfl (by simp) (fun v hv=>by obtain ⟨x,_,rfl⟩:=List.mem_map.1 hv;exact tr_imm 2 x) rfl rfl
end Go.Q15
namespace Go.Q15
open Go Go.QAbs
set_option maxRecDepth 100000
set_option maxHeartbeats 8000000
def longF:Nat→List (List UInt8)→Nat
 | n,[]=>n
 | n,t::ts=>if n≤900 then longF (n+min t.length 1000) ts else n
def longP (l:List (List UInt8)):Prop:=4<l.length∨900<longF 0 l
instance (l:List (List UInt8)):Decidable (longP l):=by unfold longP;infer_instance
theorem longF_ge:∀ (l:List (List UInt8)) (n:Nat),n≤longF n l
 | [],n=>by simp [longF]
 | t::ts,n=>by
  rw [longF]
  by_cases h:n≤900
  ·rw [if_pos h];have:=longF_ge ts (n+min t.length 1000);omega
  ·rw [if_neg h];exact Nat.le_refl _
theorem longF_sum:∀ (l:List (List UInt8)) (n:Nat),longF n l≤900→n+(l.map List.length).sum≤900
 | [],n,h=>by simpa [longF] using h
 | t::ts,n,h=>by
  rw [longF] at h
  by_cases hn:n≤900
  ·rw [if_pos hn] at h
   have h1:=longF_ge ts (n+min t.length 1000)
   have h2:=longF_sum ts _ h
   rw [List.map_cons,List.sum_cons];omega
  ·rw [if_neg hn] at h;omega
theorem drop_cons {α:Type} {l:List α} {i:Nat} {a:α} (h:l[i]?=some a):l.drop i=a::l.drop (i+1):=by
 obtain ⟨h1,h2⟩:=List.getElem?_eq_some_iff.1 h
 subst h2
 exact List.drop_eq_getElem_cons h1
theorem long_c (l:List (List UInt8)) (hb:l.length<9223372036854775808) (hs:∀ s∈l,s.length<9223372036854775808) (st:St):S Tb F_quartolaw15_Long [.lit (l.map .str)] st=some (.bool (decide (longP l)),st):=by
 refine s_of rfl (fun A hA=>?_)
 repeat' (first|refine ru_seq ?_|refine ru_reg ?_|refine is_mv rfl ?_|refine is_nil rfl ?_|refine rk_seq ?_|refine ru_block ?_)
 refine ru_loopP (α:=Nat × Nat) (fun p=>[(0,.lit (l.map .str)),(3,.int .i64 p.2),(4,.int .i64 p.1)]) (fun p=>⟨A,false,[]⟩) (fun p=>p.1≤l.length∧p.2≤1900∧longF p.2 (l.drop p.1)=longF 0 l) (fun p=>l.length-p.1) (0,0) rfl rfl ⟨Nat.zero_le _,Nat.zero_le _,rfl⟩ ?_
 rintro ⟨i,n⟩ ⟨h1,h2,h3⟩
 simp only at h1 h2 h3 ⊢
 repeat' (first|refine ru_seq ?_|refine ru_reg ?_|refine is_mv rfl ?_|refine is_gT rfl ?_|refine is_gF rfl rfl ?_|refine is_pick rfl rfl rfl rfl ?_|refine is_nil rfl ?_|refine rk_seq ?_|refine is_lenS rfl ?_|refine is_lenM rfl ?_|refine is_ldl rfl rfl ?_|refine is_ixM rfl rfl (by omega) (fun _=>rfl) (fun _ _=>?_)|(refine is_lss rfl rfl (fun _=>?_) (fun _=>?_)<;>try (exfalso;omega))|(refine is_leq rfl rfl (fun _=>?_) (fun _=>?_)<;>try (exfalso;omega))|(refine is_gtr rfl rfl (fun _=>?_) (fun _=>?_)<;>try (exfalso;omega))|refine ru_iteT rfl ?_|refine ru_iteF rfl ?_|refine is_mnx rfl rfl ?_|refine ru_skip ?_|refine ru_ret ?_|refine ru_exit ?_|refine ru_block ?_|refine rk_nil ?_|refine rk_seq_ex ?_|refine rk_blk_eq rfl ?_|refine rk_inv_ex ?_)
 ·rename_i hlt hn x hx
  have hx':l[i]?=some x:=by rw [show i=((i:Nat):Int).toNat by omega];exact hx
  have hxl:=hs x (List.mem_of_getElem? hx')
  have e1:(if false=true then max (x.length:Int) 1000 else min (x.length:Int) 1000)=((min x.length 1000:Nat):Int):=by
   simp only [Bool.false_eq_true,if_false];omega
  rw [e1]
  refine is_addS rfl rfl (by omega) ?_
  rw [show (n:Int)+((min x.length 1000:Nat):Int)=((n+min x.length 1000:Nat):Int) by omega]
  repeat' (first|refine ru_reg ?_|refine is_mv rfl ?_|refine is_nil rfl ?_|refine rk_seq ?_|refine is_addS rfl rfl (by omega) ?_|refine rk_blk ?_|refine rk_inv ?_)
  refine ⟨(i+1,n+min x.length 1000),⟨rfl,rfl⟩,⟨by simp only;omega,by simp only;omega,?_⟩,by simp only;omega⟩
  rw [← h3,drop_cons hx',longF,if_pos (by omega)]
 ·refine end_ofB hA (by first|exact .inl rfl|exact .inr rfl) rfl rfl ?_
  exact (decide_eq_true (.inl (by omega))).symm
 ·refine end_ofB hA (by first|exact .inl rfl|exact .inr rfl) rfl rfl ?_
  refine (decide_eq_true (.inr ?_)).symm
  have:=longF_ge (l.drop i) n
  omega
 ·refine end_ofB hA (by first|exact .inl rfl|exact .inr rfl) rfl rfl ?_
  exact (decide_eq_true (.inl (by omega))).symm
 ·refine end_ofB hA (by first|exact .inl rfl|exact .inr rfl) rfl rfl ?_
  refine (decide_eq_true (.inr ?_)).symm
  have:=longF_ge (l.drop i) n
  omega
 ·refine end_ofB hA (by first|exact .inl rfl|exact .inr rfl) rfl rfl ?_
  refine (decide_eq_false ?_).symm
  have:l.drop i=[]:=List.drop_eq_nil_of_le (by omega)
  rw [this,longF] at h3
  rintro (h|h)<;>omega
structure Stp where
 what:Nat
 at_:Int
 n:Int
 text:List UInt8
def manyP (l:List Stp):Prop:=(∃ s∈l.take 100,200<s.text.length)∨30<l.length
open Classical in
noncomputable instance (l:List Stp):Decidable (manyP l):=Classical.propDecidable _
theorem longP_no {l:List (List UInt8)} (h:¬ longP l):l.length≤4∧(l.map List.length).sum≤900:=by
 have h1:¬ 4<l.length:=fun q=>h (.inl q)
 have h2:¬ 900<longF 0 l:=fun q=>h (.inr q)
 have:=longF_sum l 0 (by omega)
 exact ⟨by omega,by omega⟩
end Go.Q15
namespace Go.Q15
open Go Go.QAbs
set_option maxRecDepth 100000
set_option maxHeartbeats 8000000
def manyQ (l:List Ed):Prop:=(∃ s∈l.take 100,200<s.text.length)∨60<l.length
open Classical in
noncomputable instance (l:List Ed):Decidable (manyQ l):=Classical.propDecidable _
theorem many16_c (l:List Ed) (hb:l.length<9223372036854775808) (hs:∀ s∈l,s.text.length<9223372036854775808) (st:St):S Tb F_quartolaw16_Many [.lit (l.map Ed.av)] st=some (.bool (decide (manyQ l)),st):=by
 refine s_of rfl (fun A hA=>?_)
 repeat' (first|refine ru_seq ?_|refine ru_reg ?_|refine is_mv rfl ?_|refine is_nil rfl ?_|refine rk_seq ?_|refine ru_block ?_)
 refine ru_loopP (α:=Nat) (fun i=>[(0,.lit (l.map Ed.av)),(3,.int .i64 i)]) (fun p=>⟨A,false,[]⟩) (fun i=>i≤l.length∧i≤100∧∀ j s,j<i→l[j]?=some s→s.text.length≤200) (fun i=>l.length-i) 0 rfl rfl ⟨Nat.zero_le _,Nat.zero_le _,fun j s h=>by omega⟩ ?_
 rintro i ⟨h1,h2,h3⟩
 have key:∀ {j:Nat} {s:Ed},(l.length:Int)≤i∨100≤(i:Int)→s∈l.take 100→s.text.length≤200:=by
  intro j s hi hm
  obtain ⟨j,hj⟩:=List.mem_iff_getElem?.1 hm
  have hj1:=(List.getElem?_eq_some_iff.1 hj).1
  rw [List.length_take] at hj1
  rw [List.getElem?_take,if_pos (by omega)] at hj
  exact h3 j s (by omega) hj
 repeat' (first|refine ru_seq ?_|refine ru_reg ?_|refine is_mv rfl ?_|refine is_fadr rfl rfl ?_|refine is_gT rfl ?_|refine is_gF rfl rfl ?_|refine is_pick rfl rfl rfl rfl ?_|refine is_nil rfl ?_|refine rk_seq ?_|refine is_lenS rfl ?_|refine is_lenM rfl ?_|refine is_ldl rfl rfl ?_|refine is_ixM rfl rfl (by omega) (fun _=>rfl) (fun _ _=>?_)|(refine is_lss rfl rfl (fun _=>?_) (fun _=>?_)<;>try (exfalso;omega))|(refine is_gtr rfl rfl (fun _=>?_) (fun _=>?_)<;>try (exfalso;omega))|refine ru_iteT rfl ?_|refine ru_iteF rfl ?_|refine is_addS rfl rfl (by omega) ?_|refine ru_skip ?_|refine ru_ret ?_|refine ru_exit ?_|refine ru_block ?_|refine rk_nil ?_|refine rk_seq_ret ?_|refine rk_seq_ex ?_|refine rk_blk ?_|refine rk_blk_ret ?_|refine rk_blk_eq rfl ?_|refine rk_inv ?_|refine rk_inv_ret ?_|refine rk_inv_ex ?_)
 ·rename_i hlt hn s hs' hbig
  have hs1:l[i]?=some s:=by rw [show i=((i:Nat):Int).toNat by omega];exact hs'
  refine end_ofB hA (by first|exact .inl rfl|exact .inr rfl) rfl rfl ?_
  refine (decide_eq_true (.inl ⟨s,?_,by omega⟩)).symm
  refine List.mem_iff_getElem?.2 ⟨i,?_⟩
  rw [List.getElem?_take,if_pos (by omega)];exact hs1
 ·rename_i hlt hn s hs' hbig
  have hs1:l[i]?=some s:=by rw [show i=((i:Nat):Int).toNat by omega];exact hs'
  refine ⟨i+1,⟨rfl,rfl⟩,⟨by omega,by omega,fun j s2 hj h=>?_⟩,by omega⟩
  rcases Nat.lt_or_ge j i with q|q
  ·exact h3 j s2 q h
  ·obtain rfl:j=i:=by omega
   rw [hs1] at h
   have:=Option.some.inj h
   subst this
   omega
 ·refine end_ofB hA (by first|exact .inl rfl|exact .inr rfl) rfl rfl ?_
  exact (decide_eq_true (.inr (by omega))).symm
 ·refine end_ofB hA (by first|exact .inl rfl|exact .inr rfl) rfl rfl ?_
  exact (decide_eq_true (.inr (by omega))).symm
 ·refine end_ofB hA (by first|exact .inl rfl|exact .inr rfl) rfl rfl ?_
  refine (decide_eq_false ?_).symm
  rintro (⟨s,h,hh⟩|h)
  ·have:=key (j:=0) (s:=s) (.inl (by omega)) h
   omega
  ·omega
theorem manyQ_no {l:List Ed} (h:¬ manyQ l):l.length≤60∧∀ s∈l,s.text.length≤200:=by
 have h1:l.length≤60:=by
  rcases Nat.lt_or_ge 60 l.length with q|q
  ·exact absurd (.inr q) h
  ·exact q
 refine ⟨h1,fun s hs=>?_⟩
 rcases Nat.lt_or_ge 200 s.text.length with q|q
 ·refine absurd (.inl ⟨s,?_,q⟩) h
  rw [List.take_of_length_le (by omega)];exact hs
 ·exact q
end Go.Q15
namespace Go.Q15
open Go Go.QAbs
set_option maxRecDepth 100000
set_option maxHeartbeats 8000000
structure Comp (p:Mea→Int):Prop where
 zero:p .zero=0
 add:∀ x y:Mea,p (x.add y)=p x+p y
 fit:∀ (x:Mea) n,x.Fit n→0≤p x∧p x≤n
theorem comp_b:Comp Mea.b:=⟨rfl,fun _ _=>rfl,fun _ _ h=>⟨h.1,h.2⟩⟩
theorem comp_r:Comp Mea.r:=⟨rfl,fun _ _=>rfl,fun _ _ h=>⟨h.3,h.4⟩⟩
theorem comp_l:Comp Mea.l:=⟨rfl,fun _ _=>rfl,fun _ _ h=>⟨h.5,h.6⟩⟩
def skipK (p:Mea→Int):List Kid→Int→Nat × Int
 | [],a=>(0,a)
 | k::l,a=>if a<p k.m then (0,a) else ((skipK p l (a-p k.m)).1+1,(skipK p l (a-p k.m)).2)
def sumK (p:Mea→Int) (ks:List Kid) (i:Nat):Int:=p (sumM ((ks.take i).map Kid.m))
theorem sumK_succ {p:Mea→Int} (hp:Comp p) {ks:List Kid} {i:Nat} {k:Kid} (h:ks[i]?=some k):sumK p ks (i+1)=sumK p ks i+p k.m:=by
 unfold sumK
 rw [take_succ_get h,List.map_append,sumM_append,hp.add]
 simp [sumM,hp.add,hp.zero]
theorem skipK_ok {p:Mea→Int} (hp:Comp p):∀ (ks:List Kid) (a:Int),(∀ k∈ks,k.m.Fit 65536)→0≤a→a<p (sumM (ks.map Kid.m)) →
 (skipK p ks a).1<ks.length∧(skipK p ks a).2=a-sumK p ks (skipK p ks a).1∧0≤(skipK p ks a).2∧∀ k,ks[(skipK p ks a).1]?=some k→(skipK p ks a).2<p k.m:=by
 intro ks
 induction ks with
 | nil=>intro a _ h0 h1;simp only [List.map_nil,sumM,hp.zero] at h1;omega
 | cons k l ih =>
  intro a hf h0 h1
  simp only [List.map_cons,sumM,hp.add] at h1
  rw [skipK]
  by_cases q:a<p k.m
  ·rw [if_pos q]
   refine ⟨by simp,by simp [sumK,sumM,hp.zero],h0,fun z hz=>?_⟩
   simp at hz;subst hz;exact q
  ·rw [if_neg q]
   obtain ⟨i1,i2,i3,i4⟩:=ih (a-p k.m) (fun z hz=>hf z (List.mem_cons_of_mem _ hz)) (by omega) (by omega)
   refine ⟨by simp;omega,?_,i3,fun z hz=>i4 z (by simpa using hz)⟩
   simp only
   rw [i2]
   show _=a-p (sumM (((k::l).take (_+1)).map Kid.m))
   rw [List.take_succ_cons,List.map_cons,sumM,hp.add]
   unfold sumK
   omega
theorem skipK_drop {p:Mea→Int} {ks:List Kid} {i:Nat} {k:Kid} (h:ks[i]?=some k) (a:Int):skipK p (ks.drop i) a=if a<p k.m then (0,a) else ((skipK p (ks.drop (i+1)) (a-p k.m)).1+1,(skipK p (ks.drop (i+1)) (a-p k.m)).2):=by
 rw [drop_cons h,skipK]
def TellsM (g:FuncId) (p:Mea→Int):Prop:=∀ m st,S Tb g [Mea.av m] st=some (.int .i64 (p m),st)
theorem choose_c {g:FuncId} {p:Mea→Int} (hg:TellsM g p) (hp:Comp p) (n:Nat) (ks:List Kid) (hx:NdOk ⟨n+1,[],some ks⟩) (a:Int) (h0:0≤a) (h1:a<p (sumM (ks.map Kid.m))) (hb:a≤1000000) (st:St) :
 S Tb F_node_choose [Nd.av ⟨n+1,[],some ks⟩,.int .i64 a,.func (.func g) [] []] st=some (.tup [.int .i64 (skipK p ks a).1,.int .i64 (skipK p ks a).2,.int .i64 0],st):=by
 refine s_of rfl (fun A hA=>?_)
 have hCk:=fun st=>nCheck_c ⟨n+1,[],some ks⟩ hx st
 have hin:(∀ k∈ks,k.m.Fit 65536)∧ks.length≤4∧n≤15:=by
  rcases hx with q|⟨m,l,q⟩
  ·have:=q.h;simp at this
  ·have e:=q.eq
   simp only [Nd.mk.injEq,true_and,oJ] at e
   obtain ⟨e1,e2⟩:=e
   subst e2
   have:=q.n15
   exact ⟨fun k hk=>(q.kid k hk).fit,q.hi,by omega⟩
 obtain ⟨hf,hl4,hn15⟩:=hin
 obtain ⟨s1,s2,s3,s4⟩:=skipK_ok hp ks a hf h0 h1
 simp only [Nd.av,slV] at hCk ⊢
 repeat' (first|refine ru_seq ?_|refine ru_reg ?_|refine is_mv rfl ?_|refine is_fadr rfl rfl ?_|refine is_ldc rfl rfl rfl rfl ?_|refine is_nil rfl ?_|refine rk_seq ?_|refine is_lenM rfl ?_|(refine is_lss rfl rfl (fun _=>?_) (fun _=>?_)<;>try (exfalso;omega))|(refine is_eql rfl rfl (fun _=>?_) (fun _=>?_)<;>try (exfalso;omega))|(refine is_neq rfl rfl (fun _=>?_) (fun _=>?_)<;>try (exfalso;omega))|refine ru_iteF rfl ?_|refine is_box rfl rfl rfl ?_|refine is_callE rfl rfl rfl (hCk _) ?_|refine ru_skip ?_|refine ru_block ?_)
 all_goals try contradiction
 all_goals try (exfalso;omega)
 refine ru_loopP (α:=Nat × Int × List Blk) (fun q=>[(1,.int .i64 q.2.1),(2,.func (.func g) [] []),(23,.lit (ks.map Kid.av)),(24,.int .i64 ks.length),(25,.int .i64 q.1)])
  (fun q=>⟨A,false,.arr 3 0 [.agg [.int .i64 ((n+1:Nat):Int),.str [],.lit (ks.map Kid.av)]]::q.2.2⟩) (fun q=>q.1≤ks.length∧0≤q.2.1∧q.2.1≤a∧q.1≤(skipK p ks a).1∧skipK p ks a=((skipK p (ks.drop q.1) q.2.1).1+q.1,(skipK p (ks.drop q.1) q.2.1).2)) (fun q=>ks.length-q.1) (0,a,[]) rfl rfl ⟨Nat.zero_le _,h0,Int.le_refl _,Nat.zero_le _,rfl⟩ ?_
 rintro ⟨i,b,G⟩ ⟨hi,hb0,hba,hle,he⟩
 simp only at hi hb0 hba hle he ⊢
 rcases Nat.lt_or_ge i ks.length with hlt|hge
 ·obtain ⟨k,hk⟩:∃ k,ks[i]?=some k:=⟨ks[i]'hlt,List.getElem?_eq_getElem _⟩
  have q:0≤((i:Nat):Int)∧ks[((i:Nat):Int).toNat]?=some k:=⟨by omega,by rw [show ((i:Nat):Int).toNat=i by omega];exact hk⟩
  have hgm:=fun st=>hg k.m st
  obtain ⟨f1,f2⟩:=hp.fit k.m _ (hf k (List.mem_of_getElem? hk))
  have hd:=skipK_drop (p:=p) hk b
  obtain ⟨ka,km⟩:=k
  simp only at hgm f1 f2 hd
  unfold Mea.av at hgm
  generalize hpm:p km=z at *
  simp only [Kid.av] at *
  rcases Int.lt_or_le b z with hz|hz
  ·rw [if_pos hz] at hd
   rw [hd] at he
   rw [he]
   have e1:(((0+i:Nat)):Int)=i:=by omega
   simp only [e1]
   repeat' (first|refine is_ixKn (f:=Kid.av) rfl rfl q (fun _=>rfl) ?_|refine ru_seq ?_|refine ru_reg ?_|refine is_mv rfl ?_|refine is_fadr rfl rfl ?_|refine is_nil rfl ?_|refine rk_seq ?_|refine is_ldT rfl rfl rfl ?_|refine is_ldl rfl rfl ?_|(refine is_lss rfl rfl (fun _=>?_) (fun _=>?_)<;>try (exfalso;omega))|refine ru_iteT rfl ?_|refine is_boxG rfl rfl rfl ?_|refine is_stT rfl rfl rfl rfl rfl rfl ?_|refine is_callE rfl rfl rfl (hgm _) ?_|refine ru_skip ?_|refine ru_ret ?_|refine ru_block ?_|refine rk_nil ?_|refine rk_seq_ret ?_|refine rk_blk_ret ?_|refine rk_inv_ret ?_)
   all_goals try contradiction
   all_goals try (exfalso;omega)
   refine end_st hA (by first|exact .inl rfl|exact .inr rfl) rfl rfl rfl rfl ?_
   rfl
  ·rw [if_neg (by omega)] at hd
   repeat' (first|refine is_ixKn (f:=Kid.av) rfl rfl q (fun _=>rfl) ?_|refine ru_seq ?_|refine ru_reg ?_|refine is_mv rfl ?_|refine is_fadr rfl rfl ?_|refine is_nil rfl ?_|refine rk_seq ?_|refine is_ldT rfl rfl rfl ?_|refine is_ldl rfl rfl ?_|(refine is_lss rfl rfl (fun _=>?_) (fun _=>?_)<;>try (exfalso;omega))|refine ru_iteT rfl ?_|refine ru_iteF rfl ?_|refine is_addS rfl rfl (by omega) ?_|refine is_subS rfl rfl (by omega) ?_|refine is_boxG rfl rfl rfl ?_|refine is_stT rfl rfl rfl rfl rfl rfl ?_|refine is_callE rfl rfl rfl (hgm _) ?_|refine ru_skip ?_|refine ru_block ?_|refine rk_blk ?_|refine rk_inv ?_)
   all_goals try contradiction
   all_goals try (exfalso;omega)
   refine ⟨(i+1,b-z,G++[.arr 4 0 [Kid.av ⟨ka,km⟩]]),⟨rfl,rfl⟩,⟨by simp only;omega,by simp only;omega,by simp only;omega,?_,?_⟩,by simp only;omega⟩
   ·simp only;rw [he,hd];simp only;omega
   ·simp only;rw [he,hd];simp only;congr 1;omega
 ·exfalso
  omega
end Go.Q15
namespace Go.Q15
open Go Go.QAbs
set_option maxRecDepth 100000
set_option maxHeartbeats 8000000
end Go.Q15
namespace Go.Q15
open Go Go.QAbs
set_option maxRecDepth 100000
set_option maxHeartbeats 8000000
theorem eqvRo (a b c d f x y z u v:Int):eqV [(0,0),(1,0),(2,0),(3,0),(4,0)] 0 (.agg [.int .u64 a,.int .i64 b,.int .i64 c,.int .i64 d,.int .i64 f]) (.agg [.int .u64 x,.int .i64 y,.int .i64 z,.int .i64 u,.int .i64 v])=some (decide (a=x∧b=y∧c=z∧d=u∧f=v)):=by
 show (if decide (a=x)=true then (if decide (b=y)=true then (if decide (c=z)=true then (if decide (d=u)=true then (if decide (f=v)=true then some true else some false) else some false) else some false) else some false) else some false)=_
 by_cases h1:a=x<;>by_cases h2:b=y<;>by_cases h3:c=z<;>by_cases h4:d=u<;>by_cases h5:f=v<;>simp [h1,h2,h3,h4,h5]
theorem sCheck_c {st:St} {la b:Nat} {N:Nodes} (hR:Rd st la (b+5) N) {r:Ro} (hr:RtOk N r):S Tb F_seek_check [.ptr la (b+5) 0 0 0,r.av] st=some (.int .i64 0,st):=by
 refine s_of rfl (fun A hA=>?_)
 rcases hr with rfl|⟨h0,x,h1,h2,h3,h4⟩
 ·repeat' (first|refine ru_seq ?_|refine ru_reg ?_|refine is_mv rfl ?_|refine is_ldc rfl rfl rfl rfl ?_|refine is_nil rfl ?_|refine rk_seq ?_|refine ru_iteT rfl ?_|refine ru_iteF rfl ?_|refine is_buildO rfl rfl rfl ?_|refine is_eqs rfl rfl rfl rfl ?_|refine is_box rfl rfl rfl ?_|refine ru_skip ?_|refine ru_ret ?_|refine rk_nil ?_|refine rk_seq_ret ?_)
  all_goals try contradiction
  all_goals refine end_st hA (by first|exact .inl rfl|exact .inr rfl) rfl rfl rfl rfl ?_
  all_goals rfl
 ·have hG:=fun L=>Get_c (hR.push hA (ro:=false) (L:=L)) h1 h2.len
  have hok:NdOk x.copy:=by
   rcases h2 with q|⟨n,ks,q⟩
   ·left;exact ⟨q.h,q.lo,q.hi,q.ks⟩
   ·right;have e:=q.eq;subst e;exact ⟨n,ks,q⟩
  have hMe:=fun st=>nMeasure_c x.copy hok st
  have hm:x.copy.mea=x.mea:=rfl
  have hh:x.copy.h=x.h:=rfl
  rw [hm,h4] at hMe
  have h0i:((r.at_:Nat):Int)≠0:=by omega
  have hne:¬ ((r.at_:Int)=0∧(r.h:Int)=0∧r.m.b=0∧r.m.r=0∧r.m.l=0):=fun q=>h0i q.1
  obtain ⟨ra,rh,rm⟩:=r
  simp only at h0 h1 h3 h4 hMe h0i hne
  have hcp:x.copy.av=.agg [.int .i64 x.h,.str x.text,.lit (x.ks.map Kid.av)]:=rfl
  rw [hcp] at hG hMe
  generalize x.ks=yk at *
  obtain rfl:x.h=rh:=h3
  unfold Ro.av Mea.av at *
  simp only at *
  repeat' (first|refine ru_seq ?_|refine ru_reg ?_|refine is_mv rfl ?_|refine is_fadr rfl rfl ?_|refine is_ldc rfl rfl rfl rfl ?_|refine is_gT rfl ?_|refine is_pick rfl rfl rfl rfl ?_|refine is_ext rfl rfl ?_|refine is_nil rfl ?_|refine rk_seq ?_|(refine is_eql rfl rfl (fun _=>?_) (fun _=>?_)<;>try (exfalso;omega))|(refine is_neq rfl rfl (fun _=>?_) (fun _=>?_)<;>try (exfalso;omega))|refine ru_iteT rfl ?_|refine ru_iteF rfl ?_|refine is_buildO rfl rfl rfl ?_|refine is_eqs rfl rfl rfl rfl ?_|refine is_box rfl rfl rfl ?_|refine is_stb rfl rfl rfl rfl rfl rfl ?_|refine is_callE rfl rfl rfl (hG _) ?_|refine is_callE rfl rfl rfl (hMe _) ?_|(refine is_eqsB rfl rfl (eqv3 _ _ _ _ _ _) (fun _=>?_) (fun _=>?_))|(refine is_eqsB rfl rfl (eqvRo _ _ _ _ _ _ _ _ _ _) (fun _=>?_) (fun _=>?_))|refine ru_skip ?_|refine ru_ret ?_|refine rk_nil ?_|refine rk_seq_ret ?_)
  all_goals try contradiction
  all_goals try (exfalso;omega)
  all_goals first|exact absurd ‹_› hne|(refine end_st hA (by first|exact .inl rfl|exact .inr rfl) rfl rfl rfl rfl ?_;rfl)|exact absurd (And.intro rfl (And.intro rfl rfl)) ‹_›
theorem childC1_c:TellsM F_node_ChildC1 Mea.b:=fun m st=>by
 refine s_of rfl (fun A hA=>?_)
 unfold Mea.av
 repeat' (first|refine ru_seq ?_|refine ru_reg ?_|refine is_mv rfl ?_|refine is_fadr rfl rfl ?_|refine is_ldc rfl rfl rfl rfl ?_|refine is_nil rfl ?_|refine rk_seq ?_|refine is_box rfl rfl rfl ?_|refine ru_ret ?_|refine rk_nil ?_)
 refine end_st hA (by first|exact .inl rfl|exact .inr rfl) rfl rfl rfl rfl ?_
 rfl
theorem Child_c (n:Nat) (ks:List Kid) (hx:NdOk ⟨n+1,[],some ks⟩) (a:Int) (h0:0≤a) (h1:a<(sumM (ks.map Kid.m)).b) (hb:a≤1000000) (st:St) :
 S Tb F_node_Child [Nd.av ⟨n+1,[],some ks⟩,.int .i64 a] st=some (.tup [.int .i64 (skipK Mea.b ks a).1,.int .i64 (skipK Mea.b ks a).2,.int .i64 0],st):=by
 refine s_of rfl (fun A hA=>?_)
 have hC:=fun st=>choose_c childC1_c comp_b n ks hx a h0 h1 hb st
 unfold Nd.av at *
 simp only [slV] at *
 repeat' (first|refine ru_seq ?_|refine ru_reg ?_|refine is_mv rfl ?_|refine is_ldc rfl rfl rfl rfl ?_|refine is_ext rfl rfl ?_|refine is_nil rfl ?_|refine rk_seq ?_|refine is_box rfl rfl rfl ?_|refine is_callE rfl rfl rfl (hC _) ?_|refine ru_ret ?_|refine rk_nil ?_)
 refine end_st hA (by first|exact .inl rfl|exact .inr rfl) rfl rfl rfl rfl ?_
 rfl
end Go.Q15
namespace Go.Q15
open Go Go.QAbs
set_option maxRecDepth 100000
set_option maxHeartbeats 8000000
structure Pass (σ:Int→St) (q:Mea→Int) (g:FuncId) (caps:List AV) (N:Nat):Prop where
 comp:Comp q
 len:∀ s,(σ s).ps.length=N
 call:∀ s m L,0≤s→s≤1000000000→m.Fit 65536→∃ v,S Tb g ([Mea.av m]++caps) ⟨(σ s).ps,false,L⟩=some (v,⟨(σ (s+q m)).ps,false,L⟩)
 wk:∀ m,forceL (weaks ([]++[Mea.av m]++caps))=some ([Mea.av m]++caps)
theorem is_kslc {O:Orc} {k:List Fr} {Q:Post} {e:Env} {st:St} {keep:List Nat} {is:List QAbs.PI} {d:Nat} {x b:Opd} {ks:List Kid} {i:Nat} (hx:opdO e x=some (.lit (ks.map Kid.av))) (hb:opdO e b=some (.int .i64 i)) (hi:i≤ks.length)
 (h:Is O is keep k Q ((d,.lit ((ks.take i).map Kid.av))::e) st):Is O (⟨some d,none,false,.slc 4 x none (some b)⟩::is) keep k Q e st:=by
 refine is_slcL_hi hx hb ⟨by omega,by simp;omega⟩ (kids_wide _) ?_
 rw [show ((i:Nat):Int).toNat=i by omega,← List.map_take]
 exact h
theorem pass_loop {σ:Int→St} {q:Mea→Int} {g:FuncId} {caps:List AV} {N:Nat} (hp:Pass σ q g caps N) {ks:List Kid} {L:List Blk} {v0 v3 v10 v12 v14 v16 v17:AV} (s0:Int) {A0:List (Bool × List Blk)} (hA0:A0=(σ s0).ps) {k:List Fr} {Q:Post}
 (hQ:∀ G,Rk (S Tb) k Q .norm [(0,v0),(3,v3),(4,.func (.func g) [] caps),(10,v10),(12,v12),(14,v14),(16,v16),(17,v17),(63,.lit (ks.map Kid.av)),(64,.int .i64 ks.length),(65,.int .i64 ks.length),(66,.bool false)] ⟨(σ (s0+q (sumM (ks.map Kid.m)))).ps,false,L++G⟩) (hl:ks.length<100) (hs0:0≤s0∧s0≤900000000) (hfit:∀ k∈ks,k.m.Fit 65536) :
 Ru (S Tb) p_seek_walk_18.loop (.blk 2::k) Q [(0,v0),(3,v3),(4,.func (.func g) [] caps),(10,v10),(12,v12),(14,v14),(16,v16),(17,v17),(63,.lit (ks.map Kid.av)),(64,.int .i64 ks.length),(65,.int .i64 0)] ⟨A0,false,L⟩:=by
 subst hA0
 refine ru_loopP (α:=Nat × List Blk) (fun p=>[(0,v0),(3,v3),(4,.func (.func g) [] caps),(10,v10),(12,v12),(14,v14),(16,v16),(17,v17),(63,.lit (ks.map Kid.av)),(64,.int .i64 ks.length),(65,.int .i64 p.1)])
  (fun p=>⟨(σ (s0+sumK q ks p.1)).ps,false,L++p.2⟩) (fun p=>p.1≤ks.length) (fun p=>ks.length-p.1) (0,[]) rfl (by simp [sumK,sumM,hp.comp.zero]) (Nat.zero_le _) ?_
 rintro ⟨i,G⟩ hi
 simp only at hi ⊢
 rcases Nat.lt_or_ge i ks.length with hlt|hge
 ·obtain ⟨kd,hk⟩:∃ k,ks[i]?=some k:=⟨ks[i]'hlt,List.getElem?_eq_getElem _⟩
  have qk:0≤((i:Nat):Int)∧ks[((i:Nat):Int).toNat]?=some kd:=⟨by omega,by rw [show ((i:Nat):Int).toNat=i by omega];exact hk⟩
  have hsu:=sumK_succ hp.comp hk
  have hsf:=hp.comp.fit _ _ (sumM_fit (l:=(ks.take i).map Kid.m) (fun m hm=>by obtain ⟨z,hz,rfl⟩:=List.mem_map.1 hm;exact hfit z (List.mem_of_mem_take hz)))
  rw [List.length_map,List.length_take,Nat.min_eq_left hi] at hsf
  change 0≤sumK q ks i∧sumK q ks i≤_ at hsf
  obtain ⟨v,hc⟩:=hp.call (s0+sumK q ks i) kd.m (L++G++[.arr 4 0 [kd.av]]) (by omega) (by omega) (hfit kd (List.mem_of_getElem? hk))
  have hwk:=hp.wk kd.m
  have hG:L++G++[.arr 4 0 [kd.av]]=L++(G++[.arr 4 0 [kd.av]]):=List.append_assoc ..
  rw [show s0+sumK q ks i+q kd.m=s0+sumK q ks (i+1) by omega] at hc
  generalize hG3:L++(G++[.arr 4 0 [kd.av]])=L3 at *
  generalize hA1:(σ (s0+sumK q ks i)).ps=A1 at *
  obtain ⟨ka,km⟩:=kd
  unfold Kid.av Mea.av at *
  simp only at *
  repeat' (first|refine is_ixKn (f:=Kid.av) rfl rfl qk (fun _=>rfl) ?_|refine is_callE rfl rfl hwk hc ?_|refine ru_seq ?_|refine ru_reg ?_|refine is_mv rfl ?_|refine is_fadr rfl rfl ?_|refine is_nil rfl ?_|refine rk_seq ?_|refine is_ldT rfl rfl rfl ?_|refine is_ldl rfl rfl ?_|(refine is_lss rfl rfl (fun _=>?_) (fun _=>?_)<;>try (exfalso;omega))|refine ru_iteT rfl ?_|refine is_addS rfl rfl (by omega) ?_|refine is_boxG rfl rfl rfl ?_|refine is_stT rfl rfl rfl rfl rfl rfl ?_|refine ru_skip ?_|refine ru_block ?_|refine rk_blk ?_|refine rk_inv ?_)
  all_goals try contradiction
  all_goals try (exfalso;omega)
  refine ⟨(i+1,G++[.arr 4 0 [Kid.av ⟨ka,km⟩]]),⟨rfl,?_⟩,by simp only;omega,by simp only;omega⟩
  simp only
  rw [← hG3] at hG
  exact congrArg (St.mk _ false) hG
 ·obtain rfl:i=ks.length:=by omega
  repeat' (first|refine ru_seq ?_|refine ru_reg ?_|refine is_nil rfl ?_|refine rk_seq ?_|(refine is_lss rfl rfl (fun _=>?_) (fun _=>?_)<;>try (exfalso;omega))|refine ru_iteF rfl ?_|refine ru_exit ?_|refine rk_seq_ex ?_|refine rk_blk_eq rfl ?_|refine rk_inv_ex ?_)
  all_goals try (exfalso;omega)
  unfold sumK
  rw [List.take_length]
  exact hQ G
end Go.Q15
namespace Go.Q15
open Go Go.QAbs
set_option maxRecDepth 100000
set_option maxHeartbeats 8000000
theorem is_hideIx {O:Orc} {k:List Fr} {Q:Post} {e:Env} {st:St} {keep:List Nat} {is:List QAbs.PI} {d:Nat} {α:Type} {f:α→AV} {l:List α} {w:Nat} {x i:Opd} {bs:List Opd} {n:Int} {a:α} (hx:opdO e x=some (.lit (l.map f))) (hi:opdO e i=some (.int .i64 n)) (ha:0≤n∧l[n.toNat]?=some a) (hw:(f a).wide=some w)
 (h:Is O is keep k Q ((d,.lptr (f a) 0)::e) st):Is O (⟨some d,none,false,.w (.hide bs) (.ixS w x i)⟩::is) keep k Q e st:=by
 have hlt:=(List.getElem?_eq_some_iff.1 ha.2).1
 have hn:0≤n∧n<((l.map f).length:Nat):=by rw [List.length_map];omega
 have hv:(l.map f)[n.toNat]?=some (f a):=by rw [List.getElem?_map,ha.2];rfl
 exact is_w (st':=st) (by simp only [evalW,PO.reads,if_true,evalPO,opdO_some hx,opdO_some hi,ixSV,indexOf,if_pos hn,hv,if_pos hw,oS,ret1,pureK]) h
theorem is_hideLdl {O:Orc} {k:List Fr} {Q:Post} {e:Env} {st:St} {keep:List Nat} {is:List QAbs.PI} {d:Nat} {n:Nat} {a:Opd} {bs:List Opd} {x:AV} {o:Nat} {v:AV} {agg:Bool} (ha:opdO e a=some (.lptr x o)) (hv:partOf x agg o n=some v) (h:Is O is keep k Q ((d,v)::e) st):Is O (⟨some d,none,false,.w (.hide bs) (.ld agg n a)⟩::is) keep k Q e st :=
 is_w (st':=st) (by simp only [evalW,PO.reads,if_true,evalPO,opdO_some ha,loadP,hv,oS,ret1,pureK]) h
def PathOk (M:Nat) (G:List Blk) (pv:AV) (path:List Nat):Prop:=(path=[]∧pv=.nils)∨∃ j ver,pv=.ref M (j+3) ver 0 path.length∧G[j]?=some (.arr 1 ver (path.map hnAV))
theorem walk_path {A:List (Bool × List Blk)} {b0 b1 box:Blk} {s:List UInt8} {z:Int} {pv v0 v3 v4 v10 v14 v15 v31:AV} {path:List Nat} {o:Nat} {G:List Blk} {k:List Fr} {Q:Post} (hP:PathOk A.length G pv path) (hl:path.length<100)
 (h:∀ G' pv',PathOk A.length G' pv' (path++[o])→G'[G.length]?=some box→Rk (S Tb) k Q .norm [(0,v0),(3,v3),(4,v4),(10,v10),(12,.ptr A.length 2 0 0 0),(14,v14)] ⟨A,false,b0::b1::.arr 3 0 [.agg [.str s,.int .i64 z,pv']]::G'⟩) :
 Ru (S Tb) p_seek_walk_6 k Q [(0,v0),(3,v3),(4,v4),(10,v10),(12,.ptr A.length 2 0 0 0),(13,.int .u64 o),(14,v14),(15,v15),(31,v31)] ⟨A,false,b0::b1::.arr 3 0 [.agg [.str s,.int .i64 z,pv]]::(G++[box])⟩:=by
 rcases hP with ⟨rfl,rfl⟩|⟨j,ver,rfl,hg⟩
 ·repeat' (first|refine ru_reg ?_|refine is_mv rfl ?_|refine is_fadr rfl rfl ?_|refine is_ldc rfl rfl rfl rfl ?_|refine is_bslFO rfl rfl rfl rfl ?_)
  refine is_appNilG (vx:=.lit [.int .u64 o]) (ys:=[.int .u64 o]) (bytes:=8) rfl rfl rfl (by simp) (by decide) rfl ?_
  repeat' (first|refine is_fadr rfl rfl ?_|refine is_nil rfl ?_|refine is_stn rfl rfl rfl rfl (seal_refL _ (Nat.lt_succ_self _)) rfl ?_)
  refine h (G++[box]++[.arr 1 0 [.int .u64 o]]) _ (.inr ⟨(G++[box]).length,0,?_,List.getElem?_concat_length ..⟩) ?_
  ·rfl
  ·rw [List.getElem?_append_left (by simp)];exact List.getElem?_concat_length ..
 ·have hj:=(List.getElem?_eq_some_iff.1 hg).1
  have hg2:(b0::b1::Blk.arr 3 0 [.agg [.str s,.int .i64 z,.ref A.length (j+3) ver 0 path.length]]::(G++[box]))[j+3]?=some (.arr 1 ver (path.map hnAV)):=by
   show (G++[box])[j]?=_
   rw [List.getElem?_append_left hj];exact hg
  repeat' (first|refine ru_reg ?_|refine is_mv rfl ?_|refine is_fadr rfl rfl ?_|refine is_ldc rfl rfl rfl rfl ?_|refine is_bslFO rfl rfl rfl rfl ?_)
  refine is_appG (es:=path.map hnAV) (ys:=[.int .u64 o]) rfl rfl hg2 (by rw [List.length_map]) rfl rfl (by simp;omega) (by decide) ?_
  repeat' (first|refine is_fadr rfl rfl ?_|refine is_nil rfl ?_|refine is_stn rfl rfl rfl rfl (seal_refL _ (Nat.lt_succ_self _)) rfl ?_)
  refine h ((G++[box]).set j (.arr 1 (ver+1) (path.map hnAV++[.int .u64 o]))) (.ref A.length (j+3) (ver+1) 0 (path.length+1)) (.inr ⟨j,ver+1,by simp,?_⟩) ?_
  ·rw [List.getElem?_set_self (by simp;omega),List.map_append];rfl
  ·rw [List.getElem?_set_ne (by omega)];exact List.getElem?_concat_length ..
theorem seal_sir {b lv ix ver q n:Nat} {z:Int} {s:List UInt8} (st:St) (hl:lv<b):sealV deep b st (.agg [.str s,.int .i64 z,.ref lv ix ver q n])=some (.agg [.str s,.int .i64 z,.ref lv ix ver q n],st):=by
 show (mapSt (keepN (sealV 5 b)) _ _).bind aggK=_
 simp only [mapSt,keepN,isNils,Bool.false_eq_true,if_false,sealV,oS,if_pos hl,consK,aggK]
theorem seal_sk {A:List (Bool × List Blk)} {L:List Blk} {ix ver n:Nat} {s:List UInt8} {z z2:Int} {l:List Nat} (hg:L[ix]?=some (.arr 1 ver (l.map hnAV))) (hn:n=l.length) :
 sealV deep A.length ⟨A,false,L⟩ (.tup [.agg [.str s,.int .i64 z,.ref A.length ix ver 0 n],.int .i64 z2])=some (.tup [.agg [.str s,.int .i64 z,.lit (l.map hnAV)],.int .i64 z2],⟨A,false,L.set ix .dead⟩):=by
 subst hn
 have h1:=seal_refO (n:=3) (A:=A) (s:=0) (m:=l.length) hg (by simp) (es':=l.map hnAV) (by
  rw [List.drop_zero,List.take_of_length_le (by simp)]
  exact ints_seal (k:=.u64) (fun n:Nat=>(n:Int)) 2 0 _ l)
 show (mapSt (sealV 5 A.length) _ _).bind tupK=_
 have h2:sealV 5 A.length ⟨A,false,L⟩ (.agg [.str s,.int .i64 z,.ref A.length ix ver 0 l.length])=some (.agg [.str s,.int .i64 z,.lit (l.map hnAV)],⟨A,false,L.set ix .dead⟩):=by
  show (mapSt (keepN (sealV 4 A.length)) _ _).bind aggK=_
  simp only [mapSt,keepN,isNils,Bool.false_eq_true,if_false,oS]
  simp only [sealV,oS] at h1 ⊢
  simp only [h1,oS,consK,aggK]
 simp only [mapSt,h2,oS]
 rfl
theorem end_sk {e:Env} {A:List (Bool × List Blk)} {st:St} {L:List Blk} {x:Ex} {c4 c5 j4 w4 v4 ix ver n:Nat} {s:List UInt8} {z z2:Int} {l:List Nat} (hA:A=st.A++[(st.ro,st.L)]) (hx:x=.norm∨x=.ret) (h4:lookO e c4=some (.ptr A.length j4 v4 0 0)) (hg4:L[j4]?=some (.arr w4 v4 [.agg [.str s,.int .i64 z,.ref A.length ix ver 0 n]]))
 (hg:L[ix]?=some (.arr 1 ver (l.map hnAV))) (hn:n=l.length) (h5:lookO e c5=some (.int .i64 z2)):endK false [.c c4 true 3,.s c5] (x,e,⟨A,false,L⟩)=some (.tup [.agg [.str s,.int .i64 z,.lit (l.map hnAV)],.int .i64 z2],st):=by
 refine end_of (v:=.tup [.agg [.str s,.int .i64 z,.ref A.length ix ver 0 n],.int .i64 z2]) hA hx ?_ (seal_sk hg hn) rfl
 have h1:resV ⟨A,false,L⟩ e (.c c4 true 3)=some (.agg [.str s,.int .i64 z,.ref A.length ix ver 0 n]):=by
  simp only [resV,lookO_some h4,loadP,St.get_cur,hg4,vis,loadB,if_true,List.getElem?_cons_zero,oS]
  rfl
 simp only [result,resL,h1,oS]
 simp only [resV,lookO_some h5,oS,Option.map_some,tupOf]
end Go.Q15
namespace Go.QAbs
section
variable {O:Orc} {k:List Fr} {Q:Post} {e:Env} {A:List (Bool × List Blk)} {L:List Blk} {keep:List Nat} {is:List PI} {d:Nat} {st:St}
theorem is_plain {a x b:Opd} {n lv ix v1 i1 o1 v2 i2 o2:Nat} {vx:AV} (ha:opdO e a=some (.ptr lv ix v1 i1 o1)) (hb:opdO e b=some (.ptr lv ix v2 i2 o2)) (hx:opdO e x=some vx) (hi:imm 6 vx=true)
 (h:Is O (⟨none,none,false,.st n a x⟩::is) keep k Q e st):Is O (⟨none,none,false,.w (.plain b) (.st n a x)⟩::is) keep k Q e st:=by
 refine is_same ?_ h
 have hs:sameBlk (.ptr lv ix v1 i1 o1) (.ptr lv ix v2 i2 o2)=true:=by simp [sameBlk]
 simp only [evalPI,evalW,plainW,opdO_some ha,opdO_some hb,opdO_some hx,hs,hi,and_self,if_true]
end
end Go.QAbs
namespace Go.Q15
open Go Go.QAbs
set_option maxRecDepth 100000
set_option maxHeartbeats 8000000
structure NextOk (f:FuncId) (ch:List Kid→Int→Nat × Int) (D:Mea→Int→Prop):Prop where
 call:∀ n ks,NdOk ⟨n+1,[],some ks⟩→∀ a,D (sumM (ks.map Kid.m)) a→∀ st,S Tb f [Nd.av ⟨n+1,[],some ks⟩,.int .i64 a] st=some (.tup [.int .i64 (ch ks a).1,.int .i64 (ch ks a).2,.int .i64 0],st)
 ok:∀ ks a,(∀ k∈ks,k.m.Fit 65536)→D (sumM (ks.map Kid.m)) a→(ch ks a).1<ks.length∧∀ k,ks[(ch ks a).1]?=some k→D k.m (ch ks a).2
theorem child_ok:NextOk F_node_Child (skipK Mea.b) (fun m a=>0≤a∧a<m.b∧m.b≤1000000) where
 call n ks hx a ha st:=Child_c n ks hx a ha.1 ha.2.1 (by omega) st
 ok ks a hf ha:=by
  obtain ⟨h1,h2,h3,h4⟩:=skipK_ok comp_b ks a hf ha.1 ha.2.1
  exact ⟨h1,fun k hk=>⟨h3,h4 k hk,by have:=(hf k (List.mem_of_getElem? hk)).2;omega⟩⟩
def seekF (ch:List Kid→Int→Nat × Int) (q:Mea→Int) (N:Nodes):Nat→Nat→Int→(List UInt8 × Int) × List Nat × Int
 | 0,o,a=>(((ndAt N o).text,a),[o],0)
 | n+1,o,a =>
  let c:=ch (ndAt N o).ks a
  let r:=seekF ch q N n (((ndAt N o).ks[c.1]?.map Kid.at_).getD 0) c.2
  (r.1,o::r.2.1,sumK q (ndAt N o).ks c.1+r.2.2)
structure WkS where
 n:Nat
 o:Nat
 a:Int
 s:Int
 path:List Nat
 pv:AV
 G:List Blk
structure WkInv (N:Nodes) (D:Mea→Int→Prop) (M:Nat) (p:WkS) (ch:List Kid→Int→Nat × Int) (q:Mea→Int) (s0:Int) (R:(List UInt8 × Int) × List Nat × Int):Prop where
 nd:∃ x,lk N p.o=some x∧NdOk x∧x.h=p.n∧D x.mea p.a
 path:PathOk M p.G p.pv p.path
 len:p.path.length+p.n<100
 sb:0≤p.s∧p.s≤1000+300000*p.path.length
 res:R=((seekF ch q N p.n p.o p.a).1,p.path++(seekF ch q N p.n p.o p.a).2.1,p.s-s0+(seekF ch q N p.n p.o p.a).2.2)
theorem skWalk_c {σ:Int→St} {q:Mea→Int} {g f:FuncId} {caps:List AV} {M:Nat} (hp:Pass σ q g caps M) {ch:List Kid→Int→Nat × Int} {D:Mea→Int→Prop} (hf:NextOk f ch D) {N:Nodes} (hN:GoodN N) {la b:Nat} (hR:∀ s,Rd (σ s) la (b+5) N) {r:Ro} (hr:RtOk N r) (h0:r.at_≠0) (a:Int) (ha:D r.m a) (s0:Int) (hs0:0≤s0∧s0≤1000) :
 S Tb F_seek_walk [.ptr la (b+5) 0 0 0,r.av,.int .i64 a,.func (.func f) [] [],.func (.func g) [] caps] (σ s0)=some (.tup [.agg [.str (seekF ch q N r.h r.at_ a).1.1,.int .i64 (seekF ch q N r.h r.at_ a).1.2,.lit ((seekF ch q N r.h r.at_ a).2.1.map hnAV)],.int .i64 0],σ (s0+(seekF ch q N r.h r.at_ a).2.2)):=by
 refine s_ofW rfl (fun A hA=>?_)
 obtain ⟨x0,x1,x2,x3,x4⟩:∃ x,lk N r.at_=some x∧NdOk x∧x.h=r.h∧x.mea=r.m:=by
  rcases hr with rfl|w
  ·exact absurd rfl h0
  ·exact w.2
 have h13:=hr.h13 hN
 have hM:=hp.len s0
 obtain ⟨R,hRes⟩:∃ R,R=seekF ch q N r.h r.at_ a:=⟨_,rfl⟩
 rw [← hRes]
 have hA':A=(σ s0).ps:=hA
 have hAM:A.length=M:=by rw [hA'];exact hM
 unfold Ro.av
 repeat' (first|refine is_boxG rfl rfl rfl ?_|refine ru_seq ?_|refine ru_reg ?_|refine is_mv rfl ?_|refine is_fadr rfl rfl ?_|refine is_ldc rfl rfl rfl rfl ?_|refine is_nil rfl ?_|refine rk_seq ?_|refine is_buildO rfl rfl rfl ?_|refine is_stT rfl rfl rfl rfl rfl rfl ?_|refine ru_block ?_)
 rw [hAM,hA']
 refine ru_loopP (α:=WkS) (fun p=>[(0,.ptr la (b+5) 0 0 0),(3,.func (.func f) [] []),(4,.func (.func g) [] caps),(10,.ptr M 1 0 0 0),(12,.ptr M 2 0 0 0),(13,.int .u64 p.o)])
  (fun p=>⟨(σ p.s).ps,false,.arr 5 0 [r.av]::.arr 3 0 [.agg [.str [],.int .i64 0,.nils]]::.arr 3 0 [.agg [.str [],.int .i64 p.a,p.pv]]::p.G⟩)
  (fun p=>WkInv N D M p ch q s0 R) (fun p=>p.n) ⟨r.h,r.at_,a,s0,[],.nils,[]⟩ rfl rfl ⟨⟨x0,x1,x2,x3,by rw [x4];exact ha⟩,.inl ⟨rfl,rfl⟩,by simp only [List.length_nil];omega,by simp only [List.length_nil];omega,by rw [hRes];simp⟩ ?_
 rintro ⟨n,o,a,s,path,pv,G⟩ hI
 obtain ⟨⟨x,y1,y2,y3,y4⟩,hPa,hln,hsb,hres⟩:=hI
 simp only at y1 y3 y4 hPa hln hsb hres ⊢
 have hG:=fun L=>Get_c ((hR s).push rfl (ro:=false) (L:=L)) y1 y2.len
 have hcp:x.copy.av=.agg [.int .i64 x.h,.str x.text,.lit (x.ks.map Kid.av)]:=rfl
 rw [hcp,y3] at hG
 have hlA:=hp.len s
 obtain ⟨A1,hA1⟩:∃ A1,A1=(σ s).ps:=⟨_,rfl⟩
 have e1:M=A1.length:=by rw [hA1];exact hlA.symm
 have hpl:=fun s'=>hp.len s'
 simp only [show (σ s).A++[((σ s).ro,(σ s).L)]=(σ s).ps from rfl,← hA1] at hG
 rw [← hA1]
 clear hlA
 subst e1
 have hpath:=fun (v0 v3 v4 v10 v14 v15 v31:AV) (box b0 b1:Blk) (k:List Fr) (Q:Post)=>walk_path (A:=A1) (b0:=b0) (b1:=b1) (box:=box) (s:=[]) (z:=a) (v0:=v0) (v3:=v3) (v4:=v4) (v10:=v10) (v14:=v14) (v15:=v15) (v31:=v31) (o:=o) (k:=k) (Q:=Q) hPa (by omega)
 have hnd:=ndAt_of y1
 cases n with
 | zero =>
  repeat' (first|refine hpath _ _ _ _ _ _ _ _ _ _ _ _ (fun G' pv' hP' hb=>?_)|refine ru_seq ?_|refine ru_reg ?_|refine is_mv rfl ?_|refine is_fadr rfl rfl ?_|refine is_ext rfl rfl ?_|refine is_nil rfl ?_|refine rk_seq ?_|(refine is_neq rfl rfl (fun _=>?_) (fun _=>?_)<;>try (exfalso;omega))|refine ru_iteF rfl ?_|refine is_boxG rfl rfl rfl ?_|refine is_stT rfl rfl rfl rfl rfl rfl ?_|refine is_callE rfl rfl rfl (hG _) ?_|refine ru_skip ?_|refine ru_block ?_)
  all_goals try contradiction
  rcases hP' with ⟨w,_⟩|⟨j,ver,rfl,hg⟩
  ·exact absurd w (by simp)
  have hg3:∀ b0 b1 b2:Blk,(b0::b1::b2::G')[j+3]?=some (.arr 1 ver ((path++[o]).map hnAV)):=fun _ _ _=>hg
  repeat' (first|refine is_ldc rfl hb rfl rfl ?_|refine is_stn rfl rfl rfl rfl (seal_sir _ (Nat.lt_succ_self _)) rfl ?_|refine ru_seq ?_|refine ru_reg ?_|refine is_mv rfl ?_|refine is_fadr rfl rfl ?_|refine is_ldc rfl rfl rfl rfl ?_|refine is_nil rfl ?_|refine rk_seq ?_|(refine is_eql rfl rfl (fun _=>?_) (fun _=>?_)<;>try (exfalso;omega))|refine ru_iteT rfl ?_|refine is_stn rfl rfl rfl rfl rfl rfl ?_|refine ru_ret ?_|refine rk_nil ?_|refine rk_seq_ret ?_|refine rk_blk_ret ?_|refine rk_inv_ret ?_)
  all_goals try contradiction
  refine (end_sk (st:=σ s) hA1 (.inr rfl) rfl rfl (hg3 _ _ _) rfl rfl).trans ?_
  rw [hres]
  simp only [seekF,hnd,Int.add_zero]
  rw [show s0+(s-s0)=s by omega]
 | succ n =>
  obtain ⟨ks,hi⟩:∃ ks,InnerOk x n ks:=by
   rcases y2 with w|⟨m,ks,w⟩
   ·have:=w.h;omega
   ·have e:=w.eq
    have:m=n:=by rw [e] at y3;simpa using y3
    exact ⟨ks,this▸w⟩
  have e:=hi.eq
  have hkids:=(hN o x y1).2
  have hfit:∀ k∈ks,k.m.Fit 65536:=fun k hk=>(hi.kid k hk).fit
  subst e
  have hks:Nd.ks ⟨n+1,[],some ks⟩=ks:=rfl
  rw [hks] at hG
  have hD:D (sumM (ks.map Kid.m)) a:=y4
  have hCl:=fun st=>hf.call n ks y2 a hD st
  obtain ⟨c1,c2⟩:=hf.ok ks a hfit hD
  obtain ⟨k,hk⟩:∃ k,ks[(ch ks a).1]?=some k:=⟨_,List.getElem?_eq_getElem c1⟩
  have c3:=c2 k hk
  have hseek:seekF ch q N (n+1) o a=((seekF ch q N n k.at_ (ch ks a).2).1,o::(seekF ch q N n k.at_ (ch ks a).2).2.1,sumK q ks (ch ks a).1+(seekF ch q N n k.at_ (ch ks a).2).2.2):=by
   rw [seekF,hnd]
   simp only [hks,hk,Option.map_some,Option.getD_some]
  have hi2:=hi.hi
  have qk:0≤(((ch ks a).1:Nat):Int)∧ks[(((ch ks a).1:Nat):Int).toNat]?=some k:=⟨by omega,by rw [show (((ch ks a).1:Nat):Int).toNat=(ch ks a).1 by omega];exact hk⟩
  have hsf:=hp.comp.fit _ _ (sumM_fit (l:=(ks.take (ch ks a).1).map Kid.m) (fun m hm=>by obtain ⟨z,hz,rfl⟩:=List.mem_map.1 hm;exact hfit z (List.mem_of_mem_take hz)))
  rw [List.length_map,List.length_take,Nat.min_eq_left (Nat.le_of_lt c1)] at hsf
  change 0≤sumK q ks (ch ks a).1∧sumK q ks (ch ks a).1≤_ at hsf
  have hsumK:q (sumM ((ks.take (ch ks a).1).map Kid.m))=sumK q ks (ch ks a).1:=rfl
  generalize (ch ks a).1=ci at *
  generalize (ch ks a).2=cr at *
  unfold Nd.av at hCl
  simp only [slV] at hCl
  have hlt:(ks.take ci).length=ci:=by simp;omega
  repeat' (first|refine hpath _ _ _ _ _ _ _ _ _ _ _ _ (fun G' pv' hP' hb=>?_)|refine ru_seq ?_|refine ru_reg ?_|refine is_mv rfl ?_|refine is_fadr rfl rfl ?_|refine is_ext rfl rfl ?_|refine is_nil rfl ?_|refine rk_seq ?_|(refine is_neq rfl rfl (fun _=>?_) (fun _=>?_)<;>try (exfalso;omega))|refine ru_iteF rfl ?_|refine is_boxG rfl rfl rfl ?_|refine is_stT rfl rfl rfl rfl rfl rfl ?_|refine is_callE rfl rfl rfl (hG _) ?_|refine ru_skip ?_|refine ru_block ?_)
  all_goals try contradiction
  repeat' (first|refine is_ldc rfl hb rfl rfl ?_|refine is_kslc rfl rfl (Nat.le_of_lt c1) ?_|refine len1L rfl ?_|refine ru_seq ?_|refine ru_reg ?_|refine is_mv rfl ?_|refine is_fadr rfl rfl ?_|refine is_ldc rfl rfl rfl rfl ?_|refine is_ext rfl rfl ?_|refine is_nil rfl ?_|refine rk_seq ?_|(refine is_eql rfl rfl (fun _=>?_) (fun _=>?_)<;>try (exfalso;omega))|(refine is_neq rfl rfl (fun _=>?_) (fun _=>?_)<;>try (exfalso;omega))|refine ru_iteF rfl ?_|refine is_callE rfl rfl rfl (hCl _) ?_|refine ru_skip ?_|refine ru_block ?_)
  all_goals try contradiction
  all_goals try (exfalso;omega)
  refine pass_loop hp s hA1 (fun G2=>?_) (by omega) (by omega) (fun z hz=>hfit z (List.mem_of_mem_take hz))
  rw [hsumK]
  obtain ⟨A2,hA2⟩:∃ A2,A2=(σ (s+sumK q ks ci)).ps:=⟨_,rfl⟩
  have e2:A1.length=A2.length:=by rw [hA2];exact (hpl _).symm
  rw [← hA2,e2]
  rw [e2] at hP'
  have hb2:=hb.symm▸List.getElem?_append_left (l₂:=G2) (List.getElem?_eq_some_iff.1 hb).1
  have hb3:∀ b0 b1 b2:Blk,(b0::b1::b2::G'++G2)[G.length+1+1+1]?=_:=fun _ _ _=>hb2
  rcases hP' with ⟨w,_⟩|⟨j,ver,rfl,hg⟩
  ·exact absurd w (by simp)
  repeat' (first|refine is_hideLd rfl rfl rfl (hb3 _ _ _) rfl rfl ?_|refine is_hideIx (f:=Kid.av) rfl rfl qk rfl ?_|refine is_hideLdl rfl rfl ?_|refine is_plain rfl rfl rfl rfl ?_|refine is_stn rfl rfl rfl rfl rfl rfl ?_|refine ru_reg ?_|refine is_mv rfl ?_|refine is_fadr rfl rfl ?_|refine is_nil rfl ?_|refine rk_seq ?_|refine rk_blk ?_|refine rk_inv ?_)
  all_goals try contradiction
  obtain ⟨_,y,z1,z2,z3⟩:=hkids k (List.mem_of_getElem? hk)
  rw [hA2]
  refine ⟨⟨n,k.at_,cr,s+sumK q ks ci,path++[o],.ref (σ (s+sumK q ks ci)).ps.length (j+3) ver 0 (path++[o]).length,G'++G2⟩,⟨rfl,rfl⟩,⟨⟨y,z1,(hN _ y z1).1,by simp only at z2 ⊢;omega,by rw [z3];exact c3⟩,.inr ⟨j,ver,rfl,?_⟩,by simp only [lL,List.length_singleton];omega,by simp only [lL,List.length_singleton];omega,?_⟩,Nat.lt_succ_self _⟩
  ·show (G'++G2)[j]?=_
   rw [List.getElem?_append_left (List.getElem?_eq_some_iff.1 hg).1];exact hg
  ·rw [hres,hseek]
   simp only [List.append_assoc,List.singleton_append]
   congr 2
   omega
end Go.Q15
namespace Go.Q15
open Go Go.QAbs
set_option maxRecDepth 100000
set_option maxHeartbeats 8000000
theorem kids_mea {N:Nodes} {n:Nat}:∀ {ks:List Kid},(∀ k∈ks,meaT (textH N n k.at_)=k.m)→meaT (ks.flatMap fun k=>textH N n k.at_)=sumM (ks.map Kid.m):=by
 intro ks
 induction ks with
 | nil=>intro _;rfl
 | cons k l ih =>
  intro h
  rw [List.flatMap_cons,meaT_append,h k (by simp),ih (fun z hz=>h z (List.mem_cons_of_mem _ hz)),List.map_cons,sumM]
theorem NdOk.ksFit {x:Nd} (h:NdOk x):∀ k∈x.ks,k.m.Fit 65536:=by
 rcases h with q|⟨n,ks,q⟩
 ·rw [q.ks];intro k hk;simp at hk
 ·have e:=q.eq;subst e;exact fun k hk=>(q.kid k hk).fit
theorem seek_text {p q:Mea→Int} (hp:Comp p) (hq:Comp q) {N:Nodes} (hN:GoodN N):∀ (n o:Nat) (x:Nd) (a:Int),lk N o=some x→x.h=n→0≤a→a<p x.mea →
 ∃ pre leaf post,textH N n o=pre++leaf++post∧(seekF (skipK p) q N n o a).1=(leaf,a-p (meaT pre))∧0≤a-p (meaT pre)∧a-p (meaT pre)<p (meaT leaf)∧(seekF (skipK p) q N n o a).2.2=q (meaT pre):=by
 intro n
 induction n with
 | zero =>
  intro o x a hx hh h0 h1
  have hm:x.mea=meaT x.text:=by unfold Nd.mea;rw [if_pos hh]
  have e:p (meaT [])=0:=by rw [meaT_nil];exact hp.zero
  have e2:q (meaT [])=0:=by rw [meaT_nil];exact hq.zero
  refine ⟨[],x.text,[],?_,?_,by rw [e];omega,by rw [e,← hm];omega,by rw [e2];rfl⟩
  ·rw [textH,hx];simp
  ·rw [seekF,ndAt_of hx,e];simp
 | succ n ih =>
  intro o x a hx hh h0 h1
  obtain ⟨hok,hkids⟩:=hN o x hx
  have hm:x.mea=sumM (x.ks.map Kid.m):=by unfold Nd.mea;rw [if_neg (by omega)]
  rw [hm] at h1
  obtain ⟨c1,c2,c3,c4⟩:=skipK_ok hp x.ks a hok.ksFit h0 h1
  obtain ⟨k,hk⟩:∃ k,x.ks[(skipK p x.ks a).1]?=some k:=⟨_,List.getElem?_eq_getElem c1⟩
  have c5:=c4 k hk
  obtain ⟨_,y,y1,y2,y3⟩:=hkids k (List.mem_of_getElem? hk)
  have hmk:∀ k∈x.ks,meaT (textH N n k.at_)=k.m:=fun k hk=>by
   obtain ⟨_,y,y1,y2,y3⟩:=hkids k hk
   rw [textH_mea hN n k.at_ y y1 (by omega),y3]
  obtain ⟨pre,leaf,post,t1,t2,t3,t4,t5⟩:=ih k.at_ y (skipK p x.ks a).2 y1 (by omega) c3 (by rw [y3];exact c5)
  have hseek:seekF (skipK p) q N (n+1) o a=((seekF (skipK p) q N n k.at_ (skipK p x.ks a).2).1,o::(seekF (skipK p) q N n k.at_ (skipK p x.ks a).2).2.1,sumK q x.ks (skipK p x.ks a).1+(seekF (skipK p) q N n k.at_ (skipK p x.ks a).2).2.2):=by
   rw [seekF,ndAt_of hx]
   simp only [hk,Option.map_some,Option.getD_some]
  rw [hseek,c2] at *
  generalize hci:(skipK p x.ks a).1=ci at *
  have hsplit:x.ks=x.ks.take ci++k::x.ks.drop (ci+1):=by
   have:=List.take_append_drop ci x.ks
   rw [drop_cons hk] at this
   exact this.symm
  have hpm:meaT ((x.ks.take ci).flatMap fun k=>textH N n k.at_)=sumM ((x.ks.take ci).map Kid.m):=kids_mea (fun z hz=>hmk z (List.mem_of_mem_take hz))
  have e3:p (meaT ((x.ks.take ci).flatMap (fun k=>textH N n k.at_)++pre))=sumK p x.ks ci+p (meaT pre):=by
   rw [meaT_append,hp.add,hpm];rfl
  have e4:q (meaT ((x.ks.take ci).flatMap (fun k=>textH N n k.at_)++pre))=sumK q x.ks ci+q (meaT pre):=by
   rw [meaT_append,hq.add,hpm];rfl
  refine ⟨(x.ks.take ci).flatMap (fun k=>textH N n k.at_)++pre,leaf,post++(x.ks.drop (ci+1)).flatMap (fun k=>textH N n k.at_),?_,?_,?_,?_,?_⟩
  ·rw [textH,hx]
   simp only [Option.map_some,Option.getD_some]
   rw [hsplit,List.flatMap_append,List.flatMap_cons,t1]
   have e:((x.ks.take ci++k::x.ks.drop (ci+1)).take ci)=x.ks.take ci:=by rw [← hsplit]
   have e':((x.ks.take ci++k::x.ks.drop (ci+1)).drop (ci+1))=x.ks.drop (ci+1):=by rw [← hsplit]
   rw [e,e']
   simp only [List.append_assoc]
  ·simp only
   rw [t2,e3]
   congr 1
   omega
  ·rw [e3];omega
  ·rw [e3];omega
  ·simp only
   rw [t5,e4]
end Go.Q15
namespace Go.Q15
open Go Go.QAbs
set_option maxRecDepth 100000
set_option maxHeartbeats 8000000
theorem leafC1_c (m:Mea) (st:St):S Tb F_seek_LeafC1 [m.av] st=some (.tup [],st):=by
 refine s_of rfl (fun A hA=>?_)
 unfold Mea.av
 repeat' (first|refine ru_reg ?_|refine is_nil rfl ?_|refine is_box rfl rfl rfl ?_|refine rk_nil ?_)
 refine end_st hA (by first|exact .inl rfl|exact .inr rfl) rfl rfl rfl rfl ?_
 rfl
theorem leaf_pass (st:St):Pass (fun _=>st) Mea.b F_seek_LeafC1 [] st.ps.length :=
 ⟨comp_b,fun _=>rfl,fun s m L _ _ _=>⟨_,leafC1_c m _⟩,fun m=>rfl⟩
abbrev seekB (N:Nodes) (r:Ro) (a:Int):(List UInt8 × Int) × List Nat × Int:=seekF (skipK Mea.b) Mea.b N r.h r.at_ a
theorem RtOk.nz {N:Nodes} {r:Ro} (h:RtOk N r) (hb:0<r.m.b):r.at_≠0∧∃ x,lk N r.at_=some x∧NdOk x∧x.h=r.h∧x.mea=r.m:=by
 rcases h with rfl|w
 ·simp [Ro.zero,Mea.zero] at hb
 ·exact w
theorem Leaf_c {st:St} {la b:Nat} {N:Nodes} (hN:GoodN N) (hR:Rd st la (b+5) N) {r:Ro} (hr:RtOk N r) (a:Int) (h0:0≤a) (h1:a<r.m.b) (hb:r.m.b≤1000000) :
 S Tb F_seek_Leaf [.ptr la (b+5) 0 0 0,r.av,.int .i64 a] st=some (.tup [.str (seekB N r a).1.1,.int .i64 (seekB N r a).1.2,.lit ((seekB N r a).2.1.map hnAV),.int .i64 0],st):=by
 refine s_of rfl (fun A hA=>?_)
 have hC:=fun L=>sCheck_c (hR.push hA (ro:=false) (L:=L)) hr
 have hW:=fun L=>skWalk_c (leaf_pass ⟨A,false,L⟩) child_ok hN (fun _=>hR.push hA (ro:=false) (L:=L)) hr (hr.nz (by omega)).1 a ⟨h0,h1,hb⟩ 0 ⟨by decide,by decide⟩
 unfold seekB
 generalize seekF (skipK Mea.b) Mea.b N r.h r.at_ a=R at *
 unfold Ro.av at *
 repeat' (first|refine ru_seq ?_|refine ru_reg ?_|refine is_mv rfl ?_|refine is_fadr rfl rfl ?_|refine is_ldc rfl rfl rfl rfl ?_|refine is_gT rfl ?_|refine is_pick rfl rfl rfl rfl ?_|refine is_ext rfl rfl ?_|refine is_nil rfl ?_|refine rk_seq ?_|(refine is_lss rfl rfl (fun _=>?_) (fun _=>?_)<;>try (exfalso;omega))|(refine is_geq rfl rfl (fun _=>?_) (fun _=>?_)<;>try (exfalso;omega))|(refine is_neq rfl rfl (fun _=>?_) (fun _=>?_)<;>try (exfalso;omega))|refine ru_iteF rfl ?_|refine is_box rfl rfl rfl ?_|refine is_stb rfl rfl rfl rfl rfl rfl ?_|refine is_callE rfl rfl rfl (hC _) ?_|refine is_callE rfl rfl rfl (hW _) ?_|refine ru_skip ?_|refine ru_ret ?_|refine rk_nil ?_)
 all_goals try contradiction
 all_goals try (exfalso;omega)
 refine end_st hA (by first|exact .inl rfl|exact .inr rfl) rfl rfl rfl rfl ?_
 rfl
theorem Byte_c {st:St} {la b:Nat} {N:Nodes} (hN:GoodN N) (hR:Rd st la (b+5) N) {r:Ro} (hr:RtOk N r) (a:Int) (h0:0≤a) (h1:a<r.m.b) (hb:r.m.b≤1000000) {c:UInt8} (hc:0≤(seekB N r a).1.2∧(seekB N r a).1.2<(seekB N r a).1.1.length∧(seekB N r a).1.1[(seekB N r a).1.2.toNat]?=some c) :
 S Tb F_seek_Byte [.ptr la (b+5) 0 0 0,r.av,.int .i64 a] st=some (.tup [.int .u8 c.toNat,.int .i64 0],st):=by
 refine s_of rfl (fun A hA=>?_)
 have hL:=fun L=>Leaf_c hN (hR.push hA (ro:=false) (L:=L)) hr a h0 h1 hb
 generalize seekB N r a=R at *
 obtain ⟨c1,c2,c3⟩:=hc
 unfold Ro.av at *
 repeat' (first|refine ru_seq ?_|refine ru_reg ?_|refine is_mv rfl ?_|refine is_ldc rfl rfl rfl rfl ?_|refine is_gT rfl ?_|refine is_pick rfl rfl rfl rfl ?_|refine is_ext rfl rfl ?_|refine is_nil rfl ?_|refine rk_seq ?_|refine is_lenS rfl ?_|(refine is_lss rfl rfl (fun _=>?_) (fun _=>?_)<;>try (exfalso;omega))|(refine is_geq rfl rfl (fun _=>?_) (fun _=>?_)<;>try (exfalso;omega))|(refine is_neq rfl rfl (fun _=>?_) (fun _=>?_)<;>try (exfalso;omega))|refine ru_iteF rfl ?_|refine is_box rfl rfl rfl ?_|refine is_callE rfl rfl rfl (hL _) ?_|refine is_ixStr rfl rfl ⟨c1,c2⟩ c3 ?_|refine ru_skip ?_|refine ru_ret ?_|refine rk_nil ?_)
 all_goals try contradiction
 all_goals try (exfalso;omega)
 refine end_st hA (by first|exact .inl rfl|exact .inr rfl) rfl rfl rfl rfl ?_
 rfl
theorem seekB_text {N:Nodes} (hN:GoodN N) {r:Ro} {s:List UInt8} (h:Rt N r s) {a:Int} (h0:0≤a) (h1:a<s.length) :
 ∃ pre leaf post,s=pre++leaf++post∧(seekB N r a).1=(leaf,a-pre.length)∧(pre.length:Int)≤a∧a-pre.length<leaf.length:=by
 have hb:=(h.b hN).2
 obtain ⟨hz,x,x1,x2,x3,x4⟩:=h.rt.nz (by omega)
 have hs:textR N r=s:=h.tx
 unfold textR at hs
 rw [if_neg hz] at hs
 obtain ⟨pre,leaf,post,t1,t2,t3,t4,t5⟩:=seek_text comp_b comp_b hN r.h r.at_ x a x1 x3 h0 (by rw [x4];omega)
 have e:∀ l:List UInt8,(meaT l).b=l.length:=fun l=>rfl
 rw [e] at t2 t3 t4
 rw [e] at t4
 exact ⟨pre,leaf,post,by rw [← hs,t1],t2,by omega,t4⟩
end Go.Q15
namespace Go.Q15
open Go Go.QAbs
set_option maxRecDepth 100000
set_option maxHeartbeats 8000000
theorem count_le_take {p:UInt8→Bool} {s:List UInt8} {i j:Nat} (h:i≤j):(s.take i).countP p≤(s.take j).countP p:=by
 have:s.take i=(s.take j).take i:=by rw [List.take_take,Nat.min_eq_left h]
 rw [this]
 exact List.Sublist.countP_le (List.take_sublist ..)
theorem count_take_succ {p:UInt8→Bool} {s:List UInt8} {i:Nat} {c:UInt8} (h:s[i]?=some c):(s.take (i+1)).countP p=(s.take i).countP p+if p c=true then 1 else 0:=by
 rw [take_succ_get h,List.countP_append,List.countP_singleton]
structure NthB (p:UInt8→Bool) (s:List UInt8) (n:Nat) (i:Nat) (c:UInt8):Prop where
 get:s[i]?=some c
 is:p c=true
 cnt:(s.take i).countP p=n
theorem NthB.inner {p:UInt8→Bool} {pre leaf post:List UInt8} {n i:Nat} {c:UInt8} (h:NthB p (pre++leaf++post) n i c) (h1:pre.countP p≤n) (h2:n<(pre++leaf).countP p) :
 ∃ i',i=pre.length+i'∧NthB p leaf (n-pre.countP p) i' c:=by
 obtain ⟨g,g2,g3⟩:=h
 have hs:=count_take_succ (p:=p) g
 rw [if_pos g2,g3] at hs
 have a1:pre.length≤i:=by
  rcases Nat.lt_or_ge i pre.length with q|q
  ·have:=count_le_take (p:=p) (s:=pre++leaf++post) (i:=i+1) (j:=pre.length) (by omega)
   rw [hs,List.append_assoc,List.take_left] at this
   omega
  ·exact q
 have a2:i<pre.length+leaf.length:=by
  rcases Nat.lt_or_ge i (pre.length+leaf.length) with q|q
  ·exact q
  ·have:=count_le_take (p:=p) (s:=pre++leaf++post) (i:=(pre++leaf).length) (j:=i) (by rw [lL];omega)
   rw [g3,List.take_left] at this
   omega
 obtain ⟨i',rfl⟩:∃ i',i=pre.length+i':=⟨i-pre.length,by omega⟩
 have e:(pre++leaf++post).take (pre.length+i')=pre++leaf.take i':=by
  rw [List.append_assoc,List.take_length_add_append,List.take_append_of_le_length (by omega)]
 refine ⟨i',rfl,?_,g2,?_⟩
 ·rw [List.append_assoc,List.getElem?_append_right (by omega),List.getElem?_append_left (by omega)] at g
  rw [show pre.length+i'-pre.length=i' by omega] at g
  exact g
 ·rw [e,List.countP_append] at g3;omega
theorem findK_c {f:FuncId} {p:UInt8→Bool} (hf:Tells f p) {s:List UInt8} {n i:Nat} {c:UInt8} (h:NthB p s n i c) (hs:s.length<4294967296) (st:St) :
 S Tb F_measure_find [.str s,.func (.func f) [] [],.int .i64 n] st=some (.tup [.int .i64 i,.bool true],st):=by
 refine s_of rfl (fun A hA=>?_)
 obtain ⟨g,g2,g3⟩:=h
 have hi:=(List.getElem?_eq_some_iff.1 g).1
 have hn:n≤s.length:=by rw [← g3];have:=List.countP_le_length (p:=p) (l:=s.take i);rw [List.length_take] at this;omega
 repeat' (first|refine ru_seq ?_|refine ru_reg ?_|refine is_mv rfl ?_|refine is_nil rfl ?_|refine rk_seq ?_|refine is_lenS rfl ?_|refine ru_block ?_)
 refine ru_loopP (α:=Nat) (fun j=>[(0,.str s),(1,.func (.func f) [] []),(2,.int .i64 ((n:Int)-(s.take j).countP p)),(10,.int .i64 s.length),(11,.int .i64 j)]) (fun j=>⟨A,false,[]⟩) (fun j=>j≤i) (fun j=>s.length-j) 0 (by simp) rfl (Nat.zero_le _) ?_
 intro j hj
 replace hj:j≤i:=hj
 obtain ⟨d,hd⟩:∃ d,s[j]?=some d:=⟨_,List.getElem?_eq_getElem (by omega)⟩
 have hb:=fun st=>hf d st
 have hb2:s[((j:Nat):Int).toNat]?=some d:=by rw [show ((j:Nat):Int).toNat=j by omega];exact hd
 have hc:=count_take_succ (p:=p) hd
 have hle:=count_le_take (p:=p) (s:=s) hj
 rcases Nat.lt_or_ge j i with hlt|hge
 ·have hle2:=count_le_take (p:=p) (s:=s) (i:=j+1) (j:=i) (by omega)
  by_cases hp:p d=true
  ·rw [if_pos hp] at hc
   rw [hp] at hb
   repeat' (first|refine ru_seq ?_|refine ru_reg ?_|refine is_mv rfl ?_|refine is_nil rfl ?_|refine rk_seq ?_|(refine is_lss rfl rfl (fun _=>?_) (fun _=>?_)<;>try (exfalso;omega))|(refine is_eql rfl rfl (fun _=>?_) (fun _=>?_)<;>try (exfalso;omega))|refine ru_iteT rfl ?_|refine ru_iteF rfl ?_|refine is_not rfl rfl ?_|refine is_addS rfl rfl (by omega) ?_|refine is_subS rfl rfl (by omega) ?_|refine is_callE rfl rfl rfl (hb _) ?_|refine is_ixStr rfl rfl (by omega) hb2 ?_|refine ru_skip ?_|refine ru_block ?_|refine rk_blk ?_|refine rk_inv ?_)
   all_goals try contradiction
   all_goals try (exfalso;omega)
   refine ⟨j+1,⟨?_,rfl⟩,by omega,by omega⟩
   rw [hc,show (n:Int)-((List.countP p (s.take j)+1:Nat):Int)=(n:Int)-(List.countP p (s.take j):Nat)-1 by omega]
   rfl
  ·rw [if_neg hp] at hc
   have hp2:p d=false:=by simpa using hp
   rw [hp2] at hb
   repeat' (first|refine ru_seq ?_|refine ru_reg ?_|refine is_mv rfl ?_|refine is_nil rfl ?_|refine rk_seq ?_|(refine is_lss rfl rfl (fun _=>?_) (fun _=>?_)<;>try (exfalso;omega))|refine ru_iteT rfl ?_|refine is_not rfl rfl ?_|refine is_addS rfl rfl (by omega) ?_|refine is_callE rfl rfl rfl (hb _) ?_|refine is_ixStr rfl rfl (by omega) hb2 ?_|refine ru_skip ?_|refine ru_exit ?_|refine ru_block ?_|refine rk_seq_ex ?_|refine rk_blk_eq rfl ?_|refine rk_inv ?_)
   all_goals try contradiction
   all_goals try (exfalso;omega)
   refine ⟨j+1,⟨?_,rfl⟩,by omega,by omega⟩
   rw [hc];rfl
 ·obtain rfl:j=i:=by omega
  rw [hd] at g
  obtain rfl:=Option.some.inj g
  rw [g2] at hb
  repeat' (first|refine ru_seq ?_|refine ru_reg ?_|refine is_mv rfl ?_|refine is_nil rfl ?_|refine rk_seq ?_|(refine is_lss rfl rfl (fun _=>?_) (fun _=>?_)<;>try (exfalso;omega))|(refine is_eql rfl rfl (fun _=>?_) (fun _=>?_)<;>try (exfalso;omega))|refine ru_iteT rfl ?_|refine ru_iteF rfl ?_|refine is_not rfl rfl ?_|refine is_callE rfl rfl rfl (hb _) ?_|refine is_ixStr rfl rfl (by omega) hb2 ?_|refine ru_skip ?_|refine ru_ret ?_|refine ru_block ?_|refine rk_nil ?_|refine rk_seq_ret ?_|refine rk_blk_ret ?_|refine rk_inv_ret ?_)
  all_goals try contradiction
  all_goals try (exfalso;omega)
  refine end_st hA (by first|exact .inl rfl|exact .inr rfl) rfl rfl rfl rfl ?_
  rfl
theorem mRune_c {s:List UInt8} {n i:Nat} {c:UInt8} (h:NthB beginsB s n i c) (hs:s.length<4294967296) (st:St) :
 S Tb F_measure_Rune [.str s,.int .i64 n] st=some (.tup [.int .i64 i,.int .i64 0],st):=by
 refine s_of rfl (fun A hA=>?_)
 have hF:=fun st=>findK_c begins_c h hs st
 repeat' (first|refine ru_seq ?_|refine ru_reg ?_|refine is_mv rfl ?_|refine is_ext rfl rfl ?_|refine is_nil rfl ?_|refine rk_seq ?_|(refine is_lss rfl rfl (fun _=>?_) (fun _=>?_)<;>try (exfalso;omega))|refine ru_iteT rfl ?_|refine ru_iteF rfl ?_|refine is_callE rfl rfl rfl (hF _) ?_|refine ru_skip ?_|refine ru_ret ?_|refine rk_nil ?_|refine rk_seq_ret ?_)
 all_goals try contradiction
 all_goals try (exfalso;omega)
 refine end_st hA (by first|exact .inl rfl|exact .inr rfl) rfl rfl rfl rfl ?_
 rfl
theorem runeC1_c:TellsM F_node_RuneC1 Mea.r:=fun m st=>by
 refine s_of rfl (fun A hA=>?_)
 unfold Mea.av
 repeat' (first|refine ru_seq ?_|refine ru_reg ?_|refine is_mv rfl ?_|refine is_fadr rfl rfl ?_|refine is_ldc rfl rfl rfl rfl ?_|refine is_nil rfl ?_|refine rk_seq ?_|refine is_box rfl rfl rfl ?_|refine ru_ret ?_|refine rk_nil ?_)
 refine end_st hA (by first|exact .inl rfl|exact .inr rfl) rfl rfl rfl rfl ?_
 rfl
theorem nRune_c (n:Nat) (ks:List Kid) (hx:NdOk ⟨n+1,[],some ks⟩) (a:Int) (h0:0≤a) (h1:a<(sumM (ks.map Kid.m)).r) (hb:a≤1000000) (st:St) :
 S Tb F_node_Rune [Nd.av ⟨n+1,[],some ks⟩,.int .i64 a] st=some (.tup [.int .i64 (skipK Mea.r ks a).1,.int .i64 (skipK Mea.r ks a).2,.int .i64 0],st):=by
 refine s_of rfl (fun A hA=>?_)
 have hC:=fun st=>choose_c runeC1_c comp_r n ks hx a h0 h1 hb st
 unfold Nd.av at *
 simp only [slV] at *
 repeat' (first|refine ru_seq ?_|refine ru_reg ?_|refine is_mv rfl ?_|refine is_ldc rfl rfl rfl rfl ?_|refine is_ext rfl rfl ?_|refine is_nil rfl ?_|refine rk_seq ?_|refine is_box rfl rfl rfl ?_|refine is_callE rfl rfl rfl (hC _) ?_|refine ru_ret ?_|refine rk_nil ?_)
 refine end_st hA (by first|exact .inl rfl|exact .inr rfl) rfl rfl rfl rfl ?_
 rfl
theorem rune_ok:NextOk F_node_Rune (skipK Mea.r) (fun m a=>0≤a∧a<m.r∧m.r≤1000000) where
 call n ks hx a ha st:=nRune_c n ks hx a ha.1 ha.2.1 (by omega) st
 ok ks a hf ha:=by
  obtain ⟨h1,h2,h3,h4⟩:=skipK_ok comp_r ks a hf ha.1 ha.2.1
  exact ⟨h1,fun k hk=>⟨h3,h4 k hk,by have:=(hf k (List.mem_of_getElem? hk)).4;omega⟩⟩
end Go.Q15
namespace Go.Q15
open Go Go.QAbs
set_option maxRecDepth 100000
set_option maxHeartbeats 8000000
def offS (A:List (Bool × List Blk)) (r:Ro) (s:Int):St:=⟨A,false,[.arr 5 0 [r.av],.arr 1 0 [.int .i64 s]]⟩
theorem off_cl (A:List (Bool × List Blk)) (r:Ro) (s:Int):Cl (offS A r s) [(A.length,1)] [.arr 1 0 [.int .i64 s]]:=by
 refine ⟨by simp,rfl,fun k hk=>?_,fun j lv ix b h1 h2=>?_⟩
 ·simp only [List.mem_singleton] at hk
  subst hk;simp [St.wr,offS]
 ·match j,h1,h2 with
  | 0,h1,h2=>obtain ⟨rfl,rfl⟩:=Prod.mk.inj (Option.some.inj h1);obtain rfl:=Option.some.inj h2;exact St.get_cur ..
  | n+1,h1,h2=>simp at h1
theorem off_put (A:List (Bool × List Blk)) (r:Ro) (s t:Int):putC (offS A r s) [(A.length,1)] [.arr 1 0 [.int .i64 t]]=offS A r t:=by
 simp [putC,St.upd,offS]
theorem offC1_c (A:List (Bool × List Blk)) (r:Ro) (s:Int) (m:Mea) (L:List Blk) (h0:0≤s) (h1:s≤1000000000) (hf:m.Fit 65536) :
 S Tb F_seek_offsetC1 [m.av,.ptr A.length 1 0 0 0] ⟨(offS A r s).ps,false,L⟩=some (.tup [],⟨(offS A r (s+m.b)).ps,false,L⟩):=by
 have H:=(off_cl A r s).push (A:=(offS A r s).ps) (ro:=false) (L:=L) rfl
 have e:putC ⟨(offS A r s).ps,false,L⟩ [(A.length,1)] [.arr 1 0 [.int .i64 (s+m.b)]]=⟨(offS A r (s+m.b)).ps,false,L⟩:=by
  rw [putC_push rfl (fun k hk=>by simp only [List.mem_singleton] at hk;subst hk;exact Nat.le_refl _),off_put]
 obtain ⟨f1,f2,_⟩:=hf
 rw [← e]
 refine s_ofW rfl (fun A1 hA=>?_)
 have hA':A1=(putC ⟨(offS A r s).ps,false,L⟩ [(A.length,1)] [.arr 1 0 [.int .i64 s]]).ps:=by rw [H.same];exact hA
 have g:=fun L'=>H.old hA' rfl rfl (ro:=false) (L:=L') (j:=0) rfl rfl
 unfold Mea.av
 repeat' (first|refine ru_seq ?_|refine ru_reg ?_|refine is_fadr rfl rfl ?_|refine is_ldc rfl rfl rfl rfl ?_|refine is_nil rfl ?_|refine rk_seq ?_|refine is_addS rfl rfl (by omega) ?_|refine is_box rfl rfl rfl ?_|refine is_ld rfl (g _) rfl rfl ?_)
 refine is_stC H hA' rfl rfl (j:=0) rfl rfl rfl rfl rfl rfl rfl (fun A2 hA2 _=>?_)
 repeat' (first|refine is_nil rfl ?_|refine rk_nil ?_)
 refine end_st hA2 (.inl rfl) rfl rfl rfl rfl ?_
 rfl
theorem off_pass (A:List (Bool × List Blk)) (r:Ro):Pass (offS A r) Mea.b F_seek_offsetC1 [.ptr A.length 1 0 0 0] (A.length+1) :=
 ⟨comp_b,fun _=>by simp [offS],fun s m L h0 h1 hf=>⟨_,offC1_c A r s m L h0 h1 hf⟩,fun m=>rfl⟩
theorem offset_c {f:FuncId} {ch:List Kid→Int→Nat × Int} {D:Mea→Int→Prop} (hf:NextOk f ch D) {g:FuncId} {st:St} {la b:Nat} {N:Nodes} (hN:GoodN N) (hR:Rd st la (b+5) N) {r:Ro} (hr:RtOk N r) (h0:r.at_≠0) (a:Int) (ha:D r.m a)
 {t:Int} (hg:∀ st,S Tb g [.str (seekF ch Mea.b N r.h r.at_ a).1.1,.int .i64 (seekF ch Mea.b N r.h r.at_ a).1.2] st=some (.tup [.int .i64 t,.int .i64 0],st)) (hb:0≤(seekF ch Mea.b N r.h r.at_ a).2.2∧(seekF ch Mea.b N r.h r.at_ a).2.2≤1000000∧0≤t∧t≤1000000) :
 S Tb F_seek_offset [.ptr la (b+5) 0 0 0,r.av,.int .i64 a,.func (.func f) [] [],.func (.func g) [] []] st=some (.tup [.int .i64 ((seekF ch Mea.b N r.h r.at_ a).2.2+t),.int .i64 0],st):=by
 refine s_of rfl (fun A hA=>?_)
 have hW:=skWalk_c (off_pass A r) hf hN (fun s=>hR.push hA (ro:=false) (L:=[.arr 5 0 [r.av],.arr 1 0 [.int .i64 s]])) hr h0 a ha 0 ⟨by decide,by decide⟩
 rw [Int.zero_add] at hW
 generalize seekF ch Mea.b N r.h r.at_ a=R at *
 unfold offS at hW
 unfold Ro.av at *
 repeat' (first|refine ru_seq ?_|refine ru_reg ?_|refine is_mv rfl ?_|refine is_fadr rfl rfl ?_|refine is_ldc rfl rfl rfl rfl ?_|refine is_ext rfl rfl ?_|refine is_nil rfl ?_|refine rk_seq ?_|(refine is_neq rfl rfl (fun _=>?_) (fun _=>?_)<;>try (exfalso;omega))|refine ru_iteF rfl ?_|refine is_addS rfl rfl (by omega) ?_|refine is_mkf rfl rfl ?_|refine is_box rfl rfl rfl ?_|refine is_stb rfl rfl rfl rfl rfl rfl ?_|refine is_callE rfl rfl rfl (hW) ?_|refine is_callE rfl rfl rfl (hg _) ?_|refine ru_skip ?_|refine ru_ret ?_|refine rk_nil ?_)
 all_goals try contradiction
 all_goals try (exfalso;omega)
 refine end_st hA (by first|exact .inl rfl|exact .inr rfl) rfl rfl rfl rfl ?_
 rfl
theorem Rune_c {st:St} {la b:Nat} {N:Nodes} (hN:GoodN N) (hR:Rd st la (b+5) N) {r:Ro} {s:List UInt8} (h:Rt N r s) {n i:Nat} {c:UInt8} (hi:NthB beginsB s n i c) (hs:s.length≤100000) :
 S Tb F_seek_Rune [.ptr la (b+5) 0 0 0,r.av,.int .i64 n] st=some (.tup [.int .i64 i,.int .i64 0],st):=by
 have hm:=h.m hN
 have hil:=(List.getElem?_eq_some_iff.1 hi.get).1
 have hcnt:=count_take_succ (p:=beginsB) hi.get
 rw [if_pos hi.is,hi.cnt] at hcnt
 have hct:=count_le_take (p:=beginsB) (s:=s) (i:=i+1) (j:=s.length) hil
 rw [hcnt,List.take_length] at hct
 have hcl:=List.countP_le_length (p:=beginsB) (l:=s)
 have hmr:r.m.r=s.countP beginsB:=by rw [hm];rfl
 have hmb:r.m.b=s.length:=by rw [hm];rfl
 obtain ⟨hz,x,x1,x2,x3,x4⟩:=h.rt.nz (by rw [hmb];omega)
 have htx:textR N r=s:=h.tx
 unfold textR at htx
 rw [if_neg hz] at htx
 obtain ⟨pre,leaf,post,t1,t2,t3,t4,t5⟩:=seek_text comp_r comp_b hN r.h r.at_ x (n:Int) x1 x3 (by omega) (by rw [x4,hmr];omega)
 rw [htx] at t1
 have ep:∀ l:List UInt8,(meaT l).r=l.countP beginsB:=fun l=>rfl
 have el:∀ l:List UInt8,(meaT l).b=l.length:=fun l=>rfl
 rw [ep] at t2 t3 t4
 rw [ep] at t4
 rw [el] at t5
 subst t1
 have hlen:(pre++leaf++post).length=pre.length+leaf.length+post.length:=by simp [Nat.add_assoc]
 obtain ⟨i',rfl,hi'⟩:=hi.inner (by omega) (by rw [List.countP_append];omega)
 have hil':=(List.getElem?_eq_some_iff.1 hi'.get).1
 have hg:=fun st=>mRune_c hi' (by omega) st
 rw [show ((n-List.countP beginsB pre:Nat):Int)=(n:Int)-List.countP beginsB pre by omega] at hg
 refine s_of rfl (fun A hA=>?_)
 have hC:=fun L=>sCheck_c (hR.push hA (ro:=false) (L:=L)) h.rt
 have hO:=fun L=>offset_c (g:=F_measure_Rune) (t:=i') rune_ok hN (hR.push hA (ro:=false) (L:=L)) h.rt hz (n:Int) ⟨by omega,by omega,by omega⟩ (by rw [t2];exact hg) (by rw [t5];omega)
 rw [t5] at hO
 have hn1:(n:Int)<r.m.r:=by omega
 unfold Ro.av at *
 repeat' (first|refine ru_seq ?_|refine ru_reg ?_|refine is_mv rfl ?_|refine is_fadr rfl rfl ?_|refine is_ldc rfl rfl rfl rfl ?_|refine is_gT rfl ?_|refine is_pick rfl rfl rfl rfl ?_|refine is_ext rfl rfl ?_|refine is_nil rfl ?_|refine rk_seq ?_|(refine is_lss rfl rfl (fun _=>?_) (fun _=>?_)<;>try (exfalso;omega))|(refine is_gtr rfl rfl (fun _=>?_) (fun _=>?_)<;>try (exfalso;omega))|(refine is_eql rfl rfl (fun _=>?_) (fun _=>?_)<;>try (exfalso;omega))|(refine is_neq rfl rfl (fun _=>?_) (fun _=>?_)<;>try (exfalso;omega))|refine ru_iteF rfl ?_|refine is_box rfl rfl rfl ?_|refine is_callE rfl rfl rfl (hC _) ?_|refine is_callE rfl rfl rfl (hO _) ?_|refine ru_skip ?_|refine ru_ret ?_|refine rk_nil ?_)
 all_goals try contradiction
 all_goals try (exfalso;omega)
 refine end_st hA (by first|exact .inl rfl|exact .inr rfl) rfl rfl rfl rfl ?_
 rw [show ((pre.length+i':Nat):Int)=(pre.length:Int)+i' by omega]
theorem Byte_t {st:St} {la b:Nat} {N:Nodes} (hN:GoodN N) (hR:Rd st la (b+5) N) {r:Ro} {s:List UInt8} (h:Rt N r s) {i:Nat} {c:UInt8} (hi:s[i]?=some c) (hs:s.length≤100000) :
 S Tb F_seek_Byte [.ptr la (b+5) 0 0 0,r.av,.int .i64 i] st=some (.tup [.int .u8 c.toNat,.int .i64 0],st):=by
 have hil:=(List.getElem?_eq_some_iff.1 hi).1
 have hmb:=(h.b hN).2
 obtain ⟨pre,leaf,post,t1,t2,t3,t4⟩:=seekB_text hN h (a:=(i:Int)) (by omega) (by omega)
 refine Byte_c hN hR h.rt (i:Int) (by omega) (by omega) (by omega) ?_
 rw [t2]
 refine ⟨by simp only;omega,by simp only;omega,?_⟩
 simp only
 rw [t1,List.append_assoc,List.getElem?_append_right (by omega),List.getElem?_append_left (by omega)] at hi
 rw [show ((i:Int)-pre.length).toNat=i-pre.length by omega]
 exact hi
end Go.Q15
namespace Go.Q15
open Go Go.QAbs
set_option maxRecDepth 100000
set_option maxHeartbeats 8000000
theorem mLine_c {s:List UInt8} {n i:Nat} {c:UInt8} (h:NthB feedsB s n i c) (hs:s.length<4294967296) (st:St) :
 S Tb F_measure_Line [.str s,.int .i64 ((n:Int)+1)] st=some (.tup [.int .i64 ((i:Int)+1),.int .i64 0],st):=by
 refine s_of rfl (fun A hA=>?_)
 have hi:=(List.getElem?_eq_some_iff.1 h.get).1
 have hn:n≤s.length:=by rw [← h.cnt];have:=List.countP_le_length (p:=feedsB) (l:=s.take i);rw [List.length_take] at this;omega
 have hF:=fun st=>findK_c feeds_c h hs st
 rw [show (n:Int)=(n:Int)+1-1 by omega] at hF
 repeat' (first|refine ru_seq ?_|refine ru_reg ?_|refine is_mv rfl ?_|refine is_ext rfl rfl ?_|refine is_nil rfl ?_|refine rk_seq ?_|(refine is_gtr rfl rfl (fun _=>?_) (fun _=>?_)<;>try (exfalso;omega))|(refine is_eql rfl rfl (fun _=>?_) (fun _=>?_)<;>try (exfalso;omega))|refine ru_iteT rfl ?_|refine ru_iteF rfl ?_|refine is_addS rfl rfl (by omega) ?_|refine is_subS rfl rfl (by omega) ?_|refine is_callE rfl rfl rfl (hF _) ?_|refine ru_skip ?_|refine ru_ret ?_|refine rk_nil ?_|refine rk_seq_ret ?_)
 all_goals try contradiction
 all_goals try (exfalso;omega)
 refine end_st hA (by first|exact .inl rfl|exact .inr rfl) rfl rfl rfl rfl ?_
 rfl
def lineCh (ks:List Kid) (a:Int):Nat × Int:=((skipK Mea.l ks (a-1)).1,(skipK Mea.l ks (a-1)).2+1)
theorem lineC2_c:TellsM F_node_LineC2 Mea.l:=fun m st=>by
 refine s_of rfl (fun A hA=>?_)
 unfold Mea.av
 repeat' (first|refine ru_seq ?_|refine ru_reg ?_|refine is_mv rfl ?_|refine is_fadr rfl rfl ?_|refine is_ldc rfl rfl rfl rfl ?_|refine is_nil rfl ?_|refine rk_seq ?_|refine is_box rfl rfl rfl ?_|refine ru_ret ?_|refine rk_nil ?_)
 refine end_st hA (by first|exact .inl rfl|exact .inr rfl) rfl rfl rfl rfl ?_
 rfl
theorem nLine_c (n:Nat) (ks:List Kid) (hx:NdOk ⟨n+1,[],some ks⟩) (a:Int) (h0:1≤a) (h1:a≤(sumM (ks.map Kid.m)).l) (hb:a≤1000000) (st:St) :
 S Tb F_node_Line [Nd.av ⟨n+1,[],some ks⟩,.int .i64 a] st=some (.tup [.int .i64 (lineCh ks a).1,.int .i64 (lineCh ks a).2,.int .i64 0],st):=by
 refine s_of rfl (fun A hA=>?_)
 have hC:=fun st=>choose_c lineC2_c comp_l n ks hx (a-1) (by omega) (by omega) (by omega) st
 have hin:∀ k∈ks,k.m.Fit 65536:=by
  rcases hx with q|⟨m,l,q⟩
  ·have:=q.h;simp at this
  ·have e:=q.eq
   simp only [Nd.mk.injEq,oJ] at e
   obtain ⟨_,_,rfl⟩:=e
   exact fun k hk=>(q.kid k hk).fit
 have hok:=skipK_ok comp_l ks (a-1) hin (by omega) (by omega)
 have hle:(skipK Mea.l ks (a-1)).2≤1000000:=by
  obtain ⟨h1',h2',h3',h4'⟩:=hok
  have:=h4' _ (List.getElem?_eq_getElem h1')
  have hf:=hin _ (List.getElem_mem h1')
  have:=hf.6
  omega
 have hge:=hok.2.2.1
 unfold lineCh
 simp only
 generalize skipK Mea.l ks (a-1)=R at *
 unfold Nd.av at *
 simp only [slV] at *
 repeat' (first|refine ru_seq ?_|refine ru_reg ?_|refine is_mv rfl ?_|refine is_ldc rfl rfl rfl rfl ?_|refine is_ext rfl rfl ?_|refine is_nil rfl ?_|refine rk_seq ?_|(refine is_lss rfl rfl (fun _=>?_) (fun _=>?_)<;>try (exfalso;omega))|(refine is_neq rfl rfl (fun _=>?_) (fun _=>?_)<;>try (exfalso;omega))|refine ru_iteF rfl ?_|refine is_addS rfl rfl (by omega) ?_|refine is_subS rfl rfl (by omega) ?_|refine is_box rfl rfl rfl ?_|refine is_callE rfl rfl rfl (hC _) ?_|refine ru_skip ?_|refine ru_ret ?_|refine rk_nil ?_)
 all_goals try contradiction
 all_goals try (exfalso;omega)
 refine end_st hA (by first|exact .inl rfl|exact .inr rfl) rfl rfl rfl rfl ?_
 rfl
theorem line_ok:NextOk F_node_Line lineCh (fun m a=>1≤a∧a≤m.l∧m.l≤1000000) where
 call n ks hx a ha st:=nLine_c n ks hx a ha.1 ha.2.1 (by omega) st
 ok ks a hf ha:=by
  obtain ⟨h1,h2,h3,h4⟩:=skipK_ok comp_l ks (a-1) hf (by omega) (by omega)
  exact ⟨h1,fun k hk=>⟨by show 1≤(skipK Mea.l ks (a-1)).2+1;omega,by have:=h4 k hk;show (skipK Mea.l ks (a-1)).2+1≤_;omega,by have:=(hf k (List.mem_of_getElem? hk)).6;omega⟩⟩
theorem seekF_line (q:Mea→Int) (N:Nodes):∀ (n o:Nat) (a:Int),seekF lineCh q N n o a=(((seekF (skipK Mea.l) q N n o (a-1)).1.1,(seekF (skipK Mea.l) q N n o (a-1)).1.2+1),(seekF (skipK Mea.l) q N n o (a-1)).2.1,(seekF (skipK Mea.l) q N n o (a-1)).2.2)
 | 0,o,a=>by
  simp only [seekF]
  congr 2
  omega
 | n+1,o,a=>by
  simp only [seekF]
  have e:(lineCh (ndAt N o).ks a).1=(skipK Mea.l (ndAt N o).ks (a-1)).1:=rfl
  have e2:(lineCh (ndAt N o).ks a).2=(skipK Mea.l (ndAt N o).ks (a-1)).2+1:=rfl
  rw [e,e2,seekF_line q N n]
  rw [show (skipK Mea.l (ndAt N o).ks (a-1)).2+1-1=(skipK Mea.l (ndAt N o).ks (a-1)).2 by omega]
theorem Line_c {st:St} {la b:Nat} {N:Nodes} (hN:GoodN N) (hR:Rd st la (b+5) N) {r:Ro} {s:List UInt8} (h:Rt N r s) {n i:Nat} {c:UInt8} (hi:NthB feedsB s n i c) (hs:s.length≤100000) :
 S Tb F_seek_Line [.ptr la (b+5) 0 0 0,r.av,.int .i64 ((n:Int)+1)] st=some (.tup [.int .i64 ((i:Int)+1),.int .i64 0],st):=by
 have hm:=h.m hN
 have hil:=(List.getElem?_eq_some_iff.1 hi.get).1
 have hcnt:=count_take_succ (p:=feedsB) hi.get
 rw [if_pos hi.is,hi.cnt] at hcnt
 have hct:=count_le_take (p:=feedsB) (s:=s) (i:=i+1) (j:=s.length) hil
 rw [hcnt,List.take_length] at hct
 have hcl:=List.countP_le_length (p:=feedsB) (l:=s)
 have hmr:r.m.l=s.countP feedsB:=by rw [hm];rfl
 have hmb:r.m.b=s.length:=by rw [hm];rfl
 obtain ⟨hz,x,x1,x2,x3,x4⟩:=h.rt.nz (by rw [hmb];omega)
 have htx:textR N r=s:=h.tx
 unfold textR at htx
 rw [if_neg hz] at htx
 obtain ⟨pre,leaf,post,t1,t2,t3,t4,t5⟩:=seek_text comp_l comp_b hN r.h r.at_ x (n:Int) x1 x3 (by omega) (by rw [x4,hmr];omega)
 rw [htx] at t1
 have ep:∀ l:List UInt8,(meaT l).l=l.countP feedsB:=fun l=>rfl
 have el:∀ l:List UInt8,(meaT l).b=l.length:=fun l=>rfl
 rw [ep] at t2 t3 t4
 rw [ep] at t4
 rw [el] at t5
 subst t1
 have hlen:(pre++leaf++post).length=pre.length+leaf.length+post.length:=by simp [Nat.add_assoc]
 obtain ⟨i',rfl,hi'⟩:=hi.inner (by omega) (by rw [List.countP_append];omega)
 have hil':=(List.getElem?_eq_some_iff.1 hi'.get).1
 have hg:=fun st=>mLine_c hi' (by omega) st
 rw [show ((n-List.countP feedsB pre:Nat):Int)=(n:Int)-List.countP feedsB pre by omega] at hg
 have hsl:=seekF_line Mea.b N r.h r.at_ ((n:Int)+1)
 rw [show (n:Int)+1-1=n by omega,t2,t5] at hsl
 simp only at hsl
 refine s_of rfl (fun A hA=>?_)
 have hC:=fun L=>sCheck_c (hR.push hA (ro:=false) (L:=L)) h.rt
 have hO:=fun L=>offset_c (g:=F_measure_Line) (t:=(i':Int)+1) line_ok hN (hR.push hA (ro:=false) (L:=L)) h.rt hz ((n:Int)+1) ⟨by omega,by omega,by omega⟩ (by rw [hsl];exact hg) (by rw [hsl];simp only;omega)
 rw [hsl] at hO
 simp only at hO
 have hn1:(n:Int)+1≤r.m.l:=by omega
 unfold Ro.av at *
 repeat' (first|refine ru_seq ?_|refine ru_reg ?_|refine is_mv rfl ?_|refine is_fadr rfl rfl ?_|refine is_ldc rfl rfl rfl rfl ?_|refine is_gT rfl ?_|refine is_pick rfl rfl rfl rfl ?_|refine is_ext rfl rfl ?_|refine is_nil rfl ?_|refine rk_seq ?_|(refine is_lss rfl rfl (fun _=>?_) (fun _=>?_)<;>try (exfalso;omega))|(refine is_gtr rfl rfl (fun _=>?_) (fun _=>?_)<;>try (exfalso;omega))|(refine is_eql rfl rfl (fun _=>?_) (fun _=>?_)<;>try (exfalso;omega))|(refine is_neq rfl rfl (fun _=>?_) (fun _=>?_)<;>try (exfalso;omega))|refine ru_iteF rfl ?_|refine is_box rfl rfl rfl ?_|refine is_callE rfl rfl rfl (hC _) ?_|refine is_callE rfl rfl rfl (hO _) ?_|refine ru_skip ?_|refine ru_ret ?_|refine rk_nil ?_)
 all_goals try contradiction
 all_goals try (exfalso;omega)
 refine end_st hA (by first|exact .inl rfl|exact .inr rfl) rfl rfl rfl rfl ?_
 rw [show ((pre.length+i':Nat):Int)+1=(pre.length:Int)+((i':Int)+1) by omega]
theorem Line_zero {st:St} {la b:Nat} {N:Nodes} (hN:GoodN N) (hR:Rd st la (b+5) N) {r:Ro} {s:List UInt8} (h:Rt N r s) (hs:s.length≤100000) :
 S Tb F_seek_Line [.ptr la (b+5) 0 0 0,r.av,.int .i64 0] st=some (.tup [.int .i64 0,.int .i64 0],st):=by
 have hm:=h.m hN
 have hmr:r.m.l=s.countP feedsB:=by rw [hm];rfl
 refine s_of rfl (fun A hA=>?_)
 have hC:=fun L=>sCheck_c (hR.push hA (ro:=false) (L:=L)) h.rt
 unfold Ro.av at *
 repeat' (first|refine ru_seq ?_|refine ru_reg ?_|refine is_mv rfl ?_|refine is_fadr rfl rfl ?_|refine is_ldc rfl rfl rfl rfl ?_|refine is_gT rfl ?_|refine is_pick rfl rfl rfl rfl ?_|refine is_nil rfl ?_|refine rk_seq ?_|(refine is_lss rfl rfl (fun _=>?_) (fun _=>?_)<;>try (exfalso;omega))|(refine is_gtr rfl rfl (fun _=>?_) (fun _=>?_)<;>try (exfalso;omega))|(refine is_eql rfl rfl (fun _=>?_) (fun _=>?_)<;>try (exfalso;omega))|(refine is_neq rfl rfl (fun _=>?_) (fun _=>?_)<;>try (exfalso;omega))|refine ru_iteT rfl ?_|refine ru_iteF rfl ?_|refine is_box rfl rfl rfl ?_|refine is_callE rfl rfl rfl (hC _) ?_|refine ru_skip ?_|refine ru_ret ?_|refine rk_nil ?_|refine rk_seq_ret ?_)
 all_goals try contradiction
 all_goals try (exfalso;omega)
 refine end_st hA (by first|exact .inl rfl|exact .inr rfl) rfl rfl rfl rfl ?_
 rfl
theorem Rune_end {st:St} {la b:Nat} {N:Nodes} (hN:GoodN N) (hR:Rd st la (b+5) N) {r:Ro} {s:List UInt8} (h:Rt N r s) (hs:s.length≤100000) :
 S Tb F_seek_Rune [.ptr la (b+5) 0 0 0,r.av,.int .i64 (s.countP beginsB)] st=some (.tup [.int .i64 s.length,.int .i64 0],st):=by
 have hm:=h.m hN
 have hmr:r.m.r=s.countP beginsB:=by rw [hm];rfl
 have hmb:r.m.b=s.length:=by rw [hm];rfl
 refine s_of rfl (fun A hA=>?_)
 have hC:=fun L=>sCheck_c (hR.push hA (ro:=false) (L:=L)) h.rt
 rw [← hmr,← hmb]
 unfold Ro.av at *
 repeat' (first|refine ru_seq ?_|refine ru_reg ?_|refine is_mv rfl ?_|refine is_fadr rfl rfl ?_|refine is_ldc rfl rfl rfl rfl ?_|refine is_gT rfl ?_|refine is_pick rfl rfl rfl rfl ?_|refine is_nil rfl ?_|refine rk_seq ?_|(refine is_lss rfl rfl (fun _=>?_) (fun _=>?_)<;>try (exfalso;omega))|(refine is_gtr rfl rfl (fun _=>?_) (fun _=>?_)<;>try (exfalso;omega))|(refine is_eql rfl rfl (fun _=>?_) (fun _=>?_)<;>try (exfalso;omega))|(refine is_neq rfl rfl (fun _=>?_) (fun _=>?_)<;>try (exfalso;omega))|refine ru_iteT rfl ?_|refine ru_iteF rfl ?_|refine is_box rfl rfl rfl ?_|refine is_callE rfl rfl rfl (hC _) ?_|refine ru_skip ?_|refine ru_ret ?_|refine rk_nil ?_|refine rk_seq_ret ?_)
 all_goals try contradiction
 all_goals try (exfalso;omega)
 refine end_st hA (by first|exact .inl rfl|exact .inr rfl) rfl rfl rfl rfl ?_
 rfl
end Go.Q15
namespace Go.Q15
open Go Go.QAbs
set_option maxRecDepth 100000
set_option maxHeartbeats 8000000
def befS (A:List (Bool × List Blk)) (r:Ro) (g:FuncId) (s:Int):St:=⟨A,false,[.arr 5 0 [r.av],.arr 1 0 [.func (.func g) [] []],.arr 1 0 [.int .i64 s]]⟩
theorem bef_cl (A:List (Bool × List Blk)) (r:Ro) (g:FuncId) (s:Int):Cl (befS A r g s) [(A.length,2)] [.arr 1 0 [.int .i64 s]]:=by
 refine ⟨by simp,rfl,fun k hk=>?_,fun j lv ix b h1 h2=>?_⟩
 ·simp only [List.mem_singleton] at hk
  subst hk;simp [St.wr,befS]
 ·match j,h1,h2 with
  | 0,h1,h2=>obtain ⟨rfl,rfl⟩:=Prod.mk.inj (Option.some.inj h1);obtain rfl:=Option.some.inj h2;exact St.get_cur ..
  | n+1,h1,h2=>simp at h1
theorem bef_put (A:List (Bool × List Blk)) (r:Ro) (g:FuncId) (s t:Int):putC (befS A r g s) [(A.length,2)] [.arr 1 0 [.int .i64 t]]=befS A r g t:=by
 simp [putC,St.upd,befS]
theorem befC1_c (A:List (Bool × List Blk)) (r:Ro) {g:FuncId} {q:Mea→Int} (hq:Comp q) (hg:TellsM g q) (s:Int) (m:Mea) (L:List Blk) (h0:0≤s) (h1:s≤1000000000) (hf:m.Fit 65536) :
 S Tb F_seek_beforeC1 [m.av,.ptr A.length 2 0 0 0,.ptr A.length 1 0 0 0] ⟨(befS A r g s).ps,false,L⟩=some (.tup [],⟨(befS A r g (s+q m)).ps,false,L⟩):=by
 have H:=(bef_cl A r g s).push (A:=(befS A r g s).ps) (ro:=false) (L:=L) rfl
 have e:putC ⟨(befS A r g s).ps,false,L⟩ [(A.length,2)] [.arr 1 0 [.int .i64 (s+q m)]]=⟨(befS A r g (s+q m)).ps,false,L⟩:=by
  rw [putC_push rfl (fun k hk=>by simp only [List.mem_singleton] at hk;subst hk;exact Nat.le_refl _),bef_put]
 obtain ⟨f1,f2⟩:=hq.fit m 65536 hf
 have hgm:=fun st=>hg m st
 have hpart:∀ L',St.get ⟨(befS A r g s).ps++[(false,L)],false,L'⟩ A.length 1=some (.arr 1 0 [.func (.func g) [] []]):=fun L'=>by
  have h1:(befS A r g s).get A.length 1=some (.arr 1 0 [.func (.func g) [] []]):=St.get_cur ..
  exact get_old (st:=⟨(befS A r g s).ps,false,L⟩) rfl (get_old rfl h1)
 rw [← e]
 refine s_ofW rfl (fun A1 hA=>?_)
 have hA':A1=(putC ⟨(befS A r g s).ps,false,L⟩ [(A.length,2)] [.arr 1 0 [.int .i64 s]]).ps:=by rw [H.same];exact hA
 have g2:=fun L'=>H.old hA' rfl rfl (ro:=false) (L:=L') (j:=0) rfl rfl
 have hA0:A1=(befS A r g s).ps++[(false,L)]:=hA
 have hpart1:∀ L',St.get ⟨A1,false,L'⟩ A.length 1=some (.arr 1 0 [.func (.func g) [] []]):=fun L'=>by rw [hA0];exact hpart L'
 unfold Mea.av at *
 repeat' (first|refine is_ld rfl (hpart1 _) rfl rfl ?_|refine is_callP rfl rfl rfl (hgm _) ?_|refine ru_seq ?_|refine ru_reg ?_|refine is_ldc rfl rfl rfl rfl ?_|refine is_nil rfl ?_|refine rk_seq ?_|refine is_addS rfl rfl (by omega) ?_|refine is_box rfl rfl rfl ?_|refine is_ld rfl (g2 _) rfl rfl ?_)
 all_goals try contradiction
 all_goals try (exfalso;omega)
 refine is_stC H hA' rfl rfl (j:=0) rfl rfl rfl rfl rfl rfl rfl (fun A2 hA2 _=>?_)
 repeat' (first|refine is_nil rfl ?_|refine rk_nil ?_)
 refine end_st hA2 (.inl rfl) rfl rfl rfl rfl ?_
 rfl
theorem bef_pass (A:List (Bool × List Blk)) (r:Ro) {g:FuncId} {q:Mea→Int} (hq:Comp q) (hg:TellsM g q):Pass (befS A r g) q F_seek_beforeC1 [.ptr A.length 2 0 0 0,.ptr A.length 1 0 0 0] (A.length+1) :=
 ⟨hq,fun _=>by simp [befS],fun s m L h0 h1 hf=>⟨_,befC1_c A r hq hg s m L h0 h1 hf⟩,fun m=>rfl⟩
theorem before_c {g f:FuncId} {q:Mea→Int} (hq:Comp q) (hg:TellsM g q) {p:UInt8→Bool} (hp:∀ l,q (meaT l)=l.countP p) (hf:∀ (s:List UInt8) (a:Int),0≤a→a≤s.length→s.length<100001→∀ st,S Tb f [.str s,.int .i64 a] st=some (.tup [.int .i64 ((s.take a.toNat).countP p),.int .i64 0],st))
 {st:St} {la b:Nat} {N:Nodes} (hN:GoodN N) (hR:Rd st la (b+5) N) {r:Ro} {s:List UInt8} (h:Rt N r s) {a:Int} (h0:0≤a) (h1:a≤s.length) (hs:s.length≤100000) :
 S Tb F_seek_before [.ptr la (b+5) 0 0 0,r.av,.int .i64 a,.func (.func g) [] [],.func (.func f) [] []] st=some (.tup [.int .i64 ((s.take a.toNat).countP p),.int .i64 0],st):=by
 have hm:=h.m hN
 have hmq:q r.m=s.countP p:=by rw [hm];exact hp s
 have hmb:r.m.b=s.length:=by rw [hm];rfl
 refine s_of rfl (fun A hA=>?_)
 have hC:=fun L=>sCheck_c (hR.push hA (ro:=false) (L:=L)) h.rt
 have hgm:=fun st=>hg r.m st
 rw [hmq] at hgm
 by_cases he:a=s.length
 ·have e1:s.take a.toNat=s:=by rw [List.take_of_length_le (by omega)]
  rw [e1]
  unfold Ro.av Mea.av at *
  repeat' (first|refine ru_seq ?_|refine ru_reg ?_|refine is_mv rfl ?_|refine is_fadr rfl rfl ?_|refine is_ldc rfl rfl rfl rfl ?_|refine is_gT rfl ?_|refine is_pick rfl rfl rfl rfl ?_|refine is_nil rfl ?_|refine rk_seq ?_|(refine is_lss rfl rfl (fun _=>?_) (fun _=>?_)<;>try (exfalso;omega))|(refine is_gtr rfl rfl (fun _=>?_) (fun _=>?_)<;>try (exfalso;omega))|(refine is_eql rfl rfl (fun _=>?_) (fun _=>?_)<;>try (exfalso;omega))|(refine is_neq rfl rfl (fun _=>?_) (fun _=>?_)<;>try (exfalso;omega))|refine ru_iteT rfl ?_|refine ru_iteF rfl ?_|refine is_box rfl rfl rfl ?_|refine is_callE rfl rfl rfl (hC _) ?_|refine is_callE rfl rfl rfl (hgm _) ?_|refine ru_skip ?_|refine ru_ret ?_|refine rk_nil ?_|refine rk_seq_ret ?_)
  all_goals try contradiction
  all_goals try (exfalso;omega)
  refine end_st hA (by first|exact .inl rfl|exact .inr rfl) rfl rfl rfl rfl ?_
  rfl
 ·obtain ⟨hz,x,x1,x2,x3,x4⟩:=h.rt.nz (by rw [hmb];omega)
  have htx:textR N r=s:=h.tx
  unfold textR at htx
  rw [if_neg hz] at htx
  obtain ⟨pre,leaf,post,t1,t2,t3,t4,t5⟩:=seek_text comp_b hq hN r.h r.at_ x a x1 x3 h0 (by rw [x4,hmb];omega)
  rw [htx] at t1
  have el:∀ l:List UInt8,(meaT l).b=l.length:=fun l=>rfl
  rw [el] at t2 t3 t4
  rw [el] at t4
  rw [hp] at t5
  subst t1
  have hlen:(pre++leaf++post).length=pre.length+leaf.length+post.length:=by simp [Nat.add_assoc]
  have hW:=skWalk_c (bef_pass A r hq hg) child_ok hN (fun s=>hR.push hA (ro:=false) (L:=[.arr 5 0 [r.av],.arr 1 0 [.func (.func g) [] []],.arr 1 0 [.int .i64 s]])) h.rt hz a ⟨h0,by omega,by omega⟩ 0 ⟨by decide,by decide⟩
  rw [Int.zero_add,t2,t5] at hW
  have hin:=fun st=>hf leaf (a-pre.length) t3 (by omega) (by omega) st
  have hct:((pre++leaf++post).take a.toNat).countP p=pre.countP p+(leaf.take (a-pre.length).toNat).countP p:=by
   rw [show a.toNat=pre.length+(a-pre.length).toNat by omega,List.append_assoc,List.take_length_add_append,List.take_append_of_le_length (by omega),List.countP_append]
  have hb1:=List.countP_le_length (p:=p) (l:=pre)
  have hb2:=List.countP_le_length (p:=p) (l:=leaf.take (a-(pre.length:Int)).toNat)
  rw [List.length_take] at hb2
  rw [hct]
  simp only at hW
  generalize (seekF (skipK Mea.b) q N r.h r.at_ a).2.1=path at *
  unfold befS at hW
  unfold Ro.av at *
  repeat' (first|refine ru_seq ?_|refine ru_reg ?_|refine is_mv rfl ?_|refine is_fadr rfl rfl ?_|refine is_ldc rfl rfl rfl rfl ?_|refine is_gT rfl ?_|refine is_pick rfl rfl rfl rfl ?_|refine is_ext rfl rfl ?_|refine is_nil rfl ?_|refine rk_seq ?_|(refine is_lss rfl rfl (fun _=>?_) (fun _=>?_)<;>try (exfalso;omega))|(refine is_gtr rfl rfl (fun _=>?_) (fun _=>?_)<;>try (exfalso;omega))|(refine is_eql rfl rfl (fun _=>?_) (fun _=>?_)<;>try (exfalso;omega))|(refine is_neq rfl rfl (fun _=>?_) (fun _=>?_)<;>try (exfalso;omega))|refine ru_iteF rfl ?_|refine is_addS rfl rfl (by omega) ?_|refine is_mkf rfl rfl ?_|refine is_box rfl rfl rfl ?_|refine is_stb rfl rfl rfl rfl rfl rfl ?_|refine is_callE rfl rfl rfl (hC _) ?_|refine is_callE rfl rfl rfl (hW) ?_|refine is_callE rfl rfl rfl (hin _) ?_|refine ru_skip ?_|refine ru_ret ?_|refine rk_nil ?_)
  all_goals try contradiction
  all_goals try (exfalso;omega)
  refine end_st hA (by first|exact .inl rfl|exact .inr rfl) rfl rfl rfl rfl ?_
  rfl
theorem mBefore_c {g:FuncId} {p:UInt8→Bool} (hg:Tells g p) (s:List UInt8) (a:Int) (h0:0≤a) (h1:a≤s.length) (hs:s.length<100001) (st:St) :
 S Tb F_measure_before [.str s,.int .i64 a,.func (.func g) [] []] st=some (.tup [.int .i64 ((s.take a.toNat).countP p),.int .i64 0],st):=by
 refine s_of rfl (fun A hA=>?_)
 have hC:=fun st=>count_c g p hg (s.take a.toNat) (by rw [List.length_take];omega) st
 repeat' (first|refine ru_seq ?_|refine ru_reg ?_|refine is_mv rfl ?_|refine is_gT rfl ?_|refine is_pick rfl rfl rfl rfl ?_|refine is_nil rfl ?_|refine rk_seq ?_|refine is_lenS rfl ?_|(refine is_lss rfl rfl (fun _=>?_) (fun _=>?_)<;>try (exfalso;omega))|(refine is_gtr rfl rfl (fun _=>?_) (fun _=>?_)<;>try (exfalso;omega))|refine ru_iteF rfl ?_|refine is_slcS_hi rfl rfl (by omega) ?_|refine is_callE rfl rfl rfl (hC _) ?_|refine ru_skip ?_|refine ru_ret ?_|refine rk_nil ?_)
 all_goals try contradiction
 all_goals try (exfalso;omega)
 refine end_st hA (by first|exact .inl rfl|exact .inr rfl) rfl rfl rfl rfl ?_
 rfl
theorem mRunesBefore_c (s:List UInt8) (a:Int) (h0:0≤a) (h1:a≤s.length) (hs:s.length<100001) (st:St) :
 S Tb F_measure_RunesBefore [.str s,.int .i64 a] st=some (.tup [.int .i64 ((s.take a.toNat).countP beginsB),.int .i64 0],st):=by
 refine s_of rfl (fun A hA=>?_)
 have hC:=fun st=>mBefore_c begins_c s a h0 h1 hs st
 repeat' (first|refine ru_seq ?_|refine ru_reg ?_|refine is_mv rfl ?_|refine is_ext rfl rfl ?_|refine is_nil rfl ?_|refine rk_seq ?_|refine is_callE rfl rfl rfl (hC _) ?_|refine ru_ret ?_|refine rk_nil ?_)
 all_goals try contradiction
 refine end_st hA (by first|exact .inl rfl|exact .inr rfl) rfl rfl rfl rfl ?_
 rfl
theorem mLineOf_c (s:List UInt8) (a:Int) (h0:0≤a) (h1:a≤s.length) (hs:s.length<100001) (st:St) :
 S Tb F_measure_LineOf [.str s,.int .i64 a] st=some (.tup [.int .i64 ((s.take a.toNat).countP feedsB),.int .i64 0],st):=by
 refine s_of rfl (fun A hA=>?_)
 have hC:=fun st=>mBefore_c feeds_c s a h0 h1 hs st
 repeat' (first|refine ru_seq ?_|refine ru_reg ?_|refine is_mv rfl ?_|refine is_ext rfl rfl ?_|refine is_nil rfl ?_|refine rk_seq ?_|refine is_callE rfl rfl rfl (hC _) ?_|refine ru_ret ?_|refine rk_nil ?_)
 all_goals try contradiction
 refine end_st hA (by first|exact .inl rfl|exact .inr rfl) rfl rfl rfl rfl ?_
 rfl
theorem rbC1_c:TellsM F_seek_RunesBeforeC1 Mea.r:=fun m st=>by
 refine s_of rfl (fun A hA=>?_)
 unfold Mea.av
 repeat' (first|refine ru_seq ?_|refine ru_reg ?_|refine is_mv rfl ?_|refine is_fadr rfl rfl ?_|refine is_ldc rfl rfl rfl rfl ?_|refine is_nil rfl ?_|refine rk_seq ?_|refine is_box rfl rfl rfl ?_|refine ru_ret ?_|refine rk_nil ?_)
 refine end_st hA (by first|exact .inl rfl|exact .inr rfl) rfl rfl rfl rfl ?_
 rfl
theorem loC1_c:TellsM F_seek_LineOfC1 Mea.l:=fun m st=>by
 refine s_of rfl (fun A hA=>?_)
 unfold Mea.av
 repeat' (first|refine ru_seq ?_|refine ru_reg ?_|refine is_mv rfl ?_|refine is_fadr rfl rfl ?_|refine is_ldc rfl rfl rfl rfl ?_|refine is_nil rfl ?_|refine rk_seq ?_|refine is_box rfl rfl rfl ?_|refine ru_ret ?_|refine rk_nil ?_)
 refine end_st hA (by first|exact .inl rfl|exact .inr rfl) rfl rfl rfl rfl ?_
 rfl
theorem RunesBefore_c {st:St} {la b:Nat} {N:Nodes} (hN:GoodN N) (hR:Rd st la (b+5) N) {r:Ro} {s:List UInt8} (h:Rt N r s) {a:Int} (h0:0≤a) (h1:a≤s.length) (hs:s.length≤100000) :
 S Tb F_seek_RunesBefore [.ptr la (b+5) 0 0 0,r.av,.int .i64 a] st=some (.tup [.int .i64 ((s.take a.toNat).countP beginsB),.int .i64 0],st):=by
 refine s_of rfl (fun A hA=>?_)
 have hB:=fun L=>before_c comp_r rbC1_c (p:=beginsB) (fun l=>rfl) (fun s a h0 h1 hs st=>mRunesBefore_c s a h0 h1 hs st) hN (hR.push hA (ro:=false) (L:=L)) h h0 h1 hs
 unfold Ro.av at *
 repeat' (first|refine ru_seq ?_|refine ru_reg ?_|refine is_mv rfl ?_|refine is_ldc rfl rfl rfl rfl ?_|refine is_ext rfl rfl ?_|refine is_nil rfl ?_|refine rk_seq ?_|refine is_box rfl rfl rfl ?_|refine is_callE rfl rfl rfl (hB _) ?_|refine ru_ret ?_|refine rk_nil ?_)
 all_goals try contradiction
 refine end_st hA (by first|exact .inl rfl|exact .inr rfl) rfl rfl rfl rfl ?_
 rfl
theorem LineOf_c {st:St} {la b:Nat} {N:Nodes} (hN:GoodN N) (hR:Rd st la (b+5) N) {r:Ro} {s:List UInt8} (h:Rt N r s) {a:Int} (h0:0≤a) (h1:a≤s.length) (hs:s.length≤100000) :
 S Tb F_seek_LineOf [.ptr la (b+5) 0 0 0,r.av,.int .i64 a] st=some (.tup [.int .i64 ((s.take a.toNat).countP feedsB),.int .i64 0],st):=by
 refine s_of rfl (fun A hA=>?_)
 have hB:=fun L=>before_c comp_l loC1_c (p:=feedsB) (fun l=>rfl) (fun s a h0 h1 hs st=>mLineOf_c s a h0 h1 hs st) hN (hR.push hA (ro:=false) (L:=L)) h h0 h1 hs
 unfold Ro.av at *
 repeat' (first|refine ru_seq ?_|refine ru_reg ?_|refine is_mv rfl ?_|refine is_ldc rfl rfl rfl rfl ?_|refine is_ext rfl rfl ?_|refine is_nil rfl ?_|refine rk_seq ?_|refine is_box rfl rfl rfl ?_|refine is_callE rfl rfl rfl (hB _) ?_|refine ru_ret ?_|refine rk_nil ?_)
 all_goals try contradiction
 refine end_st hA (by first|exact .inl rfl|exact .inr rfl) rfl rfl rfl rfl ?_
 rfl
theorem Boundary_end {st:St} {la b:Nat} {N:Nodes} (hN:GoodN N) (hR:Rd st la (b+5) N) {r:Ro} {s:List UInt8} (h:Rt N r s) (hs:s.length≤100000) :
 S Tb F_seek_Boundary [.ptr la (b+5) 0 0 0,r.av,.int .i64 s.length] st=some (.tup [.bool true,.int .i64 0],st):=by
 have hm:=h.m hN
 have hmb:r.m.b=s.length:=by rw [hm];rfl
 refine s_of rfl (fun A hA=>?_)
 have hC:=fun L=>sCheck_c (hR.push hA (ro:=false) (L:=L)) h.rt
 rw [← hmb]
 unfold Ro.av at *
 repeat' (first|refine ru_seq ?_|refine ru_reg ?_|refine is_mv rfl ?_|refine is_fadr rfl rfl ?_|refine is_ldc rfl rfl rfl rfl ?_|refine is_gT rfl ?_|refine is_pick rfl rfl rfl rfl ?_|refine is_nil rfl ?_|refine rk_seq ?_|(refine is_lss rfl rfl (fun _=>?_) (fun _=>?_)<;>try (exfalso;omega))|(refine is_gtr rfl rfl (fun _=>?_) (fun _=>?_)<;>try (exfalso;omega))|(refine is_eql rfl rfl (fun _=>?_) (fun _=>?_)<;>try (exfalso;omega))|(refine is_neq rfl rfl (fun _=>?_) (fun _=>?_)<;>try (exfalso;omega))|refine ru_iteT rfl ?_|refine ru_iteF rfl ?_|refine is_box rfl rfl rfl ?_|refine is_callE rfl rfl rfl (hC _) ?_|refine ru_skip ?_|refine ru_ret ?_|refine rk_nil ?_|refine rk_seq_ret ?_)
 all_goals try contradiction
 all_goals try (exfalso;omega)
 refine end_st hA (by first|exact .inl rfl|exact .inr rfl) rfl rfl rfl rfl ?_
 rfl
theorem Boundary_c {st:St} {la b:Nat} {N:Nodes} (hN:GoodN N) (hR:Rd st la (b+5) N) {r:Ro} {s:List UInt8} (h:Rt N r s) {i:Nat} {c:UInt8} (hi:s[i]?=some c) (hs:s.length≤100000) :
 S Tb F_seek_Boundary [.ptr la (b+5) 0 0 0,r.av,.int .i64 i] st=some (.tup [.bool (beginsB c),.int .i64 0],st):=by
 have hm:=h.m hN
 have hmb:r.m.b=s.length:=by rw [hm];rfl
 have hil:=(List.getElem?_eq_some_iff.1 hi).1
 have hbb:beginsB c=(decide (((c.toNat:Nat):Int)<128) || decide (191<((c.toNat:Nat):Int))):=by
  unfold beginsB
  apply Bool.eq_iff_iff.2
  simp
  omega
 refine s_of rfl (fun A hA=>?_)
 have hC:=fun L=>sCheck_c (hR.push hA (ro:=false) (L:=L)) h.rt
 have hB:=fun L=>Byte_t hN (hR.push hA (ro:=false) (L:=L)) h hi hs
 rw [hbb]
 by_cases q1:((c.toNat:Nat):Int)<128
 ·rw [decide_eq_true q1,Bool.true_or]
  unfold Ro.av at *
  repeat' (first|refine ru_seq ?_|refine ru_reg ?_|refine is_mv rfl ?_|refine is_fadr rfl rfl ?_|refine is_ldc rfl rfl rfl rfl ?_|refine is_gT rfl ?_|refine is_gF rfl rfl ?_|refine is_pick rfl rfl rfl rfl ?_|refine is_ext rfl rfl ?_|refine is_nil rfl ?_|refine rk_seq ?_|(refine is_lss rfl rfl (fun _=>?_) (fun _=>?_)<;>try (exfalso;omega))|(refine is_gtr rfl rfl (fun _=>?_) (fun _=>?_)<;>try (exfalso;omega))|(refine is_eql rfl rfl (fun _=>?_) (fun _=>?_)<;>try (exfalso;omega))|(refine is_neq rfl rfl (fun _=>?_) (fun _=>?_)<;>try (exfalso;omega))|refine ru_iteF rfl ?_|refine is_box rfl rfl rfl ?_|refine is_callE rfl rfl rfl (hC _) ?_|refine is_callE rfl rfl rfl (hB _) ?_|refine ru_skip ?_|refine ru_ret ?_|refine rk_nil ?_)
  all_goals try contradiction
  all_goals try (exfalso;omega)
  refine end_st hA (by first|exact .inl rfl|exact .inr rfl) rfl rfl rfl rfl ?_
  rfl
 ·by_cases q2:191<((c.toNat:Nat):Int)
  ·rw [decide_eq_true q2,Bool.or_true]
   unfold Ro.av at *
   repeat' (first|refine ru_seq ?_|refine ru_reg ?_|refine is_mv rfl ?_|refine is_fadr rfl rfl ?_|refine is_ldc rfl rfl rfl rfl ?_|refine is_gT rfl ?_|refine is_pick rfl rfl rfl rfl ?_|refine is_ext rfl rfl ?_|refine is_nil rfl ?_|refine rk_seq ?_|(refine is_lss rfl rfl (fun _=>?_) (fun _=>?_)<;>try (exfalso;omega))|(refine is_gtr rfl rfl (fun _=>?_) (fun _=>?_)<;>try (exfalso;omega))|(refine is_eql rfl rfl (fun _=>?_) (fun _=>?_)<;>try (exfalso;omega))|(refine is_neq rfl rfl (fun _=>?_) (fun _=>?_)<;>try (exfalso;omega))|refine ru_iteF rfl ?_|refine is_box rfl rfl rfl ?_|refine is_callE rfl rfl rfl (hC _) ?_|refine is_callE rfl rfl rfl (hB _) ?_|refine ru_skip ?_|refine ru_ret ?_|refine rk_nil ?_)
   all_goals try contradiction
   all_goals try (exfalso;omega)
   refine end_st hA (by first|exact .inl rfl|exact .inr rfl) rfl rfl rfl rfl ?_
   rfl
  ·rw [decide_eq_false q1,decide_eq_false q2,Bool.or_false]
   unfold Ro.av at *
   repeat' (first|refine ru_seq ?_|refine ru_reg ?_|refine is_mv rfl ?_|refine is_fadr rfl rfl ?_|refine is_ldc rfl rfl rfl rfl ?_|refine is_gT rfl ?_|refine is_pick rfl rfl rfl rfl ?_|refine is_ext rfl rfl ?_|refine is_nil rfl ?_|refine rk_seq ?_|(refine is_lss rfl rfl (fun _=>?_) (fun _=>?_)<;>try (exfalso;omega))|(refine is_gtr rfl rfl (fun _=>?_) (fun _=>?_)<;>try (exfalso;omega))|(refine is_eql rfl rfl (fun _=>?_) (fun _=>?_)<;>try (exfalso;omega))|(refine is_neq rfl rfl (fun _=>?_) (fun _=>?_)<;>try (exfalso;omega))|refine ru_iteF rfl ?_|refine is_box rfl rfl rfl ?_|refine is_callE rfl rfl rfl (hC _) ?_|refine is_callE rfl rfl rfl (hB _) ?_|refine ru_skip ?_|refine ru_ret ?_|refine rk_nil ?_)
   all_goals try contradiction
   all_goals try (exfalso;omega)
   refine end_st hA (by first|exact .inl rfl|exact .inr rfl) rfl rfl rfl rfl ?_
   rfl
end Go.Q15
