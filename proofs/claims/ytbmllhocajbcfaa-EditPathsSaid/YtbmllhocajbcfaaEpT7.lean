/- A part of the proof: RI, RJ, RK, M52, RL, S4, S5, S6, YX, W7, RN, RO, W8, RP, FY, SHJ, TYa, RS, STa, SA, RQ, RT, RU, RV, M18, PO, RW, RX, W9, SB, SC, RY, RZ, SD, SE, SF, SG, SI, SJ, SK, SL, SN, SO, SPa, SSa, SSb, SSc, SSd, SSe, SSf. No condition. -/
import Derived.SliceStrings
import Derived.Deep.Slices
import Derived.Carry
import Derived.Shelf.Strings.OnBuilder
import Derived.Test.YtbmllhocajbcfaaProg
import Derived.Test.YtbmllhocajbcfaaEpT6
set_option linter.unusedVariables false
set_option linter.unusedSimpArgs false
namespace Go.Q15
open Go Go.QAbs
set_option maxRecDepth 100000
structure WrOk (N:Nodes) (t:Tr) (r':AR) (ro:Ro):Prop where
 rm:ro.m=t.mea
 rh:ro.h=t.h
 live:∃ y,lk r'.nodes ro.at_=some y∧NdOk y∧y.h=t.h∧y.mea=t.mea
 txt:textH r'.nodes t.h ro.at_=t.txt N
def Exec (N:Nodes) (t:Tr):Prop:=∀ (r:AR),AROk r→GoodN r.nodes→Ext N r.nodes→t.cnt≤r.n→∀ (rx:Nat) (its:List It) (R:List (Nat × Ro)) (ρ:Nat→Ro),AddT t rx its R→(∀ p∈R,ρ p.1=p.2)→(R.map Prod.fst).Nodup →
 ∃ ρ',RunOk its r ρ (t.wr r).1 ρ' (t.wr r).2.2∧ρ' rx=(t.wr r).2.1∧(∀ k,k∉R.map Prod.fst→ρ' k=ρ k)∧WrB r t.cnt (t.wr r).1 (t.wr r).2.2∧WrOk N t (t.wr r).1 (t.wr r).2.1
structure WrLs (N:Nodes) (l:List Tr) (h:Nat) (r':AR) (ks:List Kid):Prop where
 len:ks.length=l.length
 m:ks.map Kid.m=l.map Tr.mea
 ok:∀ k∈ks,KidOk h k∧k.at_≠0∧∃ y,lk r'.nodes k.at_=some y∧NdOk y∧y.h=h∧y.mea=k.m
 txt:(ks.flatMap fun k=>textH r'.nodes h k.at_)=Tr.txtL N l
theorem execL {N:Nodes} (hN:GoodN N) {h:Nat}:∀ (l:List Tr),(∀ u∈l,Val N u∧u.h=h∧Big u)→(∀ u∈l,Exec N u)→∀ (r:AR),AROk r→GoodN r.nodes→Ext N r.nodes→Tr.cntL l≤r.n→∀ (rs:List Nat) (its:List It) (R:List (Nat × Ro)) (ρ:Nat→Ro),AddL l rs its R→(∀ p∈R,ρ p.1=p.2)→(R.map Prod.fst).Nodup →
 ∃ ρ',RunOk its r ρ (Tr.wrL l r).1 ρ' (Tr.wrL l r).2.2∧(rs.map fun k=>(ρ' k).kid)=(Tr.wrL l r).2.1∧(∀ k,k∉R.map Prod.fst→ρ' k=ρ k)∧WrB r (Tr.cntL l) (Tr.wrL l r).1 (Tr.wrL l r).2.2∧WrLs N l h (Tr.wrL l r).1 (Tr.wrL l r).2.1:=by
 intro l
 induction l with
 | nil =>
  intro _ _ r ho hg hE hc rs its R ρ ha hR hnd
  cases ha
  exact ⟨ρ,.nil,rfl,fun _ _=>rfl,.refl ho hg,⟨rfl,rfl,fun k hk=>by simp [Tr.wrL] at hk,rfl⟩⟩
 | cons t l ih =>
  intro hv hx r ho hg hE hc rs its R ρ ha hR hnd
  cases ha with
  | @cons _ _ rx rs i1 i2 R1 R2 ht hl =>
   rw [Tr.cntL] at hc
   rw [List.map_append,List.nodup_append] at hnd
   obtain ⟨nd1,nd2,nd3⟩:=hnd
   obtain ⟨ρ1,a1,a2,a3,a4,a5⟩:=hx t (by simp) r ho hg hE (by omega) rx i1 R1 ρ ht (fun p hp=>hR p (by simp [hp])) nd1
   have hn1:=a4.n
   have hd:∀ p∈R2,p.1∉R1.map Prod.fst:=fun p hp q=>nd3 _ q _ (List.mem_map.2 ⟨p,hp,rfl⟩) rfl
   obtain ⟨ρ2,b1,b2,b3,b4,b5⟩:=ih (fun u hu=>hv u (by simp [hu])) (fun u hu=>hx u (by simp [hu])) _ a4.ok a4.good (hE.trans a4.ext) (by omega) rs i2 R2 ρ1 hl (fun p hp=>by rw [a3 _ (hd p hp)];exact hR p (by simp [hp])) nd2
   obtain ⟨rr,hrr,_,_⟩:=ht.root
   have hrx:rx∉R2.map Prod.fst:=fun q=>nd3 rx (List.mem_map.2 ⟨_,hrr,rfl⟩) rx q rfl
   obtain ⟨v1,v2,v3⟩:=hv t (by simp)
   refine ⟨ρ2,a1.append b1,?_,?_,?_,?_⟩
   ·rw [List.map_cons,b3 rx hrx,a2,b2];rfl
   ·intro k hk
    rw [List.map_append,List.mem_append,not_or] at hk
    rw [b3 k hk.2,a3 k hk.1]
   ·rw [Tr.cntL];exact a4.trans b4
   ·obtain ⟨y,y1,y2,y3,y4⟩:=a5.live
    have hh:=a4.ok.hnd y1
    have hkm:((t.wr r).2.1.kid).m=t.mea:=a5.rm
    have hka:((t.wr r).2.1.kid).at_=(t.wr r).2.1.at_:=rfl
    refine ⟨by show _+1=_;rw [b5.len];rfl,?_,?_,?_⟩
    ·show ((t.wr r).2.1.kid).m::_=_
     rw [hkm,b5.m];rfl
    ·intro k hk
     rcases List.mem_cons.1 hk with rfl|q
     ·refine ⟨?_,hh.2,y,b4.ext _ _ y1,y2,by rw [y3,v2],by rw [y4];exact hkm.symm⟩
      have hs:=v1.size hN v3
      have hb:=v1.mea_ok.1
      have:=y2.kid (a:=(t.wr r).2.1.at_) (by rw [y3,y4,hb];exact hs) hh.1
      rw [y3,v2,y4,← a5.rm] at this
      exact this
     ·exact b5.ok k q
    ·show textH (Tr.wrL l (t.wr r).1).1.nodes h (t.wr r).2.1.at_++((Tr.wrL l (t.wr r).1).2.1.flatMap fun k=>textH (Tr.wrL l (t.wr r).1).1.nodes h k.at_)=_
     rw [b5.txt,Tr.txtL,← a5.txt,v2]
     congr 1
     exact textH_ext a4.good b4.ext h _ y y1 (by rw [y3,v2])
theorem exec_ok {N:Nodes} (hN:GoodN N) {t:Tr} (hv:Val N t):t.bytes≤65536→Exec N t:=by
 induction hv with
 | @kept o h m k x h0 hx hok hh hm hk =>
  intro _ r ho hg hE hc rx its R ρ ha hR hnd
  have e:(Tr.mk o h m [] k).wr r=(r,⟨o,h,m⟩,[]):=by rw [Tr.wr,if_pos h0]
  have ec:(Tr.mk o h m [] k).cnt=0:=by rw [Tr.cnt,Tr.cntO_getD,hk,if_neg h0];rfl
  rw [e,ec]
  cases ha with
  | kept _ =>
   refine ⟨ρ,.nil,hR (rx,⟨o,h,m⟩) (by simp),fun _ _=>rfl,.refl ho hg,⟨(mea_kept h0).symm,rfl,⟨x,hE _ _ hx,hok,hh,by rw [mea_kept h0];exact hm⟩,?_⟩⟩
   show textH r.nodes h o=_
   rw [textH_ext hN hE h o x hx hh,Tr.txt,if_neg h0,Tr.txtO_getD,hk]
   simp [Tr.txtL]
  | leaf=>exact absurd rfl h0
  | inner=>exact absurd rfl h0
 | @leaf s k h1 h2 hk =>
  intro _ r ho hg hE hc rx its R ρ ha hR hnd
  have e:(Tr.mk 0 0 .zero s k).wr r=(r.add ⟨0,s,none⟩,⟨r.next,0,meaT s⟩,[r.next]):=by rw [Tr.wr];simp
  have ec:(Tr.mk 0 0 .zero s k).cnt=1:=by rw [Tr.cnt,Tr.cntO_getD,hk];rfl
  rw [ec] at hc
  rw [e,ec]
  have hx:NdOk ⟨0,s,none⟩:=.inl ⟨rfl,h1,h2,rfl⟩
  cases ha with
  | kept h0=>exact absurd rfl h0
  | leaf =>
   have hρ:ρ rx=⟨0,0,meaT s⟩:=hR (rx,⟨0,0,meaT s⟩) (by simp)
   refine ⟨rset ρ rx r.next,.cons (by omega) hx (fun k hk=>by simp [ndOf,Nd.ks] at hk) .nil,?_,fun k hk=>?_,.one ho (by omega) hg hx (fun k hk=>by simp [Nd.ks] at hk) (fun k hk=>by simp [Nd.ks] at hk),⟨(mea_leaf s k).symm,rfl,⟨(⟨0,s,none⟩:Nd).copy,?_,hx.copy,rfl,?_⟩,?_⟩⟩
   ·simp only [rset,if_true,hρ];rfl
   ·simp only [List.map_cons,List.map_nil,List.mem_singleton] at hk
    simp only [rset,if_neg hk]
   ·rw [lk_add ho (by omega),if_pos rfl]
   ·rw [mea_leaf];rfl
   ·show textH _ 0 r.next=_
    rw [textH,lk_add ho (by omega),if_pos rfl,Tr.txt,if_pos rfl,Tr.txtO_getD,hk]
    simp [Tr.txtL,Nd.copy]
 | @inner h l hh h2 h4 hl hb hv ih =>
  intro hb2 r ho hg hE hc rx its R ρ ha hR hnd
  have eb:(Tr.mk 0 (h+1) .zero [] (some l)).bytes=Tr.bytesL l:=by rw [Tr.bytes,Tr.bytesO];simp [Mea.zero]
  have hbs:∀ u∈l,u.bytes≤65536:=fun u hu=>by
   obtain ⟨i,hi,rfl⟩:=List.getElem_of_mem hu
   have h3:Tr.bytesL l=Tr.bytesL (l.take i)+(l[i].bytes+Tr.bytesL (l.drop (i+1))):=by
    conv=>lhs;rw [← List.take_append_drop (i+1) l,take_succ_get (List.getElem?_eq_getElem hi),Tr.bytesL_append,Tr.bytesL_append]
    simp [Tr.bytesL];omega
   have n1:=Tr.bytesL_nonneg (l:=l.take i) (fun t ht=>by have:=(hv t (List.mem_of_mem_take ht)).pos.2;omega)
   have n2:=Tr.bytesL_nonneg (l:=l.drop (i+1)) (fun t ht=>by have:=(hv t (List.mem_of_mem_drop ht)).pos.2;omega)
   omega
  have ec:(Tr.mk 0 (h+1) .zero [] (some l)).cnt=Tr.cntL l+1:=by rw [Tr.cnt,Tr.cntO];simp;omega
  rw [ec] at hc
  have hbl:(sumM (l.map Tr.mea)).b=Tr.bytesL l:=sumM_b l fun u hu=>(hv u hu).mea_ok.1
  have e:(Tr.mk 0 (h+1) .zero [] (some l)).wr r=((Tr.wrL l r).1.add ⟨h+1,[],some (Tr.wrL l r).2.1⟩,⟨(Tr.wrL l r).1.next,h+1,sumM ((Tr.wrL l r).2.1.map Kid.m)⟩,(Tr.wrL l r).2.2++[(Tr.wrL l r).1.next]):=by
   rw [Tr.wr];simp [Tr.wrO]
  rw [e,ec]
  cases ha with
  | kept h0=>exact absurd rfl h0
  | @inner _ _ _ rs i1 R1 hal hn1 hx1 =>
   obtain ⟨ρ1,a1,a2,a3,a4,a5⟩:=execL hN l (fun u hu=>⟨hv u hu,hl u hu,fun q=>hb u hu (by rw [← hl u hu];exact q)⟩) (fun u hu=>ih u hu (hbs u hu)) r ho hg hE (by omega) rs i1 R1 ρ hal (fun p hp=>hR p (by simp [hp])) hn1
   have hρ:ρ1 rx=⟨0,h+1,sumM (l.map Tr.mea)⟩:=by rw [a3 rx hx1];exact hR (rx,⟨0,h+1,sumM (l.map Tr.mea)⟩) (by simp)
   have hn:0<(Tr.wrL l r).1.n:=by have:=a4.n;omega
   generalize hks:(Tr.wrL l r).2.1=ks at *
   generalize (Tr.wrL l r).1=r1 at *
   have hx:NdOk ⟨h+1,[],some ks⟩:=.inr ⟨h,ks,rfl,by omega,by have:=a5.len;omega,by have:=a5.len;omega,fun k hk=>(a5.ok k hk).1,by rw [a5.m,hbl];omega⟩
   have hki:KidsIn r1.nodes ⟨h+1,[],some ks⟩:=fun k hk=>by
    obtain ⟨_,_,y,y1,y2,y3,y4⟩:=a5.ok k hk
    exact ⟨y,y1,y2,by show y.h+1=h+1;omega,y4⟩
   have hnd2:ndOf ρ1 (.inn (h+1) rs)=⟨h+1,[],some ks⟩:=by rw [ndOf,a2]
   have hrun:RunOk [⟨rx,.inn (h+1) rs⟩] r1 ρ1 (r1.add ⟨h+1,[],some ks⟩) (rset ρ1 rx r1.next) [r1.next]:=by
    have:=RunOk.cons (it:=⟨rx,.inn (h+1) rs⟩) (ρ:=ρ1) hn (by rw [hnd2];exact hx) (by rw [hnd2];exact hki) .nil
    rw [hnd2] at this
    exact this
   refine ⟨rset ρ1 rx r1.next,a1.append hrun,?_,fun k hk=>?_,a4.trans (.one a4.ok hn a4.good hx hki (fun k hk=>(a5.ok k hk).2.1)),⟨?_,rfl,⟨(⟨h+1,[],some ks⟩:Nd).copy,?_,hx.copy,rfl,?_⟩,?_⟩⟩
   ·simp only [rset,if_true,hρ,Ro.wr,a5.m]
   ·rw [List.map_append,List.mem_append,not_or] at hk
    have:k≠rx:=fun q=>hk.2 (by simp [q])
    simp only [rset,if_neg this]
    exact a3 k hk.1
   ·rw [mea_in]
    show sumM (ks.map Kid.m)=_
    rw [a5.m]
   ·rw [lk_add a4.ok hn,if_pos rfl]
   ·rw [mea_in,← a5.m];rfl
   ·show textH _ (h+1) r1.next=_
    rw [textH,lk_add a4.ok hn,if_pos rfl,Tr.txt,if_pos rfl,Tr.txtO,← a5.txt]
    show (ks.flatMap fun k=>textH (r1.add _).nodes h k.at_)=_
    have key:∀ m:List Kid,(∀ k∈m,k∈ks)→(m.flatMap fun k=>textH (r1.add ⟨h+1,[],some ks⟩).nodes h k.at_)=m.flatMap fun k=>textH r1.nodes h k.at_:=by
     intro m
     induction m with
     | nil=>intro _;rfl
     | cons k m ih2 =>
      intro q
      obtain ⟨_,_,y,y1,y2,y3,y4⟩:=a5.ok k (q k (by simp))
      rw [List.flatMap_cons,List.flatMap_cons,textH_ext a4.good (ext_add a4.ok hn _) h k.at_ y y1 y3,ih2 (fun w hw=>q w (by simp [hw]))]
    exact key ks fun _ h=>h
end Go.Q15
namespace Go.Q15
open Go Go.QAbs
set_option maxRecDepth 100000
set_option maxHeartbeats 8000000
theorem ClsOk.get {n ip:Nat} {F:List (Nat × Blk)} {cs:List AV} {is:List It} (h:ClsOk n ip F cs is):∀ {j:Nat} {it:It},is[j]?=some it→∃ c,cs[j]?=some c∧ClOk n ip F c it:=by
 induction h with
 | nil=>intro j it hj;simp at hj
 | cons hc ht ih =>
  intro j it hj
  cases j with
  | zero =>
   simp only [List.getElem?_cons_zero,oJ] at hj
   subst hj
   exact ⟨_,rfl,hc⟩
  | succ j=>exact ih hj
def TdOk (st:St) (n tx ver j:Nat) (cls:List AV) (td:AV):Prop:=(cls=[]∧td=.nils)∨(cls≠[]∧td=.ref n tx ver j (cls.length-j)∧st.get n tx=some (.arr 1 ver cls))
structure PenS (st:St) (n ip tx ver la b:Nat) (cls:List AV) (its:List It) (F:List (Nat × Blk)) (keys:List Nat) (rx:Nat) (ρ:Nat→Ro) (j:Nat):Prop where
 wr:st.wr n
 pen:∃ td,st.get n ip=some (.arr 3 0 [.agg [.ptr la (b+5) 0 0 0,td,.ptr n rx 0 0 0]])∧TdOk st n tx ver j cls td
 cl:ClsOk n ip F cls its
 fx:∀ p∈F,st.get n p.1=some p.2
 rts:∀ k∈keys,st.get n k=some (.arr 5 0 [(ρ k).av])
 key:∀ it∈its,it.rx∈keys∧∀ k∈itKs it.c,k∈keys
 rk:rx∈keys
 s1:∀ k∈keys,k≠ip∧k≠tx
 s2:tx≠ip
 s3:∀ p∈F,p.1∉keys∧p.1≠ip∧p.1≠tx
 ar:∀ i,i=ip∨(cls≠[]∧i=tx)∨i∈keys∨(∃ p∈F,i=p.1)→¬ (n=la∧b≤i∧i≤b+5)
 len:cls.length<1000000
 jl:j≤cls.length
theorem Root_c {st:St} {n ip tx ver la b:Nat} {cls:List AV} {its:List It} {F:List (Nat × Blk)} {keys:List Nat} {rx:Nat} {ρ:Nat→Ro} {j:Nat} (h:PenS st n ip tx ver la b cls its F keys rx ρ j) (hj:j=cls.length):S Tb F_rope_Pen_Root [.ptr n ip 0 0 0] st=some (.tup [(ρ rx).av,.int .i64 0],st):=by
 obtain ⟨td,h1,h2⟩:=h.pen
 have h3:=h.rts rx h.rk
 refine s_of rfl (fun A hA=>?_)
 have g1:=fun L=>get_old hA (ro:=false) (L:=L) h1
 have g3:=fun L=>get_old hA (ro:=false) (L:=L) h3
 unfold Ro.av at g3 ⊢
 rcases h2 with ⟨_,rfl⟩|⟨_,rfl,_⟩
 all_goals repeat' (first|refine ru_seq ?_|refine ru_reg ?_|refine is_mv rfl ?_|refine is_fadr rfl rfl ?_|refine is_nil rfl ?_|refine rk_seq ?_|refine is_nilck rfl rfl ?_|refine is_lenR rfl ?_|refine is_lenN rfl ?_|(refine is_gtr rfl rfl (fun _=>?_) (fun _=>?_)<;>try (exfalso;omega))|refine ru_iteF rfl ?_|refine is_eqs rfl rfl rfl rfl ?_|refine is_box rfl rfl rfl ?_|refine is_stb rfl rfl rfl rfl rfl rfl ?_|refine is_ld rfl (g1 _) rfl rfl ?_|refine is_ld rfl (g3 _) rfl rfl ?_|refine ru_skip ?_|refine ru_ret ?_|refine rk_nil ?_)
 all_goals try (exfalso;omega)
 all_goals refine end_c hA (by first|exact .inl rfl|exact .inr rfl) rfl rfl rfl rfl rfl ?_
 all_goals rfl
def stepSt (st:St) (n ip tx ver la b:Nat) (len:Nat) (rx:Nat) (r':AR) (k:Nat) (ro:Ro) (j:Nat):St :=
 ((arSt st la b r').upd n k (.arr 5 0 [ro.av])).upd n ip (.arr 3 0 [.agg [.ptr la (b+5) 0 0 0,.ref n tx ver (j+1) (len-j-1),.ptr n rx 0 0 0]])
theorem PenS.step {st:St} {n ip tx ver la b:Nat} {cls:List AV} {its:List It} {F:List (Nat × Blk)} {keys:List Nat} {rx:Nat} {ρ:Nat→Ro} {j:Nat} (h:PenS st n ip tx ver la b cls its F keys rx ρ j) {r:AR} (hA:Has st la b r) (ho:AROk r) (hn:0<r.n) {it:It} (hj:its[j]?=some it)
 (hx:NdOk (ndOf ρ it.c)) (hk:KidsIn r.nodes (ndOf ρ it.c)) :
 S Tb F_rope_Pen_Step [.ptr n ip 0 0 0] st=some (.tup [.int .u64 r.next,.bool (decide (cls.length=j+1)),.int .i64 0],stepSt st n ip tx ver la b cls.length rx (r.add (ndOf ρ it.c)) it.rx ((ρ it.rx).wr r.next) j) ∧
 PenS (stepSt st n ip tx ver la b cls.length rx (r.add (ndOf ρ it.c)) it.rx ((ρ it.rx).wr r.next) j) n ip tx ver la b cls its F keys rx (rset ρ it.rx r.next) (j+1) ∧
 Has (stepSt st n ip tx ver la b cls.length rx (r.add (ndOf ρ it.c)) it.rx ((ρ it.rx).wr r.next) j) la b (r.add (ndOf ρ it.c)):=by
 obtain ⟨td,h1,h2⟩:=h.pen
 obtain ⟨cl,c1,c2⟩:=h.cl.get hj
 have hjl:=(List.getElem?_eq_some_iff.1 c1).1
 have hm:=List.mem_of_getElem? hj
 obtain ⟨k1,k2⟩:=h.key it hm
 have hrx:=h.rts it.rx k1
 have hrp:=h.s1 it.rx k1
 have hne:cls≠[]:=fun q=>by rw [q] at c1;simp at c1
 rcases h2 with ⟨q,_⟩|⟨_,rfl,h3⟩
 ·exact absurd q hne
 have hS:=Step_c (it:=it) (ρ:=ρ) (b0:=0) (b1:=0) (b2:=0) (cv:=.nils) h3 c1 c2 h.len h1 h.fx (fun k hk=>h.rts k (k2 k hk)) hrx hA ho hn hx hk h.wr (fun i hi=>h.ar i (by
  rcases hi with rfl|rfl|rfl|q
  ·exact .inr (.inr (.inl k1))
  ·exact .inl rfl
  ·exact .inr (.inl ⟨hne,rfl⟩)
  ·exact .inr (.inr (.inr q)))) ⟨hrp.1,hrp.2,h.s2⟩
 have a1:∀ i,¬ (n=la∧b≤i∧i≤b+5)→(arSt st la b (r.add (ndOf ρ it.c))).get n i=st.get n i:=fun i hi=>hA.out _ hi
 have g1:∀ l' i',((arSt st la b (r.add (ndOf ρ it.c))).upd n it.rx (.arr 5 0 [((ρ it.rx).wr r.next).av])).get l' i'=if l'=n∧i'=it.rx then some (.arr 5 0 [((ρ it.rx).wr r.next).av]) else (arSt st la b (r.add (ndOf ρ it.c))).get l' i' :=
  fun l' i'=>St.get_upd ((a1 _ (h.ar _ (.inr (.inr (.inl k1))))).trans hrx) rfl
 have hp0:((arSt st la b (r.add (ndOf ρ it.c))).upd n it.rx (.arr 5 0 [((ρ it.rx).wr r.next).av])).get n ip=_:=(g1 n ip).trans ((if_neg (fun q=>hrp.1 q.2.symm)).trans ((a1 _ (h.ar _ (.inl rfl))).trans h1))
 have g2:∀ l' i',(stepSt st n ip tx ver la b cls.length rx (r.add (ndOf ρ it.c)) it.rx ((ρ it.rx).wr r.next) j).get l' i'=if l'=n∧i'=ip then some (.arr 3 0 [.agg [.ptr la (b+5) 0 0 0,.ref n tx ver (j+1) (cls.length-j-1),.ptr n rx 0 0 0]]) else if l'=n∧i'=it.rx then some (.arr 5 0 [((ρ it.rx).wr r.next).av]) else (arSt st la b (r.add (ndOf ρ it.c))).get l' i':=fun l' i'=>by
  rw [stepSt,St.get_upd hp0 rfl,g1]
 have hw1:(arSt st la b (r.add (ndOf ρ it.c))).wr n:=putC_wr hA.cl.wr h.wr
 have hwl:(arSt st la b (r.add (ndOf ρ it.c))).wr la:=(hA.put _).wr
 have hw2:∀ {l:Nat},(arSt st la b (r.add (ndOf ρ it.c))).wr l→(stepSt st n ip tx ver la b cls.length rx (r.add (ndOf ρ it.c)) it.rx ((ρ it.rx).wr r.next) j).wr l:=fun w=>St.wr_upd (St.wr_upd hw1 hw1) (St.wr_upd hw1 w)
 refine ⟨hS,⟨hw2 hw1,⟨_,by rw [g2,if_pos ⟨rfl,rfl⟩,Nat.sub_sub],.inr ⟨hne,rfl,?_⟩⟩,h.cl,fun p hp=>?_,fun k hk=>?_,h.key,h.rk,h.s1,h.s2,h.s3,h.ar,h.len,hjl⟩,?_⟩
 ·rw [g2,if_neg (fun q=>h.s2 q.2),if_neg (fun q=>hrp.2 q.2.symm),a1 _ (h.ar _ (.inr (.inl ⟨hne,rfl⟩)))];exact h3
 ·obtain ⟨q1,q2,q3⟩:=h.s3 p hp
  rw [g2,if_neg (fun q=>q2 q.2),if_neg (fun q=>q1 (by rw [q.2];exact k1)),a1 _ (h.ar _ (.inr (.inr (.inr ⟨p,hp,rfl⟩))))];exact h.fx p hp
 ·obtain ⟨q1,q2⟩:=h.s1 k hk
  rw [g2,if_neg (fun q=>q1 q.2)]
  unfold rset
  by_cases e:k=it.rx
  ·subst e;rw [if_pos ⟨rfl,rfl⟩,if_pos rfl]
  ·rw [if_neg (fun q=>e q.2),if_neg e,a1 _ (h.ar _ (.inr (.inr (.inl hk))))];exact h.rts k hk
 ·have hP:=hA.put (r.add (ndOf ρ it.c))
  have n1:∀ i,b≤i→i≤b+5→¬ (la=n∧i=ip)∧¬ (la=n∧i=it.rx):=fun i i1 i2=>⟨fun q=>h.ar ip (.inl rfl) ⟨q.1.symm,by omega,by omega⟩,fun q=>h.ar it.rx (.inr (.inr (.inl k1))) ⟨q.1.symm,by omega,by omega⟩⟩
  have gg:∀ i,b≤i→i≤b+5→(stepSt st n ip tx ver la b cls.length rx (r.add (ndOf ρ it.c)) it.rx ((ρ it.rx).wr r.next) j).get la i=(arSt st la b (r.add (ndOf ρ it.c))).get la i:=fun i i1 i2=>by
   rw [g2,if_neg (n1 i i1 i2).1,if_neg (n1 i i1 i2).2]
  exact ⟨hw2 hwl,(gg _ (by omega) (by omega)).trans hP.h0,(gg _ (by omega) (by omega)).trans hP.h1,(gg _ (by omega) (by omega)).trans hP.h2,(gg _ (by omega) (by omega)).trans hP.h3,(gg _ (by omega) (by omega)).trans hP.h4,(gg _ (by omega) (by omega)).trans hP.h5⟩
end Go.Q15
namespace Go.Q15
open Go Go.QAbs
set_option maxRecDepth 100000
set_option maxHeartbeats 8000000
theorem get_appR {A:List (Bool × List Blk)} {ro:Bool} {L:List Blk} {lv ix:Nat} {b:Blk} (T:List Blk) (h:St.get ⟨A,ro,L⟩ lv ix=some b):St.get ⟨A,ro,L++T⟩ lv ix=some b:=by
 unfold St.get at h ⊢
 simp only at h ⊢
 split
 ·rename_i q
  rw [if_pos q] at h
  have h2:=(vis_noH h).1
  rw [List.getElem?_append_left (List.getElem?_eq_some_iff.1 h2).1];exact h
 ·rename_i q
  rw [if_neg q] at h;exact h
theorem HasR.app {A:List (Bool × List Blk)} {ro:Bool} {L:List Blk} {la b:Nat} {r:AR} (h:HasR ⟨A,ro,L⟩ la b r) (T:List Blk):HasR ⟨A,ro,L++T⟩ la b r :=
 ⟨get_appR T h.h0,get_appR T h.h1,get_appR T h.h2,get_appR T h.h3,get_appR T h.h4,get_appR T h.h5⟩
mutual
theorem AddT.keys:∀ {t:Tr} {rx:Nat} {its:List It} {R:List (Nat × Ro)},AddT t rx its R→rx∈R.map Prod.fst∧∀ it∈its,it.rx∈R.map Prod.fst∧∀ k∈itKs it.c,k∈R.map Prod.fst
 | _,_,_,_,.kept h0=>⟨by simp,fun it h=>by simp at h⟩
 | _,_,_,_,.leaf=>⟨by simp,fun it h=>by simp only [List.mem_singleton] at h;subst h;exact ⟨by simp,fun k hk=>by simp [itKs] at hk⟩⟩
 | _,_,_,_,.inner hl hn hx=>by
  obtain ⟨h1,h2⟩:=AddL.keys hl
  refine ⟨by simp,fun it h=>?_⟩
  rcases List.mem_append.1 h with q|q
  ·obtain ⟨a1,a2⟩:=h2 it q
   exact ⟨by rw [List.map_append];exact List.mem_append_left _ a1,fun k hk=>by rw [List.map_append];exact List.mem_append_left _ (a2 k hk)⟩
  ·simp only [List.mem_singleton] at q
   subst q
   exact ⟨by simp,fun k hk=>by rw [List.map_append];exact List.mem_append_left _ (h1 k hk)⟩
theorem AddL.keys:∀ {l:List Tr} {rs:List Nat} {its:List It} {R:List (Nat × Ro)},AddL l rs its R→(∀ r∈rs,r∈R.map Prod.fst)∧∀ it∈its,it.rx∈R.map Prod.fst∧∀ k∈itKs it.c,k∈R.map Prod.fst
 | _,_,_,_,.nil=>⟨fun r h=>by simp at h,fun it h=>by simp at h⟩
 | _,_,_,_,.cons ht hl=>by
  obtain ⟨a1,a2⟩:=ht.keys
  obtain ⟨b1,b2⟩:=hl.keys
  refine ⟨fun r h=>?_,fun it h=>?_⟩
  ·rw [List.map_append]
   rcases List.mem_cons.1 h with rfl|q
   ·exact List.mem_append_left _ a1
   ·exact List.mem_append_right _ (b1 r q)
  ·rw [List.map_append]
   rcases List.mem_append.1 h with q|q
   ·exact ⟨List.mem_append_left _ (a2 it q).1,fun k hk=>List.mem_append_left _ ((a2 it q).2 k hk)⟩
   ·exact ⟨List.mem_append_right _ (b2 it q).1,fun k hk=>List.mem_append_right _ ((b2 it q).2 k hk)⟩
end
def roOf (R:List (Nat × Ro)) (k:Nat):Ro:=((R.find? fun p=>p.1 == k).map Prod.snd).getD .zero
theorem roOf_ok:∀ {R:List (Nat × Ro)},(R.map Prod.fst).Nodup→∀ p∈R,roOf R p.1=p.2
 | [],_,p,hp=>by simp at hp
 | q::R,hn,p,hp=>by
  rw [List.map_cons,List.nodup_cons] at hn
  unfold roOf
  rw [List.find?_cons]
  rcases List.mem_cons.1 hp with rfl|w
  ·simp
  ·have:q.1≠p.1:=fun e=>hn.1 (by rw [e];exact List.mem_map.2 ⟨p,w,rfl⟩)
   rw [show (q.1 == p.1)=false by simp [this]]
   exact roOf_ok hn.2 p w
def PI (t:Tr) (its:List It) (rx:Nat) (ρ:Nat→Ro):Prop:=(IsEmpty t∧its=[]∧ρ rx=.zero)∨(∃ N,Val N t)∧∃ R,AddT t rx its R∧(∀ p∈R,ρ p.1=p.2)∧(R.map Prod.fst).Nodup
def nw (t:Tr):Nat:=if t.old=0∧t.h=0∧t.text=[] then 0 else t.cnt
theorem nw_val {N:Nodes} {t:Tr} (hv:Val N t):nw t=t.cnt:=by
 unfold nw
 cases hv with
 | kept h0=>rw [if_neg];simp [Tr.old,h0]
 | leaf h1=>rw [if_neg];rintro ⟨_,_,q⟩;simp only [Tr.text] at q;rw [q] at h1;simp at h1
 | inner=>rw [if_neg];simp [Tr.h]
theorem nw_empty {t:Tr} (h:IsEmpty t):nw t=0:=by
 unfold nw;rw [if_pos ⟨h.old,h.h,h.text⟩]
structure Begun (A:List (Bool × List Blk)) (L L2:List Blk) (la b:Nat) (t:Tr) (tx ver:Nat) (cs:List AV) (its:List It) (F:List (Nat × Blk)) (keys:List Nat) (rx:Nat) (ρ:Nat→Ro):Prop where
 ps:PenS ⟨A,false,L2⟩ A.length (L.length+1) tx ver la b cs its F keys rx ρ 0
 len:L.length+2≤L2.length
 old:∀ i,i<L.length→L2[i]?=L[i]?
 klo:∀ k∈keys,L.length+2≤k
 flo:∀ p∈F,L.length+2≤p.1
 tlo:cs≠[]→L.length+2≤tx
 pi:PI t its rx ρ
theorem begin_val {N:Nodes} {A:List (Bool × List Blk)} {L:List Blk} {la b:Nat} {r:AR} (hA:HasR ⟨A,false,L⟩ la b r) (hN:r.n≤r.blk.length) (h16:r.states.length≤16384) (h6:r.n<65536) {t:Tr} (hv:Val r.nodes t) (hb:t.bytes≤65536) (hn:t.cnt≤r.n) :
 ∃ L2 tx ver cs its F keys rx ρ,S Tb F_rope_Begin [.ptr la (b+5) 0 0 0,t.av] ⟨A,false,L⟩=some (.tup [.ptr A.length (L.length+1) 0 0 0,.int .i64 0],⟨A,false,L2⟩)∧Begun A L L2 la b t tx ver cs its F keys rx ρ:=by
 have hCk:=fun T=>Check_val (hA.app T).rd hv hb
 have hNw:=fun st=>New_c hv (by omega) st
 have hSt:=fun T=>Stats_c (hA.app T) hN h16 h6
 unfold AR.statsAV at hSt
 obtain ⟨T,hT⟩:∃ T:List Blk,T=[.arr 7 0 [t.av],.arr 3 0 [.agg [.ptr la (b+5) 0 0 0,.nils,.nilptr]]]:=⟨_,rfl⟩
 have hTl:T.length=2:=by rw [hT];rfl
 have hip:(L++T)[L.length+1]?=some (.arr 3 0 [.agg [.ptr la (b+5) 0 0 0,.nils,.nilptr]]):=by rw [get_app,hT];rfl
 have hP:Pen A (L++T) (L.length+1) (.ptr la (b+5) 0 0 0) .nils []:=⟨⟨_,hip⟩,.inl ⟨rfl,rfl⟩⟩
 obtain ⟨L1,td1,rx,its,cs,R,F,hS,ha⟩:=add_c hv hb hP (by simp;omega)
 obtain ⟨⟨rp,p1⟩,p2⟩:=ha.pen
 rw [lE] at p2
 have hl1:=ha.frm.len
 rw [lL,hTl] at hl1
 have hlt1:L.length+1<L1.length:=(List.getElem?_eq_some_iff.1 p1).1
 have hkl:∀ k∈R.map Prod.fst,L.length+2≤k:=fun k hk=>by
  obtain ⟨p,hp,rfl⟩:=List.mem_map.1 hk
  have:=ha.rlo p hp
  rwa [lL,hTl] at this
 have hfl:∀ p∈F,L.length+2≤p.1:=fun p hp=>by
  have:=ha.flo p hp
  rwa [lL,hTl] at this
 have hg:∀ i,i≠L.length+1→∀ B,(L1.set (L.length+1) B)[i]?=L1[i]?:=fun i hi B=>List.getElem?_set_ne (fun q=>hi q.symm)
 obtain ⟨q1,q2⟩:=ha.tr.keys
 have hbl:la=A.length→b+5<L.length:=fun e=>by
  have:=hA.h5
  subst e
  rw [St.get_cur] at this
  exact (List.getElem?_eq_some_iff.1 (vis_noH this).1).1
 -- where the list lies
 obtain ⟨tx,ver,t1,t2,t3⟩:∃ tx ver,(cs=[]∧td1=.nils∧tx=L.length∨cs≠[]∧td1=.ref A.length tx ver 0 cs.length∧L1[tx]?=some (.arr 1 ver cs)∧L.length+2≤tx∧penX (L.length+1) td1 tx)∧tx≠L.length+1∧(∀ k,L.length+2≤k→¬ penX (L.length+1) td1 k→k≠tx):=by
  rcases p2 with ⟨e1,e2⟩|⟨tx,ver,e1,e2,e3,e4⟩
  ·exact ⟨L.length,0,.inl ⟨e2,e1,rfl⟩,by omega,fun k hk _=>by omega⟩
  ·have hX:penX (L.length+1) td1 tx:=.inr ⟨_,_,_,_,e1⟩
   refine ⟨tx,ver,.inr ⟨e4,e1,e2,?_,hX⟩,e3,fun k hk hn q=>hn (by rw [q];exact hX)⟩
   rcases ha.frm.own tx hX with w|w
   ·rcases w with w|⟨_,_,_,_,w⟩
    ·exact absurd w e3
    ·simp at w
   ·rwa [lL,hTl] at w
 refine ⟨L1.set (L.length+1) (.arr 3 0 [.agg [.ptr la (b+5) 0 0 0,td1,.ptr A.length rx 0 0 0]]),tx,ver,cs,its,F,R.map Prod.fst,rx,roOf R,s_keep rfl ?_,⟨⟨by simp [St.wr],⟨td1,by rw [St.get_cur,List.getElem?_set_self hlt1];rfl,?_⟩,ha.cl,?_,?_,q2,q1,?_,t2,?_,?_,?_,Nat.zero_le _⟩,by rw [List.length_set];omega,?_,hkl,hfl,fun hc=>(by
  rcases t1 with ⟨w,_⟩|⟨_,_,_,w,_⟩
  ·exact absurd w hc
  ·exact w),.inr ⟨⟨_,hv⟩,R,ha.tr,roOf_ok ha.nd,ha.nd⟩⟩⟩
 ·have e0:(⟨A,false,L⟩:St)=⟨A,false,L++[]⟩:=by rw [lN]
  rw [e0]
  rw [hT] at hS
  repeat' (first|refine is_boxA rfl (tr_wide _) (tr_force _) rfl rfl ?_|refine is_boxA rfl rfl rfl rfl rfl ?_|refine is_ldA rfl rfl rfl (tr_part _) ?_|refine ru_seq ?_|refine ru_reg ?_|refine is_mv rfl ?_|refine is_fadr rfl rfl ?_|refine is_nil rfl ?_|refine rk_seq ?_|refine is_fld (agg:=false) rfl rfl ?_|refine is_nilck rfl rfl ?_|(refine is_gtr rfl rfl (fun _=>?_) (fun _=>?_)<;>try (exfalso;omega))|(refine is_neq rfl rfl (fun _=>?_) (fun _=>?_)<;>try (exfalso;omega))|refine ru_iteF rfl ?_|refine is_buildO rfl rfl rfl ?_|refine is_callE rfl rfl (by first|rfl|(simp only [lE,lN,lC,weaks,tr_weak,forceL];first|done|rfl)) (hCk _) ?_|refine is_callE rfl rfl (by first|rfl|(simp only [lE,lN,lC,weaks,tr_weak,forceL];first|done|rfl)) (hNw _) ?_|refine is_callE rfl rfl (by first|rfl|(simp only [lE,lN,lC,weaks,tr_weak,forceL];first|done|rfl)) (hSt _) ?_|refine is_callE rfl rfl (by first|rfl|(simp only [lE,lN,lC,weaks,tr_weak,forceL];first|done|rfl)) (hS) ?_|refine ru_skip ?_)
  all_goals try (exfalso;omega)
  refine is_stn p1 rfl rfl rfl ?_ rfl ?_
  ·simp only [sealV,deep,if_pos (Nat.lt_succ_self _)]
  repeat' (first|refine ru_seq ?_|refine ru_reg ?_|refine is_mv rfl ?_|refine is_nil rfl ?_|refine rk_seq ?_|refine ru_ret ?_|refine rk_nil ?_)
  refine (end_keep (.inr rfl) rfl rfl rfl rfl).trans ?_
  rfl
 ·rcases t1 with ⟨e1,e2,e3⟩|⟨e0,e1,e2,e3⟩
  ·exact .inl ⟨e1,e2⟩
  ·exact .inr ⟨e0,e1,by rw [St.get_cur,hg _ t2,e2];rfl⟩
 ·intro p hp
  obtain ⟨f1,f2⟩:=ha.fx p hp
  obtain ⟨w,v,es,f3,f4⟩:=ha.fw p hp
  have:p.1≠L.length+1:=fun q=>f2 (.inl q)
  rw [St.get_cur,hg _ this,f1,f3];rfl
 ·intro k hk
  obtain ⟨p,hp,rfl⟩:=List.mem_map.1 hk
  obtain ⟨f1,f2⟩:=ha.rts.get hp
  have:p.1≠L.length+1:=fun q=>f2 (.inl q)
  rw [St.get_cur,hg _ this,f1,roOf_ok ha.nd p hp];rfl
 ·intro k hk
  have h1:=hkl k hk
  obtain ⟨p,hp,rfl⟩:=List.mem_map.1 hk
  exact ⟨by omega,t3 _ h1 (ha.rts.get hp).2⟩
 ·intro p hp
  obtain ⟨f1,f2⟩:=ha.fx p hp
  obtain ⟨w,v,es,f3,f4⟩:=ha.fw p hp
  have h1:=hfl p hp
  refine ⟨fun q=>?_,by omega,t3 _ h1 f2⟩
  obtain ⟨u,hu,e⟩:=List.mem_map.1 q
  have f5:=(ha.rts.get hu).1
  rw [e,f1,f3] at f5
  simp only [oJ,Blk.arr.injEq] at f5
  exact f4 f5.1
 ·intro i hi ⟨e1,e2,e3⟩
  have:=hbl e1.symm
  rcases hi with rfl|⟨c1,rfl⟩|q|⟨p,hp,rfl⟩
  ·omega
  ·rcases t1 with ⟨w,_⟩|⟨_,_,_,w,_⟩
   ·exact c1 w
   ·omega
  ·have:=hkl i q;omega
  ·have:=hfl p hp;omega
 ·have h1:=ha.cl.len
  have h2:=ha.tr.cnt
  omega
 ·intro i hi
  rw [hg i (by omega),ha.frm.old i (by rw [lL];omega) (fun q=>?_),List.getElem?_append_left hi]
  rcases q with q|⟨_,_,_,_,q⟩
  ·omega
  ·simp at q
theorem get_top {A:List (Bool × List Blk)} {ro:Bool} {L:List Blk} {i:Nat} {b:Blk} (h:L[i]?=some b) (hv:vis (some b)=some b):St.get ⟨A,ro,L⟩ A.length i=some b:=by rw [St.get_cur,h,hv]
theorem New_empty {t:Tr} (ht:IsEmpty t) (st:St):S Tb F_plan_New [t.av] st=some (.int .i64 (0:Nat),st) :=
 New_leafy (c:=1) ht.ks (fun st=>kind_empty t ht st) st
theorem begin_empty {A:List (Bool × List Blk)} {L:List Blk} {la b:Nat} {r:AR} (hA:HasR ⟨A,false,L⟩ la b r) (hN:r.n≤r.blk.length) (h16:r.states.length≤16384) (h6:r.n<65536) {t:Tr} (ht:IsEmpty t) :
 ∃ L2 tx ver cs its F keys rx ρ,S Tb F_rope_Begin [.ptr la (b+5) 0 0 0,t.av] ⟨A,false,L⟩=some (.tup [.ptr A.length (L.length+1) 0 0 0,.int .i64 0],⟨A,false,L2⟩)∧Begun A L L2 la b t tx ver cs its F keys rx ρ:=by
 have hCk:=fun T=>Check_empty (st:=⟨A,false,L++T⟩) (lv:=la) (ix:=b+5) ht
 have hNw:=fun st=>New_empty ht st
 have hSt:=fun T=>Stats_c (hA.app T) hN h16 h6
 unfold AR.statsAV at hSt
 have hbl:la=A.length→b+5<L.length:=fun e=>by
  have:=hA.h5
  subst e
  rw [St.get_cur] at this
  exact (List.getElem?_eq_some_iff.1 (vis_noH this).1).1
 obtain ⟨T,hT⟩:∃ T:List Blk,T=[.arr 7 0 [t.av],.arr 3 0 [.agg [.ptr la (b+5) 0 0 0,.nils,.nilptr]]]:=⟨_,rfl⟩
 have hadd:S Tb F_rope_Pen_add [.ptr A.length (L.length+1) 0 0 0,t.av] ⟨A,false,L++T⟩=some (.ptr A.length ((L++T).length+1) 0 0 0,⟨A,false,(L++T)++[.arr 7 0 [t.av],.arr 5 0 [Ro.zero.av]]⟩):=by
  refine s_keep rfl ?_
  have e0:(⟨A,false,L++T⟩:St)=⟨A,false,(L++T)++[]⟩:=by rw [lN]
  rw [e0]
  generalize L++T=L0
  obtain ⟨o,h,m,s,k⟩:=t
  obtain ⟨h1,h2,h3,h4,h5⟩:=ht
  simp only [Tr.old,Tr.h,Tr.m,Tr.text,Tr.ks] at h1 h2 h3 h4 h5
  subst h1 h2 h3 h4
  obtain ⟨ka,hka,hka2⟩:∃ ka,Tr.avO k=ka∧(ka=.nils∨ka=.lit []):=by
   cases k with
   | none=>exact ⟨_,rfl,.inl rfl⟩
   | some l=>have:l=[]:=h5;subst this;exact ⟨_,rfl,.inr rfl⟩
  simp only [Tr.av,Mea.zero,hka] at *
  rcases hka2 with rfl|rfl
  all_goals repeat' (first|refine is_boxA rfl rfl rfl rfl rfl ?_|refine is_ldA rfl rfl rfl rfl ?_|refine ru_seq ?_|refine ru_reg ?_|refine is_mv rfl ?_|refine is_fadr rfl rfl ?_|refine is_gT rfl ?_|refine is_pick rfl rfl rfl rfl ?_|refine is_nil rfl ?_|refine rk_seq ?_|refine is_lenF rfl rfl ?_|refine is_lenN rfl ?_|(refine is_eql rfl rfl (fun _=>?_) (fun _=>?_)<;>try (exfalso;omega))|(refine is_neq rfl rfl (fun _=>?_) (fun _=>?_)<;>try (exfalso;omega))|(refine is_eqlS rfl rfl (fun _=>?_) (fun _=>?_)<;>try contradiction)|refine ru_iteT rfl ?_|refine is_buildO rfl rfl rfl ?_|refine ru_skip ?_|refine ru_ret ?_|refine ru_block ?_|refine rk_nil ?_|refine rk_blk ?_)
  all_goals try contradiction
  all_goals try (exfalso;omega)
  all_goals refine (end_keep (.inr rfl) rfl rfl rfl rfl).trans ?_
  all_goals rfl
 have hTl:T.length=2:=by rw [hT];rfl
 have hl2:(L++T).length=L.length+2:=by rw [lL,hTl]
 rw [hl2] at hadd
 have p1:((L++T)++[Blk.arr 7 0 [t.av],Blk.arr 5 0 [Ro.zero.av]])[L.length+1]?=some (.arr 3 0 [.agg [.ptr la (b+5) 0 0 0,.nils,.nilptr]]):=by
  rw [List.append_assoc,get_app,hT];rfl
 refine ⟨((L++T)++[Blk.arr 7 0 [t.av],Blk.arr 5 0 [Ro.zero.av]]).set (L.length+1) (Blk.arr 3 0 [.agg [.ptr la (b+5) 0 0 0,.nils,.ptr A.length (L.length+3) 0 0 0]]),L.length,0,[],[],[],[L.length+3],L.length+3,fun _=>.zero,s_keep rfl ?_,⟨⟨by simp [St.wr],⟨.nils,?_,.inl ⟨rfl,rfl⟩⟩,.nil,fun p hp=>by simp at hp,fun k hk=>?_,fun it hi=>by simp at hi,by simp,fun k hk=>?_,by omega,fun p hp=>by simp at hp,fun i hi=>?_,by simp,Nat.zero_le _⟩,by simp,fun i hi=>?_,fun k hk=>?_,fun p hp=>by simp at hp,fun hc=>absurd rfl hc,.inl ⟨ht,rfl,rfl⟩⟩⟩
 ·have e0:(⟨A,false,L⟩:St)=⟨A,false,L++[]⟩:=by rw [lN]
  rw [e0]
  rw [hT] at hadd p1 ⊢
  repeat' (first|refine is_boxA rfl (tr_wide _) (tr_force _) rfl rfl ?_|refine is_boxA rfl rfl rfl rfl rfl ?_|refine is_ldA rfl rfl rfl (tr_part _) ?_|refine ru_seq ?_|refine ru_reg ?_|refine is_mv rfl ?_|refine is_fadr rfl rfl ?_|refine is_nil rfl ?_|refine rk_seq ?_|refine is_fld (agg:=false) rfl rfl ?_|refine is_nilck rfl rfl ?_|(refine is_gtr rfl rfl (fun _=>?_) (fun _=>?_)<;>try (exfalso;omega))|(refine is_neq rfl rfl (fun _=>?_) (fun _=>?_)<;>try (exfalso;omega))|refine ru_iteF rfl ?_|refine is_buildO rfl rfl rfl ?_|refine is_callE rfl rfl (by first|rfl|(simp only [lE,lN,lC,weaks,tr_weak,forceL];first|done|rfl)) (hCk _) ?_|refine is_callE rfl rfl (by first|rfl|(simp only [lE,lN,lC,weaks,tr_weak,forceL];first|done|rfl)) (hNw _) ?_|refine is_callE rfl rfl (by first|rfl|(simp only [lE,lN,lC,weaks,tr_weak,forceL];first|done|rfl)) (hSt _) ?_|refine is_callE rfl rfl (by first|rfl|(simp only [lE,lN,lC,weaks,tr_weak,forceL];first|done|rfl)) (hadd) ?_|refine ru_skip ?_)
  all_goals try (exfalso;omega)
  refine is_stn p1 rfl rfl rfl ?_ rfl ?_
  ·simp only [sealV,deep,if_pos (Nat.lt_succ_self _)]
  repeat' (first|refine ru_seq ?_|refine ru_reg ?_|refine is_mv rfl ?_|refine is_nil rfl ?_|refine rk_seq ?_|refine ru_ret ?_|refine rk_nil ?_)
  refine (end_keep (.inr rfl) rfl rfl rfl rfl).trans ?_
  rfl
 ·exact get_top (List.getElem?_set_self (by simp)) rfl
 ·simp only [List.mem_singleton] at hk
  subst hk
  refine get_top ?_ rfl
  rw [List.getElem?_set_ne (by omega),show L.length+3=(L++T).length+1 by rw [hl2],get_app];rfl
 ·simp only [List.mem_singleton] at hk
  omega
 ·rintro ⟨e1,e2,e3⟩
  have:=hbl e1.symm
  rcases hi with rfl|⟨c1,rfl⟩|q|⟨p,hp,rfl⟩
  ·omega
  ·exact c1 rfl
  ·simp only [List.mem_singleton] at q;omega
  ·simp at hp
 ·rw [List.getElem?_set_ne (by omega),List.append_assoc,List.getElem?_append_left hi]
 ·simp only [List.mem_singleton] at hk
  omega
end Go.Q15
namespace Go.Q15
open Go Go.QAbs
set_option maxRecDepth 100000
set_option maxHeartbeats 8000000
theorem seal_mapK {b lv ix:Nat} (st:St) (h:lv<b):sealV deep b st (.map lv ix)=some (.map lv ix,st):=by
 simp only [sealV,deep,if_pos h]
def hmAV (l:List Nat):List (AV × AV):=l.map fun (h:Nat)=>(AV.int .u64 h,AV.bool true)
theorem findE_hm (o:Nat):∀ l:List Nat,findE (.int .u64 o) (hmAV l)=some (if o∈l then some (.bool true) else none)
 | []=>rfl
 | p::l=>by
  rw [hmAV,List.map_cons,findE]
  show (Option.bind (if IntKind.u64=IntKind.u64 then some ((o:Int) == (p:Int)) else none) fun b=>if b=true then some (some (AV.bool true)) else findE (.int .u64 o) (hmAV l))=_
  rw [if_pos rfl,oS,findE_hm o l]
  by_cases q:o=p
  ·subst q;simp
  ·rw [if_neg (by simp;omega)]
   simp [q]
theorem putE_hm (o:Nat):∀ l:List Nat,o∉l→putE (.int .u64 o) (.bool true) (hmAV l)=some (hmAV (l++[o]))
 | [],_=>rfl
 | p::l,h=>by
  simp only [List.mem_cons,not_or] at h
  rw [hmAV,List.map_cons,putE]
  show (Option.bind (if IntKind.u64=IntKind.u64 then some ((o:Int) == (p:Int)) else none) fun b=>if b=true then some ((AV.int .u64 o,AV.bool true)::hmAV l) else (putE (.int .u64 o) (.bool true) (hmAV l)).map ((AV.int .u64 p,AV.bool true)::·))=_
  rw [if_pos rfl,oS,if_neg (by simp;omega),putE_hm o l h.2]
  rfl
theorem look_hm {st:St} {lv mx:Nat} {l:List Nat} (hg:st.get lv mx=some (.map (hmAV l))) (o:Nat):lookV st 0 (.bool false) false (.int .u64 o) (.map lv mx)=some (.bool (decide (o∈l))):=by
 simp only [lookV,mapOf,hg,mapB,oS,keyIs,if_true,findE_hm]
 by_cases q:o∈l
 ·simp [q,lookR]
 ·simp [q,lookR]
def hnAV (h:Nat):AV:=.int .u64 h
section
variable {O:Orc} {k:List Fr} {Q:Post} {e:Env} {A:List (Bool × List Blk)} {L:List Blk} {keep:List Nat} {is:List QAbs.PI} {d:Nat}
theorem is_appP {st:St} {s x:Opd} {lv jx ver w bytes:Nat} {es ys:List AV} (hA:A=st.A++[(st.ro,st.L)]) (hwr:st.wr lv) (hg:st.get lv jx=some (.arr w ver es)) (hs:opdO e s=some (.ref lv jx ver 0 es.length)) (hx:opdO e x=some (.lit ys))
 (hw:sameW w ys=true) (hsl:mapSt (sealV deep (lv+1)) ⟨A,false,L⟩ ys=some (ys,⟨A,false,L⟩)) (hl:es.length+ys.length<4294967296) (hb:bytes≤4096)
 (h:∀ A',A'=(st.upd lv jx (.arr w (ver+1) (es++ys))).A++[((st.upd lv jx (.arr w (ver+1) (es++ys))).ro,(st.upd lv jx (.arr w (ver+1) (es++ys))).L)]→Is O is keep k Q ((d,.ref lv jx (ver+1) 0 (es.length+ys.length))::e) ⟨A',false,L⟩) :
 Is O (⟨some d,none,false,.app w bytes s x⟩::is) keep k Q e ⟨A,false,L⟩:=by
 have hlv:=St.get_le hg
 refine is_of (v:=.ref lv jx (ver+1) 0 (es.length+ys.length)) (st':=St.upd ⟨A,false,L⟩ lv jx (.arr w (ver+1) (es++ys))) ?_ ?_
 ·have hg':=get_old hA (ro:=false) (L:=L) hg
  have hw':=wr_push hA hlv hwr (ro:=false) (L:=L)
  simp only [evalPI,evalPO,opdO_some hs,opdO_some hx,elems,oS,appendV,hw,if_true,hsl,appK,hg',appB,true_and,if_pos (show 0+es.length≤es.length∧es.length+ys.length<4294967296∧bytes≤4096 by omega),List.drop_zero]
  rw [List.take_of_length_le (by omega),St.put_upd hw' hg']
  rfl
 ·rw [upd_push hA hlv]
  exact h _ rfl
end
namespace Tr
mutual
def kwT:Tr→List Nat→List Nat
 | .mk o _ _ _ k,out=>kwO k (if o≠0∧o∉out then out++[o] else out)
def kwO:Option (List Tr)→List Nat→List Nat
 | none,out=>out
 | some l,out=>kwL l out
def kwL:List Tr→List Nat→List Nat
 | [],out=>out
 | t::l,out=>kwL l (kwT t out)
end
mutual
def siz:Tr→Nat
 | .mk _ _ _ _ k=>1+sizO k
def sizO:Option (List Tr)→Nat
 | none=>0
 | some l=>sizL l
def sizL:List Tr→Nat
 | []=>0
 | t::l=>siz t+sizL l
end
theorem kwL_append:∀ (a b:List Tr) (out:List Nat),kwL (a++b) out=kwL b (kwL a out)
 | [],b,out=>rfl
 | t::a,b,out=>by rw [lC,kwL,kwL,kwL_append a b]
theorem sizL_append:∀ a b,sizL (a++b)=sizL a+sizL b
 | [],b=>by simp [sizL]
 | t::a,b=>by rw [lC,sizL,sizL,sizL_append a b];omega
theorem kwO_getD (k:Option (List Tr)) (out:List Nat):kwO k out=kwL (k.getD []) out:=by cases k<;>rfl
theorem sizO_getD (k:Option (List Tr)):sizO k=sizL (k.getD []):=by cases k<;>rfl
theorem kwT_len (t:Tr):∀ out,(kwT t out).length≤out.length+t.siz:=by
 induction t using Tr.ind with
 | step o h m s k ih =>
  intro out
  rw [kwT,siz,kwO_getD,sizO_getD]
  have key:∀ (l:List Tr),(∀ t∈l,∀ out,(kwT t out).length≤out.length+t.siz)→∀ out,(kwL l out).length≤out.length+sizL l:=by
   intro l
   induction l with
   | nil=>intro _ out;simp [kwL,sizL]
   | cons a l ih2 =>
    intro hl out
    rw [kwL,sizL]
    have h1:=ih2 (fun t ht=>hl t (by simp [ht])) (kwT a out)
    have h2:=hl a (by simp) out
    omega
  have:=key (k.getD []) ih (if o≠0∧o∉out then out++[o] else out)
  split at this
  ·rename_i q;rw [if_pos q];rw [lL,List.length_singleton] at this;omega
  ·rename_i q;rw [if_neg q];omega
theorem kwL_len:∀ (l:List Tr) (out:List Nat),(kwL l out).length≤out.length+sizL l
 | [],out=>by simp [kwL,sizL]
 | t::l,out=>by
  rw [kwL,sizL]
  have h1:=kwL_len l (kwT t out)
  have h2:=kwT_len t out
  omega
end Tr
structure KS (st:St) (lv mb mx ob ox wb ver:Nat) (out:List Nat):Prop where
 wr:st.wr lv
 hm:st.get lv mb=some (.arr 1 0 [.map lv mx])
 hmx:st.get lv mx=some (.map (hmAV out))
 ho:st.get lv ob=some (.arr 1 0 [.ref lv ox ver 0 out.length])
 hox:st.get lv ox=some (.arr 1 ver (out.map hnAV))
 hw:st.get lv wb=some (.arr 1 0 [.func (.func F_plan_KeptC1) [] [.ptr lv mb 0 0 0,.ptr lv ob 0 0 0,.ptr lv wb 0 0 0]])
 n1:mx≠ox
 n2:mx≠ob
 n3:ox≠ob
 n4:mb≠mx∧mb≠ox∧mb≠ob
 n5:wb≠mx∧wb≠ox∧wb≠ob
def putKS (st:St) (lv mx ob ox ver:Nat) (out:List Nat):St:=((st.upd lv mx (.map (hmAV out))).upd lv ox (.arr 1 ver (out.map hnAV))).upd lv ob (.arr 1 0 [.ref lv ox ver 0 out.length])
theorem KS.get {st:St} {lv mb mx ob ox wb ver:Nat} {out:List Nat} (h:KS st lv mb mx ob ox wb ver out) (v:Nat) (t:List Nat) (l' i':Nat) :
 (putKS st lv mx ob ox v t).get l' i'=if l'=lv∧i'=ob then some (.arr 1 0 [.ref lv ox v 0 t.length]) else if l'=lv∧i'=ox then some (.arr 1 v (t.map hnAV)) else if l'=lv∧i'=mx then some (.map (hmAV t)) else st.get l' i':=by
 have g1:∀ l' i',(st.upd lv mx (.map (hmAV t))).get l' i'=if l'=lv∧i'=mx then some (.map (hmAV t)) else st.get l' i':=fun l' i'=>St.get_upd h.hmx rfl
 have b1:(st.upd lv mx (.map (hmAV t))).get lv ox=some (.arr 1 ver (out.map hnAV)):=by rw [g1,if_neg (fun q=>h.n1 q.2.symm)];exact h.hox
 have g2:∀ l' i',((st.upd lv mx (.map (hmAV t))).upd lv ox (.arr 1 v (t.map hnAV))).get l' i'=if l'=lv∧i'=ox then some (.arr 1 v (t.map hnAV)) else (st.upd lv mx (.map (hmAV t))).get l' i':=fun l' i'=>St.get_upd b1 rfl
 have b2:((st.upd lv mx (.map (hmAV t))).upd lv ox (.arr 1 v (t.map hnAV))).get lv ob=some (.arr 1 0 [.ref lv ox ver 0 out.length]):=by rw [g2,if_neg (fun q=>h.n3 q.2.symm),g1,if_neg (fun q=>h.n2 q.2.symm)];exact h.ho
 rw [putKS,St.get_upd b2 rfl,g2,g1]
theorem KS.put {st:St} {lv mb mx ob ox wb ver:Nat} {out:List Nat} (h:KS st lv mb mx ob ox wb ver out) (v:Nat) (t:List Nat):KS (putKS st lv mx ob ox v t) lv mb mx ob ox wb v t:=by
 refine ⟨St.wr_upd (St.wr_upd (St.wr_upd h.wr h.wr) (St.wr_upd h.wr h.wr)) (St.wr_upd (St.wr_upd h.wr h.wr) (St.wr_upd h.wr h.wr)),?_,?_,?_,?_,?_,h.n1,h.n2,h.n3,h.n4,h.n5⟩
 ·rw [h.get,if_neg (fun q=>h.n4.2.2 q.2),if_neg (fun q=>h.n4.2.1 q.2),if_neg (fun q=>h.n4.1 q.2)];exact h.hm
 ·rw [h.get,if_neg (fun q=>h.n2 q.2),if_neg (fun q=>h.n1 q.2),if_pos ⟨rfl,rfl⟩]
 ·rw [h.get,if_pos ⟨rfl,rfl⟩]
 ·rw [h.get,if_neg (fun q=>h.n3 q.2),if_pos ⟨rfl,rfl⟩]
 ·rw [h.get,if_neg (fun q=>h.n5.2.2 q.2),if_neg (fun q=>h.n5.2.1 q.2),if_neg (fun q=>h.n5.1 q.2)];exact h.hw
theorem KS.same {st:St} {lv mb mx ob ox wb ver:Nat} {out:List Nat} (h:KS st lv mb mx ob ox wb ver out):putKS st lv mx ob ox ver out=st:=by
 rw [putKS,upd_same h.hmx,upd_same h.hox,upd_same h.ho]
theorem putKS_put {st:St} {lv mx ob ox v1 v2:Nat} {s t:List Nat} (h1:mx≠ox) (h2:mx≠ob) (h3:ox≠ob):putKS (putKS st lv mx ob ox v1 s) lv mx ob ox v2 t=putKS st lv mx ob ox v2 t:=by
 unfold putKS
 generalize Blk.map (hmAV s)=a1
 generalize Blk.map (hmAV t)=a2
 generalize Blk.arr 1 v1 (s.map hnAV)=b1
 generalize Blk.arr 1 v2 (t.map hnAV)=b2
 generalize Blk.arr 1 0 [AV.ref lv ox v1 0 s.length]=c1
 generalize Blk.arr 1 0 [AV.ref lv ox v2 0 t.length]=c2
 rw [upd_comm (st:=(st.upd lv mx a1).upd lv ox b1) (fun q=>h2 q.symm),upd_comm (st:=st.upd lv mx a1) (fun q=>h1 q.symm),upd_upd,upd_comm (st:=(st.upd lv mx a2).upd lv ox b1) (fun q=>h3 q.symm),upd_upd,upd_upd]
theorem putKS_push {st:St} {A:List (Bool × List Blk)} {ro:Bool} {L:List Blk} (hA:A=st.A++[(st.ro,st.L)]) {lv mx ob ox ver:Nat} {t:List Nat} (hl:lv≤st.A.length) :
 putKS ⟨A,ro,L⟩ lv mx ob ox ver t=⟨(putKS st lv mx ob ox ver t).A++[((putKS st lv mx ob ox ver t).ro,(putKS st lv mx ob ox ver t).L)],ro,L⟩:=by
 unfold putKS
 rw [upd_push hA hl]
 have e2:=fun (b:Blk)=>upd_push (st:=st.upd lv mx (.map (hmAV t))) (A:=(st.upd lv mx (.map (hmAV t))).A++[((st.upd lv mx (.map (hmAV t))).ro,(st.upd lv mx (.map (hmAV t))).L)]) (ro:=ro) (L:=L) (lv:=lv) (ix:=ox) (b:=b) rfl (by rw [St.upd_A];exact hl)
 rw [e2]
 exact upd_push rfl (by rw [St.upd_A,St.upd_A];exact hl)
theorem KS.push {st:St} {A:List (Bool × List Blk)} {ro:Bool} {L:List Blk} (hA:A=st.A++[(st.ro,st.L)]) {lv mb mx ob ox wb ver:Nat} {out:List Nat} (h:KS st lv mb mx ob ox wb ver out):KS ⟨A,ro,L⟩ lv mb mx ob ox wb ver out :=
 ⟨wr_push hA (St.get_le h.hm) h.wr,get_old hA h.hm,get_old hA h.hmx,get_old hA h.ho,get_old hA h.hox,get_old hA h.hw,h.n1,h.n2,h.n3,h.n4,h.n5⟩
theorem putKS_A (st:St) (lv mx ob ox ver:Nat) (out:List Nat):(putKS st lv mx ob ox ver out).A.length=st.A.length:=by
 unfold putKS;rw [St.upd_A,St.upd_A,St.upd_A]
theorem keptW_c (t:Tr):t.Pos→∀ {st:St} {lv mb mx ob ox wb ver:Nat} {out:List Nat},KS st lv mb mx ob ox wb ver out→out.length+t.siz<4294967296 →
 Sp Tb F_plan_KeptC1 [t.av,.ptr lv mb 0 0 0,.ptr lv ob 0 0 0,.ptr lv wb 0 0 0] st fun v st'=>v=.tup []∧∃ ver',st'=putKS st lv mx ob ox ver' (t.kwT out):=by
 induction t using Tr.ind with
 | step o h m s k ih =>
  intro hp st lv mb mx ob ox wb ver out hs hl
  cases hp with
  | mk h0 h4 hk2 =>
  have e1:(Tr.mk o h m s k).kwT out=Tr.kwL (k.getD []) (if o≠0∧o∉out then out++[o] else out):=by rw [Tr.kwT,Tr.kwO_getD]
  have e2:(Tr.mk o h m s k).siz=1+Tr.sizL (k.getD []):=by rw [Tr.siz,Tr.sizO_getD]
  rw [e1]
  rw [e2] at hl
  refine sp_of rfl ?_
  obtain ⟨A,hA⟩:∃ A,A=st.A++[(st.ro,st.L)]:=⟨_,rfl⟩
  rw [← hA]
  have hlv:=St.get_le hs.hm
  have hav:(Tr.mk o h m s k).av=.agg [.int .u64 o,.int .i64 h,.int .i64 m.b,.int .i64 m.r,.int .i64 m.l,.str s,slV Tr.av k]:=by rw [Tr.av,Tr.avO_sl]
  -- the loop over the children
  have key:∀ (ver1:Nat) (out1:List Nat) (A1:List (Bool × List Blk)),A1=(putKS st lv mx ob ox ver1 out1).A++[((putKS st lv mx ob ox ver1 out1).ro,(putKS st lv mx ob ox ver1 out1).L)]→out1.length≤out.length+1→∀ e:Env,e=[(3,.ptr lv wb 0 0 0),(4,.ptr A.length 0 0 0 0)]∨e=[(1,.ptr lv mb 0 0 0),(2,.ptr lv ob 0 0 0),(3,.ptr lv wb 0 0 0),(4,.ptr A.length 0 0 0 0),(16,.bool false)] →
   Ru (S Tb) (.seq p_plan_KeptC1_4 (.block 0 (.loop p_plan_KeptC1_9))) [] (fun x e st''=>∃ v st',endK false ([]:List RV) (x,e,st'')=some (v,st')∧v=.tup []∧∃ ver',st'=putKS st lv mx ob ox ver' (Tr.kwL (k.getD []) out1)) e ⟨A1,false,[.arr 7 0 [(Tr.mk o h m s k).av]]⟩:=by
   intro ver1 out1 A1 hA1 hl1 e he
   have hAl:A.length=A1.length:=by rw [hA,hA1];simp [putKS_A]
   rw [hAl] at he
   rw [hav]
   cases k with
   | none =>
    simp only [slV]
    rcases he with rfl|rfl
    all_goals repeat' (first|refine ru_seq ?_|refine ru_reg ?_|refine is_mv rfl ?_|refine is_fadr rfl rfl ?_|refine is_ldc rfl rfl rfl rfl ?_|refine is_nil rfl ?_|refine rk_seq ?_|refine is_lenN rfl ?_|(refine is_lss rfl rfl (fun _=>?_) (fun _=>?_)<;>try (exfalso;omega))|refine ru_iteF rfl ?_|refine ru_unroll ?_|refine ru_exit ?_|refine ru_block ?_|refine rk_nil ?_|refine rk_seq_ex ?_|refine rk_blk_eq rfl ?_)
    all_goals try (exfalso;omega)
    all_goals exact ⟨_,_,end_st hA1 (.inl rfl) rfl rfl rfl rfl rfl,rfl,ver1,rfl⟩
   | some l =>
    simp only [Option.getD] at h4 hk2 ih hl ⊢
    simp only [slV]
    have hloop:Ru (S Tb) (.loop p_plan_KeptC1_9) [.blk 0] (fun x e st''=>∃ v st',endK false ([]:List RV) (x,e,st'')=some (v,st')∧v=.tup []∧∃ ver',st'=putKS st lv mx ob ox ver' (Tr.kwL l out1)) [(3,.ptr lv wb 0 0 0),(26,.lit (l.map Tr.av)),(27,.int .i64 l.length),(28,.int .i64 0)] ⟨A1,false,[.arr 7 0 [.agg [.int .u64 o,.int .i64 h,.int .i64 m.b,.int .i64 m.r,.int .i64 m.l,.str s,.lit (l.map Tr.av)]]]⟩:=by
     refine ru_loopP (α:=Nat × List Blk × Nat) (fun p=>[(3,.ptr lv wb 0 0 0),(26,.lit (l.map Tr.av)),(27,.int .i64 l.length),(28,.int .i64 p.1)])
      (fun p=>⟨(putKS st lv mx ob ox p.2.2 (Tr.kwL (l.take p.1) out1)).A++[((putKS st lv mx ob ox p.2.2 (Tr.kwL (l.take p.1) out1)).ro,(putKS st lv mx ob ox p.2.2 (Tr.kwL (l.take p.1) out1)).L)],false,.arr 7 0 [.agg [.int .u64 o,.int .i64 h,.int .i64 m.b,.int .i64 m.r,.int .i64 m.l,.str s,.lit (l.map Tr.av)]]::p.2.1⟩)
      (fun p=>p.1≤l.length) (fun p=>l.length-p.1) (0,[],ver1) rfl ?_ (by simp) ?_
     ·simp only [List.take_zero,Tr.kwL,← hA1]
     rintro ⟨i,G,ver2⟩ hi
     simp only at hi ⊢
     have hk3:=hs.put ver2 (Tr.kwL (l.take i) out1)
     have hpp:∀ v3 t3,putKS (putKS st lv mx ob ox ver2 (Tr.kwL (l.take i) out1)) lv mx ob ox v3 t3=putKS st lv mx ob ox v3 t3:=fun v3 t3=>putKS_put hs.n1 hs.n2 hs.n3
     generalize hs1:putKS st lv mx ob ox ver2 (Tr.kwL (l.take i) out1)=st1 at *
     obtain ⟨A2,hA2⟩:∃ A2,A2=st1.A++[(st1.ro,st1.L)]:=⟨_,rfl⟩
     rw [← hA2]
     have hgw:=fun L=>get_old hA2 (ro:=false) (L:=L) hk3.hw
     repeat' (first|refine ru_seq ?_|refine ru_reg ?_|refine is_nil rfl ?_|refine rk_seq ?_|(refine is_lss rfl rfl (fun _=>?_) (fun _=>?_)<;>try (exfalso;omega))|refine ru_iteT rfl ?_|refine ru_iteF rfl ?_|refine is_boxG rfl rfl rfl ?_|refine is_ixM rfl rfl (by omega) tr_wide (fun _ _=>?_)|refine is_ldl rfl (tr_part _) ?_|refine is_stT rfl rfl rfl (tr_seal _ _ _) (tr_put _ _) rfl ?_|refine ru_skip ?_|refine ru_exit ?_|refine ru_block ?_|refine rk_nil ?_|refine rk_seq_ex ?_|refine rk_blk_eq rfl ?_|refine rk_inv_ex ?_)
     ·rename_i u hu
      have hu2:l[i]?=some u:=hu
      have hum:=List.mem_of_getElem? hu2
      have hle:lv≤st1.A.length:=St.get_le hk3.hm
      have hsum:Tr.sizL l=Tr.sizL (l.take i)+(u.siz+Tr.sizL (l.drop (i+1))):=by
       conv=>lhs;rw [← List.take_append_drop (i+1) l,take_succ_get hu2,Tr.sizL_append,Tr.sizL_append]
       simp [Tr.sizL];omega
      have hlen:=Tr.kwL_len (l.take i) out1
      have ihu:=fun L=>ih u hum (hk2 u hum) (hk3.push hA2 (ro:=false) (L:=L)) (by omega)
      have hkw:Tr.kwL (l.take (i+1)) out1=u.kwT (Tr.kwL (l.take i) out1):=by
       rw [take_succ_get hu2,Tr.kwL_append];rfl
      refine is_ld rfl (hgw _) rfl rfl ?_
      repeat' (refine is_ldT rfl rfl (tr_part _) ?_)
      refine is_call rfl rfl (wk4 _ _ _ _ rfl rfl rfl) (ihu _) ?_
      rintro v st' ⟨rfl,v3,rfl⟩
      rw [putKS_push hA2 hle,hpp,← hkw]
      repeat' (first|refine ru_reg ?_|refine is_mv rfl ?_|refine is_nil rfl ?_|refine rk_seq ?_|refine is_addS rfl rfl (by omega) ?_|refine rk_blk ?_|refine rk_inv ?_)
      exact ⟨(i+1,_,v3),⟨rfl,rfl⟩,by simp only;omega,by simp only;omega⟩
     ·have hi':i=l.length:=by omega
      subst hi'
      rw [List.take_length] at *
      exact ⟨_,_,end_st hA2 (.inl rfl) rfl rfl rfl rfl rfl,rfl,ver2,hs1.symm⟩
    rcases he with rfl|rfl
    all_goals repeat' (first|exact hloop|refine ru_seq ?_|refine ru_reg ?_|refine is_mv rfl ?_|refine is_fadr rfl rfl ?_|refine is_ldc rfl rfl rfl rfl ?_|refine is_nil rfl ?_|refine rk_seq ?_|refine is_lenM rfl ?_|refine ru_block ?_)
  have hg1:=fun L=>get_old hA (ro:=false) (L:=L) hs.hm
  have hg2:=fun L=>get_old hA (ro:=false) (L:=L) hs.hmx
  have hlk:=fun L=>look_hm (hg2 L) o
  have hkey0:=key ver out A (by rw [hs.same];exact hA) (by omega) _ (.inr rfl)
  have hwide:=tr_wide (Tr.mk o h m s k)
  have hforce:=tr_force (Tr.mk o h m s k)
  rw [hav] at hwide hforce
  by_cases ho:o=0
  ·subst ho
   rw [if_neg (by simp)]
   rw [hav] at hkey0 ⊢
   repeat' (first|refine is_boxG rfl hwide hforce ?_|exact hkey0|refine ru_seq ?_|refine ru_reg ?_|refine is_mv rfl ?_|refine is_fadr rfl rfl ?_|refine is_ldc rfl rfl rfl rfl ?_|refine is_gF rfl rfl ?_|refine is_pick rfl rfl rfl rfl ?_|refine is_nil rfl ?_|refine rk_seq ?_|(refine is_neq rfl rfl (fun _=>?_) (fun _=>?_)<;>try (exfalso;omega))|refine ru_iteF rfl ?_|refine ru_skip ?_)
   all_goals contradiction
  ·by_cases hm:o∈out
   ·rw [if_neg (by simp [hm])]
    rw [hav] at hkey0 ⊢
    rw [decide_eq_true hm] at hlk
    repeat' (first|refine is_boxG rfl hwide hforce ?_|exact hkey0|refine ru_seq ?_|refine ru_reg ?_|refine is_mv rfl ?_|refine is_fadr rfl rfl ?_|refine is_ldc rfl rfl rfl rfl ?_|refine is_gT rfl ?_|refine is_pick rfl rfl rfl rfl ?_|refine is_nil rfl ?_|refine rk_seq ?_|(refine is_neq rfl rfl (fun _=>?_) (fun _=>?_)<;>try (exfalso;omega))|refine ru_iteF rfl ?_|refine is_not rfl rfl ?_|refine is_ld rfl (hg1 _) rfl rfl ?_|refine is_look rfl rfl (hlk _) ?_|refine ru_skip ?_)
    all_goals contradiction
   ·rw [if_pos ⟨ho,hm⟩]
    have hkey:=key (ver+1) (out++[o])
    rw [hav] at hkey ⊢
    rw [decide_eq_false hm] at hlk
    repeat' (first|refine is_boxG rfl hwide hforce ?_|refine ru_seq ?_|refine ru_reg ?_|refine is_mv rfl ?_|refine is_fadr rfl rfl ?_|refine is_ldc rfl rfl rfl rfl ?_|refine is_gT rfl ?_|refine is_pick rfl rfl rfl rfl ?_|refine is_nil rfl ?_|refine rk_seq ?_|(refine is_neq rfl rfl (fun _=>?_) (fun _=>?_)<;>try (exfalso;omega))|refine ru_iteT rfl ?_|refine is_not rfl rfl ?_|refine is_ld rfl (hg1 _) rfl rfl ?_|refine is_look rfl rfl (hlk _) ?_)
    all_goals try contradiction
    refine is_mupdP hA rfl rfl rfl hs.wr hs.hmx rfl (putE_hm o out hm) (fun A' hA'=>?_)
    have q1:∀ l' i',(st.upd lv mx (.map (hmAV (out++[o])))).get l' i'=if l'=lv∧i'=mx then some (.map (hmAV (out++[o]))) else st.get l' i':=fun l' i'=>St.get_upd hs.hmx rfl
    have ka:(st.upd lv mx (.map (hmAV (out++[o])))).get lv ob=some (.arr 1 0 [.ref lv ox ver 0 out.length]):=by rw [q1,if_neg (fun q=>hs.n2 q.2.symm)];exact hs.ho
    have kb:(st.upd lv mx (.map (hmAV (out++[o])))).get lv ox=some (.arr 1 ver (out.map hnAV)):=by rw [q1,if_neg (fun q=>hs.n1 q.2.symm)];exact hs.hox
    have hw1:=St.wr_upd (b:=.map (hmAV (out++[o]))) (ix:=mx) hs.wr hs.wr
    have hAl:A.length=A'.length:=by rw [hA,hA'];simp [St.upd_A]
    rw [hAl] at hkey ⊢
    have hput:putKS st lv mx ob ox (ver+1) (out++[o])=((st.upd lv mx (.map (hmAV (out++[o])))).upd lv ox (.arr 1 (ver+1) (out.map hnAV++[.int .u64 o]))).upd lv ob (.arr 1 0 [.ref lv ox (ver+1) 0 (out.length+1)]):=by
     unfold putKS
     rw [List.map_append,lL];rfl
    rw [hput] at hkey
    clear hput q1
    generalize st.upd lv mx (.map (hmAV (out++[o])))=st1 at *
    have hg3:=fun L=>get_old hA' (ro:=false) (L:=L) ka
    repeat' (first|refine ru_reg ?_|refine is_fadr rfl rfl ?_|refine is_ldc rfl rfl rfl rfl ?_|refine is_nil rfl ?_|refine rk_seq ?_|refine is_bslFO rfl rfl rfl rfl ?_|refine is_ld rfl (hg3 _) rfl rfl ?_)
    refine is_appP hA' hw1 kb (by rw [List.length_map];rfl) rfl rfl rfl (by simp;omega) (by decide) (fun A2 hA2=>?_)
    have q2:∀ l' i',(st1.upd lv ox (.arr 1 (ver+1) (out.map hnAV++[.int .u64 o]))).get l' i'=if l'=lv∧i'=ox then some (.arr 1 (ver+1) (out.map hnAV++[.int .u64 o])) else st1.get l' i':=fun l' i'=>St.get_upd kb rfl
    have kc:(st1.upd lv ox (.arr 1 (ver+1) (out.map hnAV++[.int .u64 o]))).get lv ob=some (.arr 1 0 [.ref lv ox ver 0 out.length]):=by rw [q2,if_neg (fun q=>hs.n3 q.2.symm)];exact ka
    have hw2:=St.wr_upd (b:=.arr 1 (ver+1) (out.map hnAV++[.int .u64 o])) (ix:=ox) hw1 hw1
    have hAl2:A'.length=A2.length:=by rw [hA',hA2];simp [St.upd_A]
    rw [hAl2] at hkey ⊢
    generalize st1.upd lv ox (.arr 1 (ver+1) (out.map hnAV++[.int .u64 o]))=st2 at *
    refine is_stP hA2 rfl rfl hw2 kc rfl (seal_refL _ (Nat.lt_succ_self _)) rfl (fun A3 hA3=>?_)
    have hAl3:A2.length=A3.length:=by rw [hA2,hA3];simp [St.upd_A]
    rw [hAl3] at hkey ⊢
    have hk:=hkey A3 (by rw [hA3];simp) (by simp) _ (.inl rfl)
    repeat' (first|exact hk|refine is_nil rfl ?_|refine rk_seq ?_)
theorem Kept_c {t:Tr} (hp:t.Pos) (hsz:t.siz<4294967296) (st:St):S Tb F_plan_Kept [t.av] st=some (.lit ((t.kwT []).map hnAV),st):=by
 refine s_of rfl (fun A hA=>?_)
 have hW:∀ L,L=[.arr 7 0 [t.av],.arr 1 0 [],.arr 1 0 [.ref A.length 1 0 0 0],.map [],.arr 1 0 [.map A.length 3],.arr 1 0 [.func (.func F_plan_KeptC1) [] [.ptr A.length 4 0 0 0,.ptr A.length 2 0 0 0,.ptr A.length 5 0 0 0]]] →
  Sp Tb F_plan_KeptC1 [t.av,.ptr A.length 4 0 0 0,.ptr A.length 2 0 0 0,.ptr A.length 5 0 0 0] ⟨A,false,L⟩ fun v st'=>v=.tup []∧∃ ver',st'=putKS ⟨A,false,L⟩ A.length 3 2 1 ver' (t.kwT []):=by
  rintro L rfl
  refine keptW_c t hp (ver:=0) (mb:=4) (mx:=3) (ob:=2) (ox:=1) (wb:=5) ⟨by simp [St.wr],by rw [St.get_cur];rfl,by rw [St.get_cur];rfl,by rw [St.get_cur];rfl,by rw [St.get_cur];rfl,by rw [St.get_cur];rfl,by decide,by decide,by decide,by decide,by decide⟩ (by simp;omega)
 repeat' (first|refine ru_seq ?_|refine ru_reg ?_|refine is_mv rfl ?_|refine is_ldc rfl rfl rfl rfl ?_|refine is_nil rfl ?_|refine rk_seq ?_|refine is_mkf rfl rfl ?_|refine is_box rfl rfl rfl ?_|refine is_boxnil rfl ?_|refine is_mkmap rfl ?_|refine is_ldc rfl rfl rfl (tr_part _) ?_|refine is_boxG rfl (tr_wide _) (tr_force _) ?_|refine is_stb rfl rfl rfl (seal_mapK _ (Nat.lt_succ_self _)) rfl rfl ?_|refine is_stb rfl rfl rfl (seal_fn3 _ (Nat.lt_succ_self _)) rfl rfl ?_)
 refine is_call rfl rfl (wk4 _ _ _ _ rfl rfl rfl) (hW _ rfl) ?_
 rintro v st' ⟨rfl,v2,rfl⟩
 have hpc:∀ b0 b1 b2 b3 b4 b5 w,putKS ⟨A,false,[b0,b1,b2,b3,b4,b5]⟩ A.length 3 2 1 v2 w=⟨A,false,[b0,.arr 1 v2 (w.map hnAV),.arr 1 0 [.ref A.length 1 v2 0 w.length],.map (hmAV w),b4,b5]⟩:=by
  intro b0 b1 b2 b3 b4 b5 w
  simp [putKS,St.upd]
 rw [hpc]
 generalize t.kwT []=w at *
 repeat' (first|refine ru_seq ?_|refine ru_reg ?_|refine is_mv rfl ?_|refine is_ldc rfl rfl rfl rfl ?_|refine is_nil rfl ?_|refine rk_seq ?_|refine ru_ret ?_|refine rk_nil ?_)
 refine end_ref (es:=w.map hnAV) hA (by first|exact .inl rfl|exact .inr rfl) rfl rfl (by simp) (by intro v hv;obtain ⟨x,_,rfl⟩:=List.mem_map.1 hv;rfl) ?_
 rfl
end Go.Q15
namespace Go.Q15
open Go Go.QAbs
set_option maxRecDepth 100000
set_option maxHeartbeats 8000000
def wrV (t:Tr) (r:AR):AR × Ro × List Nat:=if t.old=0∧t.h=0∧t.text=[] then (r,.zero,[]) else t.wr r
theorem wrV_val {N:Nodes} {t:Tr} (hv:Val N t) (r:AR):wrV t r=t.wr r:=by
 unfold wrV
 cases hv with
 | kept h0=>rw [if_neg];simp [Tr.old,h0]
 | leaf h1=>rw [if_neg];rintro ⟨_,_,q⟩;simp only [Tr.text] at q;rw [q] at h1;simp at h1
 | inner=>rw [if_neg];simp [Tr.h]
theorem wrV_empty {t:Tr} (h:IsEmpty t) (r:AR):wrV t r=(r,.zero,[]):=by
 unfold wrV;rw [if_pos ⟨h.old,h.h,h.text⟩]
theorem Val.not_empty {N:Nodes} {t:Tr} (hv:Val N t):¬ IsEmpty t:=fun h=>by
 have:=hv.pos.2
 have:=h.bytes
 omega
theorem PI.run {r:AR} (ho:AROk r) (hg:GoodN r.nodes) {t:Tr} (hv:VE r.nodes t) (hb:t.bytes≤65536) (hn:nw t≤r.n) {its:List It} {rx:Nat} {ρ:Nat→Ro} (h:PI t its rx ρ) :
 ∃ ρ',RunOk its r ρ (wrV t r).1 ρ' (wrV t r).2.2∧ρ' rx=(wrV t r).2.1:=by
 rcases h with ⟨h1,rfl,h2⟩|⟨⟨M,hM⟩,R,h1,h2,h3⟩
 ·rw [wrV_empty h1];exact ⟨ρ,.nil,h2⟩
 ·rcases hv with hv|hv
  ·exact absurd hv hM.not_empty
  ·rw [wrV_val hv]
   rw [nw_val hv] at hn
   obtain ⟨ρ',a1,a2,_⟩:=exec_ok hg hv hb r ho hg (.refl _) hn rx its R ρ h1 h2 h3
   exact ⟨ρ',a1,a2⟩
theorem begin_c {A:List (Bool × List Blk)} {L:List Blk} {la b:Nat} {r:AR} (hA:HasR ⟨A,false,L⟩ la b r) (hN:r.n≤r.blk.length) (h16:r.states.length≤16384) (h6:r.n<65536) {t:Tr} (hv:VE r.nodes t) (hb:t.bytes≤65536) (hn:nw t≤r.n) :
 ∃ L2 tx ver cs its F keys rx ρ,S Tb F_rope_Begin [.ptr la (b+5) 0 0 0,t.av] ⟨A,false,L⟩=some (.tup [.ptr A.length (L.length+1) 0 0 0,.int .i64 0],⟨A,false,L2⟩)∧Begun A L L2 la b t tx ver cs its F keys rx ρ:=by
 rcases hv with hv|hv
 ·exact begin_empty hA hN h16 h6 hv
 ·rw [nw_val hv] at hn
  exact begin_val (N:=r.nodes) hA hN h16 h6 hv hb hn
theorem seal_wr {A:List (Bool × List Blk)} {L:List Blk} {ix ver n:Nat} {l:List Nat} {ro:Ro} {e:Int} (hg:L[ix]?=some (.arr 1 ver (l.map hnAV))) (hn:n=l.length) :
 sealV deep A.length ⟨A,false,L⟩ (.tup [ro.av,.ref A.length ix ver 0 n,.int .i64 e])=some (.tup [ro.av,.lit (l.map hnAV),.int .i64 e],⟨A,false,L.set ix .dead⟩):=by
 subst hn
 have h1:=seal_refO (n:=4) (A:=A) (s:=0) (m:=l.length) hg (by simp) (es':=l.map hnAV) (by
  rw [List.drop_zero,List.take_of_length_le (by simp)]
  exact ints_seal (k:=.u64) (fun n:Nat=>(n:Int)) 3 0 _ l)
 show (mapSt (sealV 5 A.length) _ _).bind tupK=_
 have h2:sealV 5 A.length ⟨A,false,L⟩ ro.av=some (ro.av,⟨A,false,L⟩):=rfl
 simp only [mapSt,h2,oS,h1]
 rfl
theorem RunOk.len {its:List It} {r r':AR} {ρ ρ':Nat→Ro} {hs:List Nat} (h:RunOk its r ρ r' ρ' hs):hs.length=its.length:=by
 induction h with
 | nil=>rfl
 | cons hn hx hk h ih=>simp [ih]
theorem RunOk.inv {it:It} {its:List It} {r r':AR} {ρ ρ':Nat→Ro} {l:List Nat} (h:RunOk (it::its) r ρ r' ρ' l) :
 ∃ hs,l=r.next::hs∧0<r.n∧NdOk (ndOf ρ it.c)∧KidsIn r.nodes (ndOf ρ it.c)∧RunOk its (r.add (ndOf ρ it.c)) (rset ρ it.rx r.next) r' ρ' hs:=by
 cases h with
 | cons hn hx hk h=>exact ⟨_,rfl,hn,hx,hk,h⟩
theorem RunOk.nil_inv {r r':AR} {ρ ρ':Nat→Ro} {l:List Nat} (h:RunOk [] r ρ r' ρ' l):l=[]∧r'=r∧ρ'=ρ:=by
 cases h;exact ⟨rfl,rfl,rfl⟩
theorem step_cur {st:St} {la b:Nat} (hl:la≤st.A.length) (rj r2:AR) {n:Nat} (hn:n=st.A.length+1) (L:List Blk) (ip tx ver len rx k:Nat) (ro:Ro) (j:Nat) :
 stepSt ⟨(arSt st la b rj).ps,false,L⟩ n ip tx ver la b len rx r2 k ro j=⟨(arSt st la b r2).ps,false,(L.set k (.arr 5 0 [ro.av])).set ip (.arr 3 0 [.agg [.ptr la (b+5) 0 0 0,.ref n tx ver (j+1) (len-j-1),.ptr n rx 0 0 0]])⟩:=by
 have e1:arSt ⟨(arSt st la b rj).ps,false,L⟩ la b r2=⟨(arSt st la b r2).ps,false,L⟩:=by
  rw [arSt_push rfl (by rw [arSt_A];exact hl),arSt_arSt]
 have e2:((arSt st la b r2).ps).length=n:=by rw [hn];simp [arSt_A]
 rw [stepSt,e1]
 unfold St.upd
 simp only [e2,if_true]
theorem PenS.frm {A:List (Bool × List Blk)} {L L':List Blk} {n ip tx ver la b:Nat} {cls:List AV} {its:List It} {F:List (Nat × Blk)} {keys:List Nat} {rx:Nat} {ρ:Nat→Ro} {j:Nat} (h:PenS ⟨A,false,L⟩ n ip tx ver la b cls its F keys rx ρ j) (hn:n=A.length)
 (hg:∀ i,i=ip∨(cls≠[]∧i=tx)∨i∈keys∨(∃ p∈F,i=p.1)→L'[i]?=L[i]?):PenS ⟨A,false,L'⟩ n ip tx ver la b cls its F keys rx ρ j:=by
 subst hn
 obtain ⟨td,h1,h2⟩:=h.pen
 have hget:∀ i,(i=ip∨(cls≠[]∧i=tx)∨i∈keys∨(∃ p∈F,i=p.1))→St.get ⟨A,false,L'⟩ A.length i=St.get ⟨A,false,L⟩ A.length i:=fun i hi=>by rw [St.get_cur,St.get_cur,hg i hi]
 refine ⟨by simp [St.wr],⟨td,by rw [hget _ (.inl rfl)];exact h1,?_⟩,h.cl,fun p hp=>by rw [hget _ (.inr (.inr (.inr ⟨p,hp,rfl⟩)))];exact h.fx p hp,fun k hk=>by rw [hget _ (.inr (.inr (.inl hk)))];exact h.rts k hk,h.key,h.rk,h.s1,h.s2,h.s3,h.ar,h.len,h.jl⟩
 rcases h2 with q|⟨hc,q1,q2⟩
 ·exact .inl q
 ·exact .inr ⟨hc,q1,by rw [hget _ (.inr (.inl ⟨hc,rfl⟩))];exact q2⟩
theorem end_wr {e:Env} {A:List (Bool × List Blk)} {st:St} {L:List Blk} {x:Ex} {c4 c5 c6 j4 ix w4 v4 ver n:Nat} {l:List Nat} {ro:Ro} {z:Int} (hA:A=st.A++[(st.ro,st.L)]) (hx:x=.norm∨x=.ret) (h4:lookO e c4=some (.ptr A.length j4 v4 0 0)) (hg4:L[j4]?=some (.arr w4 v4 [ro.av]))
 (h5:lookO e c5=some (.ref A.length ix ver 0 n)) (hg5:L[ix]?=some (.arr 1 ver (l.map hnAV))) (hn:n=l.length) (h6:lookO e c6=some (.int .i64 z)):endK false [.c c4 true 5,.s c5,.s c6] (x,e,⟨A,false,L⟩)=some (.tup [ro.av,.lit (l.map hnAV),.int .i64 z],st):=by
 refine end_of (v:=.tup [ro.av,.ref A.length ix ver 0 n,.int .i64 z]) hA hx ?_ (seal_wr hg5 hn) rfl
 have h1:resV ⟨A,false,L⟩ e (.c c4 true 5)=some ro.av:=by
  simp only [resV,lookO_some h4,loadP,St.get_cur,hg4,vis,loadB,if_true,List.getElem?_cons_zero,oS]
  rfl
 simp only [result,resL,h1,oS]
 simp only [resV,lookO_some h5,lookO_some h6,oS,Option.map_some,tupOf]
theorem Write_c {st:St} {la b:Nat} {r:AR} (hA:Has st la b r) (ho:AROk r) (hg:GoodN r.nodes) {t:Tr} (hv:VE r.nodes t) (hb:t.bytes≤65536) (hn:nw t≤r.n) :
 S Tb F_rope_Write [.ptr la (b+5) 0 0 0,t.av] st=some (.tup [(wrV t r).2.1.av,.lit ((wrV t r).2.2.map hnAV),.int .i64 0],arSt st la b (wrV t r).1):=by
 refine s_ofW rfl (fun A hA'=>?_)
 obtain ⟨LB,hLB⟩:∃ LB:List Blk,LB=[.arr 7 0 [t.av],.arr 5 0 [Ro.zero.av],.arr 1 0 []]:=⟨_,rfl⟩
 have hle:=hA.le
 have hla:la<A.length:=by rw [hA'];simp;omega
 have h3:LB.length=3:=by rw [hLB];rfl
 obtain ⟨L2,tx,ver,cs,its,F,keys,rx,ρ,hS,hB⟩:=begin_c (L:=LB) (hA.push hA').r ho.nb ho.n16 (by have:=ho.nn;have:=ho.n16;omega) hv hb hn
 obtain ⟨ρ',hrun,hro⟩:=hB.pi.run ho hg hv hb hn
 generalize (wrV t r).1=r' at *
 generalize (wrV t r).2.2=hs at *
 generalize (wrV t r).2.1=ro at *
 have hcl:=hB.ps.cl.len
 have hk5:∀ k∈keys,5≤k:=fun k hk=>by have:=hB.klo k hk;omega
 have g1:L2[1]?=some (.arr 5 0 [Ro.zero.av]):=by rw [hB.old 1 (by omega),hLB];rfl
 have g2:L2[2]?=some (.arr 1 0 (([]:List Nat).map hnAV)):=by rw [hB.old 2 (by omega),hLB];rfl
 have hps:=hB.ps
 rw [h3] at hS hps
 rw [hLB] at hS
 repeat' (first|refine ru_seq ?_|refine ru_reg ?_|refine is_mv rfl ?_|refine is_ext rfl rfl ?_|refine is_nil rfl ?_|refine rk_seq ?_|(refine is_neq rfl rfl (fun _=>?_) (fun _=>?_)<;>try (exfalso;omega))|refine ru_iteF rfl ?_|refine is_box rfl rfl rfl ?_|refine is_onil rfl ?_|refine is_ldc rfl rfl rfl (tr_part _) ?_|refine is_boxG rfl (tr_wide _) (tr_force _) ?_|refine is_callE rfl rfl (by first|rfl|(simp only [lE,lN,lC,weaks,tr_weak,forceL];first|done|rfl)) (hS) ?_|refine ru_skip ?_|refine ru_block ?_)
 all_goals try contradiction
 have hAn:A.length=st.A.length+1:=by rw [hA'];simp
 have hhl:=hrun.len
 refine ru_loopP (α:=Bool × Nat × AR × (Nat→Ro) × List Blk) (fun p=>match p.1 with
  | true=>[(4,.ptr A.length 1 0 0 0),(5,.ref A.length 2 p.2.1 0 p.2.1),(6,.int .i64 0),(7,.ptr A.length 4 0 0 0),(18,.bool false)]
  | false=>[(4,.ptr A.length 1 0 0 0),(5,.ref A.length 2 p.2.1 0 p.2.1),(7,.ptr A.length 4 0 0 0)])
  (fun p=>⟨(arSt st la b p.2.2.1).ps,false,p.2.2.2.2⟩)
  (fun p=>PenS ⟨(arSt st la b p.2.2.1).ps,false,p.2.2.2.2⟩ A.length 4 tx ver la b cs its F keys rx p.2.2.2.1 p.2.1∧AROk p.2.2.1∧RunOk (its.drop p.2.1) p.2.2.1 p.2.2.2.1 r' ρ' (hs.drop p.2.1)∧p.2.1≤its.length∧p.2.2.2.2[1]?=some (.arr 5 0 [Ro.zero.av])∧p.2.2.2.2[2]?=some (.arr 1 p.2.1 ((hs.take p.2.1).map hnAV)))
  (fun p=>its.length-p.2.1) (true,0,r,ρ,L2) rfl ?_ ?_ ?_
 ·simp only [hA.same,← hA']
 ·simp only [hA.same,← hA']
  exact ⟨hps,ho,hrun,Nat.zero_le _,g1,g2⟩
 rintro ⟨fst,j,rj,ρj,Lj⟩ ⟨q1,q2,q3,q4,q5,q6⟩
 simp only at q1 q2 q3 q4 q5 q6
 have hHj:Has ⟨(arSt st la b rj).ps,false,Lj⟩ la b rj:=(hA.put rj).push rfl
 obtain ⟨td,t1,t2⟩:=q1.pen
 have hAl:A.length=(arSt st la b rj).ps.length:=by rw [hAn];simp [arSt_A]
 rcases Nat.lt_or_ge j its.length with hlt|hge
 ·obtain ⟨it,hit⟩:∃ it,its[j]?=some it:=⟨its[j]'hlt,by simp [hlt]⟩
  have hd:its.drop j=it::its.drop (j+1):=by
   rw [List.drop_eq_getElem_cons hlt]
   rw [List.getElem?_eq_getElem hlt] at hit
   rw [Option.some.inj hit]
  rw [hd] at q3
  obtain ⟨hs2,e1,hn1,hx1,hk1,hr1⟩:=q3.inv
  have hdj:hs[j]?=some rj.next:=by
   have:=List.getElem?_drop (xs:=hs) (i:=j) (j:=0)
   rw [e1] at this
   simpa using this.symm
  have hd2:hs.drop (j+1)=hs2:=by
   rw [← List.drop_drop,e1];rfl
  obtain ⟨p1,p2,p3⟩:=q1.step hHj q2 hn1 hit hx1 hk1
  rw [step_cur hle rj _ hAn] at p1 p2
  have hjc:j<cs.length:=by rw [hcl];exact hlt
  have hne:cs≠[]:=fun q=>by rw [q] at hjc;simp at hjc
  rcases t2 with ⟨w,_⟩|⟨_,rfl,t3⟩
  ·exact absurd w hne
  obtain ⟨k1,_⟩:=q1.key it (List.mem_of_getElem? hit)
  have hk5':=hk5 _ k1
  have hl4:Lj[4]?=some (.arr 3 0 [.agg [.ptr la (b+5) 0 0 0,.ref A.length tx ver j (cs.length-j),.ptr A.length rx 0 0 0]]):=by
   rw [hAl] at t1
   rw [St.get_cur] at t1
   rw [hAl]
   exact (vis_noH t1).1
  obtain ⟨r2,hr2⟩:∃ r2,r2=rj.add (ndOf ρj it.c):=⟨_,rfl⟩
  rw [← hr2] at p1 p2 hr1
  have ho2:AROk r2:=by rw [hr2];exact q2.add hn1 _
  have hAl2:A.length=(arSt st la b r2).ps.length:=by rw [hAn];simp [arSt_A]
  obtain ⟨L3,hL3⟩:∃ L3,L3=(Lj.set it.rx (.arr 5 0 [((ρj it.rx).wr rj.next).av])).set 4 (.arr 3 0 [.agg [.ptr la (b+5) 0 0 0,.ref A.length tx ver (j+1) (cs.length-j-1),.ptr A.length rx 0 0 0]]):=⟨_,rfl⟩
  rw [← hL3] at p1 p2
  have h31:L3[1]?=some (.arr 5 0 [Ro.zero.av]):=by rw [hL3,List.getElem?_set_ne (by omega),List.getElem?_set_ne (by omega)];exact q5
  have h32:L3[2]?=some (.arr 1 j ((hs.take j).map hnAV)):=by rw [hL3,List.getElem?_set_ne (by omega),List.getElem?_set_ne (by omega)];exact q6
  have hj2:j=((hs.take j).map hnAV).length:=by simp;omega
  have hj3:∀ x:AV,((hs.take j).map hnAV).length+[x].length<4294967296:=fun x=>by have:=q1.len;simp;omega
  have hinv:∀ L4,L4=L3.set 2 (.arr 1 (j+1) ((hs.take j).map hnAV++[.int .u64 rj.next]))→PenS ⟨(arSt st la b r2).ps,false,L4⟩ A.length 4 tx ver la b cs its F keys rx (rset ρj it.rx rj.next) (j+1)∧AROk r2∧RunOk (its.drop (j+1)) r2 (rset ρj it.rx rj.next) r' ρ' (hs.drop (j+1))∧j+1≤its.length∧L4[1]?=some (.arr 5 0 [Ro.zero.av])∧L4[2]?=some (.arr 1 (j+1) ((hs.take (j+1)).map hnAV)):=by
   rintro L4 rfl
   refine ⟨?_,ho2,by rw [hd2];exact hr1,hlt,by rw [List.getElem?_set_ne (by omega)];exact h31,?_⟩
   ·refine p2.frm hAl2 (fun i hi=>List.getElem?_set_ne ?_)
    rcases hi with rfl|⟨hc,rfl⟩|q|⟨p,hp,rfl⟩
    ·omega
    ·have:=hB.tlo hc;omega
    ·have:=hk5 i q;omega
    ·have:=hB.flo p hp;omega
   ·rw [List.getElem?_set_self (List.getElem?_eq_some_iff.1 h32).1,take_succ_get hdj,List.map_append];rfl
  obtain ⟨A2,hA2⟩:∃ A2,A2=(arSt st la b r2).ps:=⟨_,rfl⟩
  obtain ⟨A1,hA1⟩:∃ A1,A1=(arSt st la b rj).ps:=⟨_,rfl⟩
  rw [← hA1] at p1 hAl ⊢
  rw [← hA2] at p1 hAl2
  have hA12:A1.length=A2.length:=hAl.symm.trans hAl2
  rw [hAl] at hl4 p1 hinv ⊢
  cases fst
  all_goals simp only
  all_goals repeat' (first|refine is_callE rfl rfl rfl p1 ?_|refine ru_seq ?_|refine ru_reg ?_|refine is_mv rfl ?_|refine is_fadr rfl rfl ?_|refine is_ext rfl rfl ?_|refine is_nil rfl ?_|refine rk_seq ?_|refine is_nilck rfl rfl ?_|refine is_lenR rfl ?_|(refine is_gtr rfl rfl (fun _=>?_) (fun _=>?_)<;>try (exfalso;omega))|(refine is_neq rfl rfl (fun _=>?_) (fun _=>?_)<;>try (exfalso;omega))|refine ru_iteT rfl ?_|refine ru_iteF rfl ?_|refine is_bslFO rfl rfl rfl rfl ?_|refine is_ldc rfl hl4 rfl rfl ?_|refine ru_skip ?_|refine ru_block ?_)
  all_goals try contradiction
  all_goals try (exfalso;omega)
  all_goals rw [hA12]
  all_goals repeat' (first|refine is_appG rfl rfl h32 hj2 rfl rfl (hj3 _) (by decide) ?_|refine is_mv rfl ?_|refine is_nil rfl ?_|refine rk_blk ?_|refine rk_inv ?_)
  all_goals rw [hA12,hA2] at hinv
  all_goals rw [hA2]
  all_goals exact ⟨(false,j+1,r2,rset ρj it.rx rj.next,_),⟨rfl,rfl⟩,hinv _ rfl,by simp only;omega⟩
 ·obtain rfl:j=its.length:=by omega
  rw [List.drop_length,← hhl,List.drop_length] at q3
  obtain ⟨_,rfl,rfl⟩:=q3.nil_inv
  rw [← hhl,List.take_length] at q6
  have hRt:=Root_c q1 hcl.symm
  rw [hro] at hRt
  obtain ⟨A1,hA1⟩:∃ A1,A1=(arSt st la b r').ps:=⟨_,rfl⟩
  rw [← hA1] at hRt hAl ⊢
  have hl4:∃ w,Lj[4]?=some (.arr 3 0 [.agg [.ptr la (b+5) 0 0 0,td,w]])∧(td=.nils∨∃ v,td=.ref A.length tx v its.length 0):=by
   rw [hAl,hA1,St.get_cur] at t1
   refine ⟨_,(vis_noH t1).1,?_⟩
   rcases t2 with ⟨_,w⟩|⟨_,w,_⟩
   ·exact .inl w
   ·refine .inr ⟨ver,?_⟩
    rw [w,hcl,Nat.sub_self]
  obtain ⟨w4,hl4,htd⟩:=hl4
  rw [← hhl] at *
  have hl1:=(List.getElem?_eq_some_iff.1 q5).1
  rw [hAl] at hRt htd ⊢
  rcases htd with rfl|⟨v,rfl⟩
  all_goals cases fst
  all_goals simp only
  all_goals repeat' (first|refine is_callE rfl rfl rfl hRt ?_|refine ru_seq ?_|refine ru_reg ?_|refine is_mv rfl ?_|refine is_fadr rfl rfl ?_|refine is_ext rfl rfl ?_|refine is_nil rfl ?_|refine rk_seq ?_|refine is_nilck rfl rfl ?_|refine is_lenR rfl ?_|refine is_lenN rfl ?_|(refine is_gtr rfl rfl (fun _=>?_) (fun _=>?_)<;>try (exfalso;omega))|refine ru_iteF rfl ?_|refine is_ldc rfl hl4 rfl rfl ?_|refine ru_exit ?_|refine rk_seq_ex ?_|refine rk_blk_eq rfl ?_|refine rk_inv_ex ?_)
  all_goals try (exfalso;omega)
  all_goals refine is_stn q5 rfl rfl rfl rfl rfl ?_
  all_goals repeat' (first|refine ru_seq ?_|refine ru_reg ?_|refine is_mv rfl ?_|refine is_nil rfl ?_|refine rk_seq ?_|refine is_ldc rfl (List.getElem?_set_self hl1) rfl rfl ?_)
  all_goals refine is_stn (List.getElem?_set_self hl1) rfl rfl rfl rfl rfl ?_
  all_goals rw [List.set_set]
  all_goals repeat' (first|refine is_mv rfl ?_|refine is_nil rfl ?_|refine rk_seq ?_|refine ru_ret ?_|refine rk_nil ?_)
  all_goals exact end_wr (ro:=ro) hA1 (.inr rfl) rfl (List.getElem?_set_self hl1) rfl ((List.getElem?_set_ne (by omega)).trans q6) (by simp) rfl
end Go.Q15
namespace Go.QAbs
end Go.QAbs
namespace Go.QAbs
end Go.QAbs
namespace Go.QAbs
end Go.QAbs
namespace Go.QAbs
def TLe (T T':Tab):Prop:=∀ f x,T f=some x→T' f=some x
theorem callN_tab {T T':Tab} (h:TLe T T'):∀ n,Le (callN T n) (callN T' n)
 | 0=>fun _ _ _ _ q=>by simp [callN] at q
 | n+1=>fun f _ _ _ q=>bind_mono (fun x q=>h f x q) (fun x _ q=>by
  cases x with
  | pf pf=>exact callBody_mono (callN_tab h n) (itN_le (Nat.le_refl n)) q
  | base o=>exact q) q
theorem S_tab {T T':Tab} (h:TLe T T'):Le (S T) (S T'):=fun f a st r q=>by
 obtain ⟨n,hn⟩:=S_iff.1 q
 exact S_iff.2 ⟨n,callN_tab h n _ _ _ _ hn⟩
end Go.QAbs
namespace Go.QAbs
theorem pop_ps:∀ (A:List (Bool × List Blk)) (r:Bool × List Blk),pop (A++[r])=some (A,r)
 | [],r=>rfl
 | [a],r=>rfl
 | a::b::A,r=>by
  have:=pop_ps (b::A) r
  rw [lC,lC,pop]
  rw [lC] at this
  rw [this];rfl
theorem leave_ps (v:AV) (st:St) (ro:Bool) (L:List Blk):leaveK (v,⟨st.ps,ro,L⟩)=some (v,st):=by
 simp only [leaveK,pop_ps,oS,popK]
section
variable {k:List Fr} {Q:Post} {e:Env} {st:St} {keep:List Nat} {is:List PI} {d:Nat} {T:Tab}
theorem is_callY {st':St} {f:Opd} {args:List Opd} {lv:Nat} {cs vs ws:List AV} {v:AV} (hf:opdO e f=some (.func (.yield lv) [] cs)) (ha:getsO e args=some vs) (hw:weaks (vs++cs)=ws) (hc:S T (yB+lv) ws st=some (v,st'))
 (h:Is (S T) is keep k Q ((d,v)::e) st'):Is (S T) (⟨some d,none,false,.call .norm f args⟩::is) keep k Q e st:=by
 refine is_of (od:=some d) (v:=v) (st':=st') ?_ h
 simp only [evalPI,opdO_some hf,getsO_some ha,callV,callM,hw,hc]
theorem round_of {nt:Nat} {rg:Rng} {args:List AV} {st':St} (hl:args.length=rg.ps.length+nt)
 (h:∀ A,A=st.ps→Ru (S T) rg.assign [] (fun x e s=>x=.norm∧Ru (S T) rg.body [] (fun x e s=>x=.norm∧s.A=st'.ps) e s) (setPs rg.ps args (initEnv 0 (args.drop rg.ps.length))) ⟨A,false,[]⟩):roundG (S T) itS nt rg args st=some (.bool true,st'):=by
 obtain ⟨x,e1,s1,h1,h2⟩:=(h _ rfl).h
 obtain ⟨rfl,⟨x,e2,s2,h3,h4⟩⟩:=h2
 obtain ⟨rfl,h5⟩:=h4
 unfold roundG
 rw [if_pos hl]
 have:st.push=⟨st.ps,false,[]⟩:=rfl
 rw [this,h1,oS]
 simp only [roundK,h3,oS,endRK]
 obtain ⟨A,ro,L⟩:=s2
 simp only at h5
 subst h5
 exact leave_ps _ _ _ _
theorem rng_of {OT:Nat→Orc} {nt:Nat} {rg:Rng} {g:FuncId} {first cap:List AV} {v:AV} {ro:Bool} {L:List Blk} {st2:St} (hg:opdO e rg.g=some (.func (.func g) first cap)) (hy:g<yB)
 (hc:OT (st.A.length+1) g (weaks (first++[.func (.yield (st.A.length+1)) [] (capsE nt e)]++cap)) ⟨st.ps,false,[]⟩=some (v,⟨st2.ps,ro,L⟩)):rngG OT nt rg e st=some (.norm,e,st2):=by
 unfold rngG
 rw [opdO_some hg]
 simp only [if_pos hy]
 have:st.push=⟨st.ps,false,[]⟩:=rfl
 rw [this,hc,oS,rngK,leave_ps,oS]
theorem s_rf {T0:Tab} {f:FuncId} {rf:RF} {args:List AV} {r:AV × St} (hT:T f=some (.base (rfO T0 rf)))
 (h:∀ A,A=st.ps→Ru (S T0) rf.pre [] (fun x e s=>(x=.ret∧endK false rf.res (.ret,e,s)=some r)∨(x=.norm∧∃ s2,rngG (fun lv=>S (tabY T0 lv (roundG (S T0) itS rf.nt rf.rng))) rf.nt rf.rng e s=some (.norm,e,s2)∧Ru (S T0) rf.post [] (fun x e s=>endK false rf.res (x,e,s)=some r) e s2)) (initEnv 0 args) ⟨A,false,[]⟩):S T f args st=some r:=by
 refine S_base (o:=rfO T0 rf) hT ?_
 obtain ⟨x,e1,s1,h1,h2⟩:=(h _ rfl).h
 unfold rfO rfG execR
 have:st.push=⟨st.ps,false,[]⟩:=rfl
 rw [this,h1,oS]
 rcases h2 with ⟨rfl,h3⟩|⟨rfl,s2,h3,⟨x,e3,s3,h5,h6⟩⟩
 ·simp only [seqK,oS];exact h3
 ·simp only [seqK,h3,oS,h5];exact h6
end
theorem tabY_le {T:Tab} (hT:∀ f x,T f=some x→f<yB) (lv:Nat) (o:List AV→St→Option (AV × St)):TLe T (tabY T lv o):=fun f x hx=>by
 unfold tabY
 rw [if_neg]
 ·exact hx
 ·intro q;exact yB_abs (hT f x hx) q
theorem tabY_at (T:Tab) (lv:Nat) (o:List AV→St→Option (AV × St)) (args:List AV) (st:St) {r:AV × St} (h:o args st=some r):S (tabY T lv o) (yB+lv) args st=some r :=
 S_base (o:=o) (by unfold tabY;rw [if_pos rfl]) h
end Go.QAbs
namespace Go.Q15
open Go Go.QAbs
set_option maxRecDepth 100000
set_option maxHeartbeats 8000000
def ndAt (N:Nodes) (o:Nat):Nd:=(lk N o).getD ⟨0,[],none⟩
theorem ndAt_of {N:Nodes} {o:Nat} {x:Nd} (h:lk N o=some x):ndAt N o=x:=by unfold ndAt;rw [h];rfl
def preH (N:Nodes):Nat→Nat→List Nat
 | 0,o=>[o]
 | n+1,o=>o::(ndAt N o).ks.flatMap fun k=>preH N n k.at_
def visV (x:Nd):AV:=.agg [.int .i64 x.h,.str x.text,.lit (x.ks.map Kid.av),.int .i64 0]
theorem get_more {s:St} {l i:Nat} {b:Blk} (h:s.get l i=some b) (more:List (Bool × List Blk)) (ro:Bool) (L:List Blk):St.get ⟨s.ps++more,ro,L⟩ l i=some b:=by
 have hl:=St.get_le h
 have h1:=get_old (A:=s.ps) rfl (ro:=ro) (L:=L) h
 unfold St.get at h1 ⊢
 have e1:l≠s.ps.length:=by simp;omega
 have e2:l≠(s.ps++more).length:=by simp;omega
 simp only [if_neg e1,if_neg e2] at h1 ⊢
 rw [List.getElem?_append_left (by simp;omega)]
 exact h1
theorem Rd.more {s:St} {lv ix:Nat} {N:Nodes} (h:Rd s lv ix N) (more:List (Bool × List Blk)) (ro:Bool) (L:List Blk):Rd ⟨s.ps++more,ro,L⟩ lv ix N:=by
 obtain ⟨a0,a1,im,a3,a4,a5,h1,h2⟩:=h
 exact ⟨a0,a1,im,a3,a4,a5,get_more h1 _ _ _,get_more h2 _ _ _⟩
theorem preH_eq {N:Nodes} {h:Nat} {x:Nd} (hx:lk N h=some x) (hok:NdOk x) {n:Nat} (hh:x.h=n):preH N n h=h::x.ks.flatMap fun k=>preH N (n-1) k.at_:=by
 cases n with
 | zero =>
  have:x.ks=[]:=by
   rcases hok with q|⟨m,ks,q⟩
   ·exact q.ks
   ·have:=congrArg Nd.h q.eq;simp only at this;omega
  rw [this];rfl
 | succ n=>rw [preH,ndAt_of hx];rfl
theorem preH_len {N:Nodes} (hN:GoodN N):∀ (n h:Nat) (x:Nd),lk N h=some x→x.h=n→3*(preH N n h).length+1≤4 ^ (n+1):=by
 intro n
 induction n with
 | zero=>intro h x hx hh;simp [preH]
 | succ n ih =>
  intro h x hx hh
  obtain ⟨hok,hk⟩:=hN h x hx
  rw [preH,ndAt_of hx,List.length_cons]
  have h6:4 ^ (n+1+1)=4*4 ^ (n+1):=by rw [Nat.pow_succ,Nat.mul_comm]
  rw [h6]
  clear h6
  have hP1:1≤4 ^ (n+1):=Nat.pow_pos (by decide)
  generalize 4 ^ (n+1)=P at *
  have key:∀ l:List Kid,(∀ k∈l,k∈x.ks)→3*(l.flatMap fun k=>preH N n k.at_).length+l.length≤l.length*P:=by
   intro l
   induction l with
   | nil=>intro _;simp
   | cons k l ih2 =>
    intro hm
    obtain ⟨_,y,y1,y2,_⟩:=hk k (hm k (by simp))
    have h1:=ih k.at_ y y1 (by omega)
    have h2:=ih2 fun q hq=>hm q (by simp [hq])
    rw [List.flatMap_cons,lL,List.length_cons,Nat.add_mul,Nat.one_mul]
    omega
  have h1:=key x.ks fun _ h=>h
  have h4:=hok.len
  have h5:x.ks.length*P≤4*P:=Nat.mul_le_mul_right _ h4
  rcases hok with q|⟨m,ks,q⟩
  ·have:=q.h;omega
  ·have e:=q.eq
   have h7:=q.lo
   subst e
   simp only [Nd.ks,Option.getD_some] at h1 h4 h5 ⊢
   have h8:(4-ks.length)*1≤(4-ks.length)*P:=Nat.mul_le_mul_left _ hP1
   have h9:ks.length*P+(4-ks.length)*P=4*P:=by rw [← Nat.add_mul];congr 1;omega
   omega
structure NW (σ:List Nat→St) (lv:Nat) (caps:List AV) (la b:Nat) (more:List (Bool × List Blk)) (ro:Bool) (L:List Blk) (l1 i1 l2 i2 l3 i3:Nat):Prop where
 a:∀ v,St.get ⟨(σ v).ps++more,ro,L⟩ l1 i1=some (.arr 1 0 [.ptr la (b+5) 0 0 0])
 y:∀ v,St.get ⟨(σ v).ps++more,ro,L⟩ l2 i2=some (.arr 1 0 [.func (.yield lv) [] caps])
 w:∀ v,St.get ⟨(σ v).ps++more,ro,L⟩ l3 i3=some (.arr 1 0 [.func (.func F_rope_nodesC1C1) [] [.ptr l1 i1 0 0 0,.ptr l2 i2 0 0 0,.ptr l3 i3 0 0 0]])
theorem NW.push {σ:List Nat→St} {lv:Nat} {caps:List AV} {la b:Nat} {more:List (Bool × List Blk)} {ro:Bool} {L:List Blk} {l1 i1 l2 i2 l3 i3:Nat} (h:NW σ lv caps la b more ro L l1 i1 l2 i2 l3 i3) (L':List Blk):NW σ lv caps la b (more++[(ro,L)]) false L' l1 i1 l2 i2 l3 i3 :=
 ⟨fun v=>get_old (st:=⟨(σ v).ps++more,ro,L⟩) (by rw [← List.append_assoc]) (h.a v),fun v=>get_old (st:=⟨(σ v).ps++more,ro,L⟩) (by rw [← List.append_assoc]) (h.y v),fun v=>get_old (st:=⟨(σ v).ps++more,ro,L⟩) (by rw [← List.append_assoc]) (h.w v)⟩
theorem nodesW {TY:Tab} (hT:TLe Tb TY) {σ:List Nat→St} {N:Nodes} (hN:GoodN N) {la b lv:Nat} {caps:List AV} (hcw:weaks caps=caps) (hRd:∀ v,Rd (σ v) la (b+5) N) (hlen:∀ v,(σ v).A.length=(σ []).A.length)
 {B:Nat} (hy:∀ v h x more ro L,v.length<B→lk N h=some x→S TY (yB+lv) (.int .u64 (h:Nat)::visV x::caps) ⟨(σ v).ps++more,ro,L⟩=some (.bool true,⟨(σ (v++[h])).ps++more,ro,L⟩)) :
 ∀ n h x,lk N h=some x→x.h=n→∀ v more ro L l1 i1 l2 i2 l3 i3,v.length+(preH N n h).length≤B→NW σ lv caps la b more ro L l1 i1 l2 i2 l3 i3 →
  S TY F_rope_nodesC1C1 [.int .u64 (h:Nat),.ptr l1 i1 0 0 0,.ptr l2 i2 0 0 0,.ptr l3 i3 0 0 0] ⟨(σ v).ps++more,ro,L⟩=some (.bool true,⟨(σ (v++preH N n h)).ps++more,ro,L⟩):=by
 intro n
 induction n using Nat.strongRecOn with
 | ind n ih =>
  intro h x hx hh v more ro L l1 i1 l2 i2 l3 i3 hB hw
  have hok:=(hN h x hx).1
  rw [preH_eq hx hok hh,List.length_cons] at hB
  have hkids:=(hN h x hx).2
  have hk4:=hok.len
  refine s_ofW (hT _ _ rfl) (fun A hA=>?_)
  have hA2:A=(σ v).ps++(more++[(ro,L)]):=by rw [hA,List.append_assoc]
  clear hA
  subst hA2
  have hw2:=fun L'=>hw.push L'
  have hG:∀ v' L',S TY F_arena_Arena_Get [.ptr la (b+5) 0 0 0,.int .u64 h] ⟨(σ v').ps++(more++[(ro,L)]),false,L'⟩=some (.tup [.agg [.int .i64 x.h,.str x.text,.lit (x.ks.map Kid.av)],.int .i64 0],⟨(σ v').ps++(more++[(ro,L)]),false,L'⟩):=fun v' L'=>S_tab hT _ _ _ _ (Get_c ((hRd v').more _ _ _) hx hk4)
  have hY:=fun L'=>hy v h x (more++[(ro,L)]) false L' (by omega) hx
  unfold visV at hY
  have hwk:weaks ([AV.int .u64 h,.agg [.int .i64 x.h,.str x.text,.lit (x.ks.map Kid.av),.int .i64 0]]++caps)=.int .u64 h::.agg [.int .i64 x.h,.str x.text,.lit (x.ks.map Kid.av),.int .i64 0]::caps:=by
   simp only [lC,lE,weaks,weak,hcw]
  repeat' (first|refine is_callY rfl rfl hwk (hY _) ?_|refine ru_seq ?_|refine ru_reg ?_|refine is_mv rfl ?_|refine is_fadr rfl rfl ?_|refine is_ldc rfl rfl rfl rfl ?_|refine is_gT rfl ?_|refine is_pick rfl rfl rfl rfl ?_|refine is_ext rfl rfl ?_|refine is_nil rfl ?_|refine rk_seq ?_|(refine is_neq rfl rfl (fun _=>?_) (fun _=>?_)<;>try (exfalso;omega))|refine ru_iteF rfl ?_|refine is_not rfl rfl ?_|refine is_buildO rfl rfl rfl ?_|refine is_box rfl rfl rfl ?_|refine is_stb rfl rfl rfl rfl rfl rfl ?_|refine is_ld rfl ((hw2 _).a v) rfl rfl ?_|refine is_ld rfl ((hw2 _).y v) rfl rfl ?_|refine is_callE rfl rfl rfl (hG _ _) ?_|refine ru_skip ?_)
  all_goals try contradiction
  have hl2:∀ v v',((σ v).ps++(more++[(ro,L)])).length=((σ v').ps++(more++[(ro,L)])).length:=fun v v'=>by
   simp only [lL];rw [hlen v,hlen v'];rfl
  rw [hl2 v (v++[h])]
  rw [preH_eq hx hok hh]
  repeat' (first|refine is_mv rfl ?_|refine is_ldc rfl rfl rfl rfl ?_|refine is_nil rfl ?_|refine rk_seq ?_|refine is_lenM rfl ?_|refine ru_block ?_)
  refine ru_loopP (α:=Nat × List Blk) (fun p=>[(3,.ptr l3 i3 0 0 0),(28,.lit (x.ks.map Kid.av)),(29,.int .i64 x.ks.length),(30,.int .i64 p.1)])
   (fun p=>⟨(σ (v++h::(x.ks.take p.1).flatMap fun k=>preH N (n-1) k.at_)).ps++(more++[(ro,L)]),false,.arr 3 0 [.agg [.int .i64 x.h,.str x.text,.lit (x.ks.map Kid.av)]]::p.2⟩) (fun p=>p.1≤x.ks.length) (fun p=>x.ks.length-p.1) (0,[]) rfl rfl (Nat.zero_le _) ?_
  rintro ⟨i,G⟩ hi
  simp only at hi ⊢
  rcases Nat.lt_or_ge i x.ks.length with hlt|hge
  ·obtain ⟨kd,hk'⟩:∃ k,x.ks[i]?=some k:=⟨x.ks[i]'(by omega),by simp [hlt]⟩
   obtain ⟨_,y,y1,y2,y3⟩:=hkids kd (List.mem_of_getElem? hk')
   have hk1:0≤((i:Nat):Int)∧x.ks[((i:Nat):Int).toNat]?=some kd:=⟨by omega,by rw [show ((i:Nat):Int).toNat=i by omega];exact hk'⟩
   have ihk:=fun v' L' hb=>ih y.h (by omega) kd.at_ y y1 rfl v' _ _ L' l1 i1 l2 i2 l3 i3 hb (hw2 L')
   have hfin:(v++h::(x.ks.take i).flatMap fun k=>preH N (n-1) k.at_)++preH N y.h kd.at_=v++h::(x.ks.take (i+1)).flatMap fun k=>preH N (n-1) k.at_:=by
    rw [take_succ_get hk',List.flatMap_append,List.append_assoc,show n-1=y.h by omega]
    simp
   obtain ⟨v1,hv1⟩:∃ v1,v1=v++h::(x.ks.take i).flatMap fun k=>preH N (n-1) k.at_:=⟨_,rfl⟩
   rw [← hv1] at hfin ⊢
   have hb1:v1.length+(preH N y.h kd.at_).length≤B:=by
    rw [← lL,hfin,lL,List.length_cons]
    have h1:(x.ks.flatMap fun k=>preH N (n-1) k.at_)=(x.ks.take (i+1)).flatMap (fun k=>preH N (n-1) k.at_)++(x.ks.drop (i+1)).flatMap (fun k=>preH N (n-1) k.at_):=by
     rw [← List.flatMap_append,List.take_append_drop]
    have h2:=congrArg List.length h1
    rw [lL] at h2
    omega
   repeat' (first|refine is_ixKn rfl rfl hk1 (fun _=>rfl) ?_|refine is_callE rfl rfl rfl (ihk v1 _ hb1) ?_|refine ru_seq ?_|refine ru_reg ?_|refine is_mv rfl ?_|refine is_fadr rfl rfl ?_|refine is_nil rfl ?_|refine rk_seq ?_|refine is_ldT rfl rfl rfl ?_|refine is_ldl rfl rfl ?_|(refine is_lss rfl rfl (fun _=>?_) (fun _=>?_)<;>try (exfalso;omega))|refine ru_iteT rfl ?_|refine ru_iteF rfl ?_|refine is_not rfl rfl ?_|refine is_addS rfl rfl (by omega) ?_|refine is_boxG rfl rfl rfl ?_|refine is_stT rfl rfl rfl rfl rfl rfl ?_|refine is_ld rfl ((hw2 _).w v1) rfl rfl ?_|refine ru_skip ?_|refine ru_block ?_|refine rk_blk ?_|refine rk_inv ?_)
   refine ⟨(i+1,G++[Blk.arr 4 0 [kd.av]]),⟨rfl,?_⟩,by simp only;omega,by simp only;omega⟩
   rw [hfin]
   rfl
  ·obtain rfl:i=x.ks.length:=by omega
   rw [List.take_length]
   repeat' (first|refine ru_seq ?_|refine ru_reg ?_|refine is_mv rfl ?_|refine is_nil rfl ?_|refine rk_seq ?_|(refine is_lss rfl rfl (fun _=>?_) (fun _=>?_)<;>try (exfalso;omega))|refine ru_iteF rfl ?_|refine ru_ret ?_|refine ru_exit ?_|refine rk_nil ?_|refine rk_seq_ex ?_|refine rk_blk_eq rfl ?_|refine rk_inv_ex ?_)
   all_goals try (exfalso;omega)
   refine end_st (st:=⟨(σ _).ps++more,ro,L⟩) (by rw [← List.append_assoc]) (.inr rfl) rfl rfl rfl rfl ?_
   rfl
end Go.Q15
namespace Go.Q15
open Go Go.QAbs
set_option maxRecDepth 100000
set_option maxHeartbeats 8000000
theorem lookT_small:∀ {l:List (FuncId × Ent)},(l.all fun p=>decide (p.1<yB))=true→∀ f x,lookT l f=some x→f<yB
 | [],_,f,x,h=>by simp [lookT] at h
 | p::l,ha,f,x,h=>by
  simp only [List.all_cons,Bool.and_eq_true,decide_eq_true_eq] at ha
  simp only [lookT] at h
  split at h
  ·rename_i e;rw [← e];exact ha.1
  ·exact lookT_small ha.2 f x h
theorem Tb_small:∀ f x,Tb f=some x→f<yB:=lookT_small (l:=tl) (by decide +kernel)
def RtOk (N:Nodes) (r:Ro):Prop:=r=.zero∨(r.at_≠0∧∃ x,lk N r.at_=some x∧NdOk x∧x.h=r.h∧x.mea=r.m)
def nodesR (N:Nodes) (r:Ro):List Nat:=if r.at_=0 then [] else preH N r.h r.at_
theorem RtOk.h13 {N:Nodes} (hN:GoodN N) {r:Ro} (hr:RtOk N r):r.h≤13:=by
 rcases hr with rfl|⟨h0,x,h1,h2,h3,h4⟩
 ·decide
 ·have hv:Val N (.keep r):=.kept h0 h1 h2 h3 h4 rfl
  have hb:(Tr.keep r).bytes=r.m.b:=by simp [Tr.keep,Tr.bytes,Tr.bytesO]
  have:=h2.mea_pos
  exact hv.height hN (by rw [hb,← h4];omega)
theorem nodesR_len {N:Nodes} (hN:GoodN N) {r:Ro} (hr:RtOk N r):(nodesR N r).length<100000000:=by
 have h13:=hr.h13 hN
 unfold nodesR
 split
 ·simp
 ·rename_i q
  rcases hr with rfl|⟨h0,x,h1,h2,h3,h4⟩
  ·exact absurd rfl q
  ·have:=preH_len hN r.h r.at_ x h1 h3
   have h5:4 ^ (r.h+1)≤4 ^ 14:=Nat.pow_le_pow_right (by decide) (by omega)
   have h6:(4:Nat) ^ 14=268435456:=by decide
   omega
def keepT (r:Ro):Tr:=if r.at_=0 then .zero else .keep r
theorem Keep_rt {st:St} {lv ix:Nat} {N:Nodes} (hr:Rd st lv ix N) {r:Ro} (h:RtOk N r):S Tb F_plan_Keep [.ptr lv ix 0 0 0,r.av] st=some (.tup [(keepT r).av,.int .i64 0],st):=by
 unfold keepT
 rcases h with rfl|⟨h0,x,h1,h2,h3,h4⟩
 ·rw [if_pos (by rfl)];exact Keep_zero
 ·rw [if_neg h0];exact Keep_c hr h1 h2 h0 h3 h4
theorem nodes_c {A:List (Bool × List Blk)} {L:List Blk} {la b:Nat} {r:Ro}:S Tb F_rope_nodes [.ptr la (b+5) 0 0 0,r.av] ⟨A,false,L⟩=some (.func (.func F_rope_nodesC1) [] [.ptr A.length L.length 0 0 0,.ptr A.length (L.length+1) 0 0 0],⟨A,false,L++[.arr 1 0 [.ptr la (b+5) 0 0 0],.arr 5 0 [r.av]]⟩):=by
 refine s_keep rfl ?_
 have e0:(⟨A,false,L⟩:St)=⟨A,false,L++[]⟩:=by rw [lN]
 rw [e0]
 unfold Ro.av
 repeat' (first|refine is_boxA rfl rfl rfl rfl rfl ?_|refine ru_seq ?_|refine ru_reg ?_|refine is_mv rfl ?_|refine is_nil rfl ?_|refine rk_seq ?_|refine is_mkf rfl rfl ?_|refine ru_ret ?_|refine rk_nil ?_)
 refine (end_keep (.inr rfl) rfl rfl rfl rfl).trans ?_
 rfl
theorem seal_fnW {b a1 a2 a3 x1 x2 x3:Nat} {f:FuncId} (st:St) (h1:a1<b) (h2:a2<b) (h3:a3<b):sealV deep b st (.func (.func f) [] [.ptr a1 x1 0 0 0,.ptr a2 x2 0 0 0,.ptr a3 x3 0 0 0])=some (.func (.func f) [] [.ptr a1 x1 0 0 0,.ptr a2 x2 0 0 0,.ptr a3 x3 0 0 0],st):=by
 simp only [sealV,deep,ylOk,if_true,mapSt,oS,if_pos h1,if_pos h2,if_pos h3,consK]
theorem seq_c {TY:Tab} (hT:TLe Tb TY) {σ:List Nat→St} {N:Nodes} (hN:GoodN N) {la b lv:Nat} {caps:List AV} (hcw:weaks caps=caps) (hRd:∀ v,Rd (σ v) la (b+5) N) (hlen:∀ v,(σ v).A.length=(σ []).A.length)
 {B:Nat} (hy:∀ v h x more ro L,v.length<B→lk N h=some x→S TY (yB+lv) (.int .u64 (h:Nat)::visV x::caps) ⟨(σ v).ps++more,ro,L⟩=some (.bool true,⟨(σ (v++[h])).ps++more,ro,L⟩))
 {r:Ro} (hr:RtOk N r) (hB:(nodesR N r).length≤B) {l1 i1 l4 i4:Nat} (ha:∀ v,(σ v).get l1 i1=some (.arr 1 0 [.ptr la (b+5) 0 0 0])) (hro:∀ v,(σ v).get l4 i4=some (.arr 5 0 [r.av])) :
 S TY F_rope_nodesC1 [.func (.yield lv) [] caps,.ptr l1 i1 0 0 0,.ptr l4 i4 0 0 0] ⟨(σ []).ps,false,[]⟩=some (.tup [],⟨(σ (nodesR N r)).ps,false,[]⟩):=by
 refine s_ofW (hT _ _ rfl) (fun A hA=>?_)
 have hA0:A=(σ []).ps++[(false,[])]:=hA
 have g4:∀ L,St.get ⟨A,false,L⟩ l4 i4=some (.arr 5 0 [r.av]):=fun L=>by rw [hA0];exact get_more (hro []) _ _ _
 have l1l:l1<A.length+1:=by have:=St.get_le (ha []);rw [hA0];simp;omega
 unfold Ro.av at g4
 have hNW:∀ yv wv,yv=Blk.arr 1 0 [.func (.yield lv) [] caps]→wv=Blk.arr 1 0 [.func (.func F_rope_nodesC1C1) [] [.ptr l1 i1 0 0 0,.ptr A.length 0 0 0 0,.ptr A.length 1 0 0 0]]→NW σ lv caps la b [(false,[])] false [yv,wv] l1 i1 A.length 0 A.length 1:=by
  rintro yv wv rfl rfl
  have hl:∀ v,A.length=((σ v).ps++[(false,([]:List Blk))]).length:=fun v=>by rw [hA0];simp [hlen v]
  refine ⟨fun v=>get_more (ha v) _ _ _,fun v=>?_,fun v=>?_⟩
  ·rw [hl v,St.get_cur];rfl
  ·rw [hl v,St.get_cur];rfl
 by_cases h0:r.at_=0
 ·have e:nodesR N r=[]:=by unfold nodesR;rw [if_pos h0]
  rw [e]
  repeat' (first|refine ru_seq ?_|refine ru_reg ?_|refine is_fadr rfl rfl ?_|refine is_nil rfl ?_|refine rk_seq ?_|(refine is_neq rfl rfl (fun _=>?_) (fun _=>?_)<;>try (exfalso;omega))|refine ru_iteF rfl ?_|refine is_mkf rfl rfl ?_|refine is_box rfl rfl rfl ?_|refine is_stb rfl rfl rfl (seal_fnW _ l1l (Nat.lt_succ_self _) (Nat.lt_succ_self _)) rfl rfl ?_|refine is_ld rfl (g4 _) rfl rfl ?_|refine ru_skip ?_|refine rk_nil ?_)
  all_goals try (exfalso;omega)
  refine end_st hA (.inl rfl) rfl rfl rfl rfl ?_
  rfl
 ·have e:nodesR N r=preH N r.h r.at_:=by unfold nodesR;rw [if_neg h0]
  rw [e] at hB ⊢
  obtain ⟨x,h1,h2,h3,h4⟩:∃ x,lk N r.at_=some x∧NdOk x∧x.h=r.h∧x.mea=r.m:=by
   rcases hr with rfl|q
   ·exact absurd rfl h0
   ·exact q.2
  have hW:=nodesW hT hN hcw hRd hlen hy r.h r.at_ x h1 h3 [] [(false,[])] false _ l1 i1 A.length 0 A.length 1 (by simpa using hB) (hNW _ _ rfl rfl)
  rw [← hA0,lE] at hW
  repeat' (first|refine is_callE rfl rfl rfl hW ?_|refine ru_seq ?_|refine ru_reg ?_|refine is_fadr rfl rfl ?_|refine is_ldc rfl rfl rfl rfl ?_|refine is_nil rfl ?_|refine rk_seq ?_|(refine is_neq rfl rfl (fun _=>?_) (fun _=>?_)<;>try (exfalso;omega))|refine ru_iteT rfl ?_|refine is_mkf rfl rfl ?_|refine is_box rfl rfl rfl ?_|refine is_stb rfl rfl rfl (seal_fnW _ l1l (Nat.lt_succ_self _) (Nat.lt_succ_self _)) rfl rfl ?_|refine is_ld rfl (g4 _) rfl rfl ?_|refine rk_nil ?_)
  all_goals try (exfalso;omega)
  refine end_st (st:=⟨(σ _).ps,false,[]⟩) rfl (.inl rfl) rfl rfl rfl rfl ?_
  rfl
noncomputable def t1:List (FuncId × Ent):=(F_rope_Check,.base (rfO Tb p_rope_Check))::tl
noncomputable def T1:Tab:=lookT t1
theorem le1:TLe Tb T1:=fun g y hg=>by
 unfold T1 t1
 simp only [lookT]
 rw [if_neg]
 ·exact hg
 ·intro e;subst e
  have:lookT tl F_rope_Check=none:=by decide +kernel
  unfold Tb at hg
  rw [this] at hg;simp at hg
theorem Check_c {st:St} {la b:Nat} {N:Nodes} (hN:GoodN N) (hR:Rd st la (b+5) N) {r:Ro} (hr:RtOk N r):S T1 F_rope_Check [.ptr la (b+5) 0 0 0,r.av] st=some (.int .i64 0,st):=by
 refine s_rf (rf:=p_rope_Check) rfl (fun A hA=>?_)
 have hK:=fun L=>Keep_rt (hR.push hA (ro:=false) (L:=L)) hr
 have hNd:=fun L=>nodes_c (A:=A) (L:=L) (la:=la) (b:=b) (r:=r)
 obtain ⟨LF,hLF⟩:∃ LF:List Blk,LF=[.arr 5 0 [r.av],.arr 7 0 [(keepT r).av],.arr 1 0 [.int .i64 0],.arr 1 0 [.ptr la (b+5) 0 0 0],.arr 5 0 [r.av]]:=⟨_,rfl⟩
 have hseq:=fun (caps:List AV) (hcw:weaks caps=caps) (o:List AV→St→Option (AV × St)) hy=>seq_c (TY:=tabY Tb (A.length+1) o) (tabY_le Tb_small _ _) (σ:=fun _=>⟨A,false,LF⟩) hN (lv:=A.length+1) (caps:=caps) hcw (fun _=>hR.push hA) (fun _=>rfl) (B:=(nodesR N r).length) hy hr (Nat.le_refl _) (l1:=A.length) (i1:=3) (l4:=A.length) (i4:=4) (fun _=>by rw [St.get_cur,hLF];rfl) (fun _=>by rw [St.get_cur,hLF];rfl)
 unfold Ro.av at *
 repeat' (first|refine ru_seq ?_|refine ru_reg ?_|refine is_mv rfl ?_|refine is_ldc rfl rfl rfl rfl ?_|refine is_ext rfl rfl ?_|refine is_nil rfl ?_|refine rk_seq ?_|(refine is_neq rfl rfl (fun _=>?_) (fun _=>?_)<;>try (exfalso;omega))|refine ru_iteF rfl ?_|refine is_box rfl rfl rfl ?_|refine is_stb rfl rfl rfl rfl rfl rfl ?_|refine is_stb rfl rfl rfl (tr_seal _ _ _) (tr_put _ _) rfl ?_|refine is_callE rfl rfl (by first|rfl|(simp only [lE,lN,lC,weaks,tr_weak,forceL];first|done|rfl)) (hK _) ?_|refine is_callE rfl rfl (by first|rfl|(simp only [lE,lN,lC,weaks,tr_weak,forceL];first|done|rfl)) (hNd _) ?_|refine ru_skip ?_|refine rk_nil ?_)
 all_goals try contradiction
 have hS:=hseq (capsE 30 [(7,.ptr A.length 2 0 0 0),(21,.func (.func F_rope_nodesC1) [] [.ptr A.length 3 0 0 0,.ptr A.length 4 0 0 0]),(23,.any)]) rfl (roundG (S Tb) itS p_rope_Check.nt p_rope_Check.rng) (fun v h x more ro L _ hx=>tabY_at _ _ _ _ _ (round_of rfl (fun A' hA'=>by
  unfold visV
  repeat' (first|refine ru_reg ?_|refine is_nil rfl ?_|refine is_box rfl rfl rfl ?_|refine is_stb rfl rfl rfl rfl rfl rfl ?_|refine rk_nil ?_)
  all_goals try (exfalso;omega)
  refine ⟨rfl,?_⟩
  repeat' (first|refine ru_seq ?_|refine ru_reg ?_|refine is_fadr rfl rfl ?_|refine is_ldc rfl rfl rfl rfl ?_|refine is_nil rfl ?_|refine rk_seq ?_|(refine is_neq rfl rfl (fun _=>?_) (fun _=>?_)<;>try (exfalso;omega))|refine ru_iteF rfl ?_|refine ru_skip ?_|refine ru_block ?_|refine rk_nil ?_|refine rk_blk ?_)
  all_goals try contradiction
  exact ⟨rfl,hA'⟩)))
 rw [hLF] at hS
 refine .inr ⟨rfl,_,rng_of (g:=F_rope_nodesC1) rfl (by decide) hS,?_⟩
 repeat' (first|refine ru_seq ?_|refine ru_reg ?_|refine is_mv rfl ?_|refine is_ldc rfl rfl rfl rfl ?_|refine is_nil rfl ?_|refine rk_seq ?_|refine ru_skip ?_|refine ru_ret ?_|refine rk_nil ?_)
 refine end_st hA (by first|exact .inl rfl|exact .inr rfl) rfl rfl rfl rfl ?_
 rfl
end Go.Q15
namespace Go.QAbs
theorem get_moreG {s:St} {l i:Nat} {b:Blk} (h:s.get l i=some b) (more:List (Bool × List Blk)) (ro:Bool) (L:List Blk):St.get ⟨s.ps++more,ro,L⟩ l i=some b:=by
 have hl:=St.get_le h
 have h1:=get_old (A:=s.ps) rfl (ro:=ro) (L:=L) h
 unfold St.get at h1 ⊢
 have e1:l≠s.ps.length:=by simp;omega
 have e2:l≠(s.ps++more).length:=by simp;omega
 simp only [if_neg e1,if_neg e2] at h1 ⊢
 rw [List.getElem?_append_left (by simp;omega)]
 exact h1
theorem wr_more {s:St} {lv:Nat} (hl:lv≤s.A.length) (h:s.wr lv) (more:List (Bool × List Blk)) (ro:Bool) (L:List Blk):St.wr ⟨s.ps++more,ro,L⟩ lv:=by
 have h1:=wr_push (A:=s.ps) rfl hl h (ro:=ro) (L:=L)
 unfold St.wr at h1 ⊢
 have e1:lv≠s.ps.length:=by simp;omega
 have e2:lv≠(s.ps++more).length:=by simp;omega
 simp only [if_neg e1,if_neg e2] at h1 ⊢
 rw [List.getElem?_append_left (by simp;omega)]
 exact h1
theorem upd_more {s:St} {lv ix:Nat} {b:Blk} (hl:lv≤s.A.length) (more:List (Bool × List Blk)) (ro:Bool) (L:List Blk):St.upd ⟨s.ps++more,ro,L⟩ lv ix b=⟨(s.upd lv ix b).ps++more,ro,L⟩:=by
 have h1:=upd_push (A:=s.ps) (ro:=ro) (L:=L) rfl hl (ix:=ix) (b:=b)
 unfold St.upd at h1 ⊢
 have e1:lv≠s.ps.length:=by simp;omega
 have e2:lv≠(s.ps++more).length:=by simp;omega
 simp only [if_neg e1,if_neg e2] at h1 ⊢
 simp only [St.mk.injEq,and_true] at h1 ⊢
 rw [List.getElem?_append_left (by simp;omega),List.set_append_left _ _ (by simp;omega),h1]
theorem putC_more:∀ {ks:List (Nat × Nat)} {s:St} {bs:List Blk} {more:List (Bool × List Blk)} {ro:Bool} {L:List Blk},(∀ k∈ks,k.1≤s.A.length)→putC ⟨s.ps++more,ro,L⟩ ks bs=⟨(putC s ks bs).ps++more,ro,L⟩
 | [],_,bs,_,_,_,_=>by cases bs<;>rfl
 | _::_,_,[],_,_,_,_=>rfl
 | k::ks,s,b::bs,more,ro,L,hk=>by
  rw [putC,upd_more (hk k (by simp)),putC_more (s:=s.upd k.1 k.2 b) (fun q hq=>by rw [St.upd_A];exact hk q (by simp [hq]))]
  rfl
theorem Cl.more {s:St} {ks:List (Nat × Nat)} {bs:List Blk} (h:Cl s ks bs) (more:List (Bool × List Blk)) (ro:Bool) (L:List Blk):Cl ⟨s.ps++more,ro,L⟩ ks bs :=
 ⟨h.nd,h.len,fun k hk=>wr_more (h.le k hk) (h.wr k hk) _ _ _,fun j lv ix b h1 h2=>get_moreG (h.get j lv ix b h1 h2) _ _ _⟩
end Go.QAbs
namespace Go.Q15
open Go Go.QAbs
set_option maxRecDepth 100000
set_option maxHeartbeats 8000000
theorem T1_small:∀ f x,T1 f=some x→f<yB:=lookT_small (l:=t1) (by decide +kernel)
noncomputable def t3:List (FuncId × Ent):=(F_rope_Leaves,.base (rfO T1 p_rope_Leaves))::(F_rope_Nodes,.base (rfO T1 p_rope_Nodes))::t1
noncomputable def T3:Tab:=lookT t3
theorem lookT_cons {l:List (FuncId × Ent)} {f:FuncId} {x:Ent} (h:lookT l f=none):TLe (lookT l) (lookT ((f,x)::l)):=fun g y hg=>by
 simp only [lookT]
 rw [if_neg]
 ·exact hg
 ·intro e;subst e;rw [h] at hg;simp at hg
theorem le13:TLe T1 T3:=fun g y hg=>lookT_cons (l:=(F_rope_Nodes,.base (rfO T1 p_rope_Nodes))::t1) (by decide +kernel) g y (lookT_cons (l:=t1) (by decide +kernel) g y hg)
theorem le3:TLe Tb T3:=fun g y hg=>le13 g y (le1 g y hg)
theorem up3 {f:FuncId} {args:List AV} {st:St} {r:AV × St} (h:S Tb f args st=some r):S T3 f args st=some r:=S_tab le3 _ _ _ _ h
theorem up1 {f:FuncId} {args:List AV} {st:St} {r:AV × St} (h:S Tb f args st=some r):S T1 f args st=some r:=S_tab le1 _ _ _ _ h
def leavesOf (N:Nodes) (v:List Nat):List (List UInt8):=v.filterMap fun h=>if (ndAt N h).h=0 then some (ndAt N h).text else none
theorem leavesOf_snoc (N:Nodes) (v:List Nat) (h:Nat):leavesOf N (v++[h])=leavesOf N v++if (ndAt N h).h=0 then [(ndAt N h).text] else []:=by
 unfold leavesOf
 rw [List.filterMap_append]
 by_cases q:(ndAt N h).h=0<;>simp [q]
theorem strs_seal (n b:Nat) (st:St) (l:List (List UInt8)):mapSt (sealV (n+1) b) st (l.map AV.str)=some (l.map AV.str,st):=by
 induction l with
 | nil=>rfl
 | cons x s ih =>
  rw [List.map_cons,mapSt]
  show ((some (AV.str x,st)).bind fun r=>(mapSt (sealV (n+1) b) r.2 (s.map AV.str)).bind (consK r.1))=_
  rw [oS,ih];rfl
def lvL (A:List (Bool × List Blk)) (la b:Nat) (r:Ro) (es:List AV):List Blk:=[.arr 5 0 [r.av],.arr 1 es.length es,.arr 1 0 [.ref A.length 1 es.length 0 es.length],.arr 1 0 [.ptr la (b+5) 0 0 0],.arr 5 0 [r.av]]
def lvF (A:List (Bool × List Blk)) (N:Nodes) (la b:Nat) (r:Ro) (v:List Nat):St:=⟨A,false,lvL A la b r ((leavesOf N v).map .str)⟩
theorem lv_cl (A:List (Bool × List Blk)) (la b:Nat) (r:Ro) (es:List AV):Cl ⟨A,false,lvL A la b r es⟩ [(A.length,1),(A.length,2)] [.arr 1 es.length es,.arr 1 0 [.ref A.length 1 es.length 0 es.length]]:=by
 refine ⟨by simp,rfl,fun k hk=>?_,fun j lv ix b h1 h2=>?_⟩
 ·simp only [List.mem_cons,List.not_mem_nil,or_false] at hk
  rcases hk with rfl|rfl<;>simp [St.wr]
 ·match j,h1,h2 with
  | 0,h1,h2=>obtain ⟨rfl,rfl⟩:=Prod.mk.inj (Option.some.inj h1);obtain rfl:=Option.some.inj h2;exact St.get_cur ..
  | 1,h1,h2=>obtain ⟨rfl,rfl⟩:=Prod.mk.inj (Option.some.inj h1);obtain rfl:=Option.some.inj h2;exact St.get_cur ..
  | n+2,h1,h2=>simp at h1
theorem lv_put (A:List (Bool × List Blk)) (la b:Nat) (r:Ro) (es fs:List AV):putC ⟨A,false,lvL A la b r es⟩ [(A.length,1),(A.length,2)] [.arr 1 fs.length fs,.arr 1 0 [.ref A.length 1 fs.length 0 fs.length]]=⟨A,false,lvL A la b r fs⟩:=by
 simp [putC,St.upd,lvL]
theorem lv_round {N:Nodes} {A:List (Bool × List Blk)} {la b:Nat} {r:Ro} {caps:List AV} (hc7:∃ rest,caps=.any::.any::.any::.any::.any::.any::.any::.ptr A.length 2 0 0 0::rest∧rest.length=24) (v:List Nat) (hlim:(leavesOf N v).length<4000000000) (h:Nat) (x:Nd) (more:List (Bool × List Blk)) (ro:Bool) (L:List Blk) (hx:lk N h=some x) :
 roundG (S T1) itS p_rope_Leaves.nt p_rope_Leaves.rng (.int .u64 (h:Nat)::visV x::caps) ⟨(lvF A N la b r v).ps++more,ro,L⟩=some (.bool true,⟨(lvF A N la b r (v++[h])).ps++more,ro,L⟩):=by
 obtain ⟨rest,rfl,hrl⟩:=hc7
 have hs:=leavesOf_snoc N v h
 have hnd:=ndAt_of hx
 rw [hnd] at hs
 unfold lvF
 have hel:((leavesOf N v).map AV.str).length=(leavesOf N v).length:=List.length_map ..
 rw [hs,List.map_append]
 rw [← hel] at hlim
 generalize (leavesOf N v).map AV.str=es at *
 have H:=(lv_cl A la b r es).more more ro L
 refine round_of (by simp [hrl];rfl) (fun A' hA'=>?_)
 rw [← H.same] at hA'
 have g2:=fun L'=>H.old hA' rfl rfl (ro:=false) (L:=L') (j:=1) rfl rfl
 unfold visV
 repeat' (first|refine ru_reg ?_|refine is_nil rfl ?_|refine is_box rfl rfl rfl ?_|refine is_stb rfl rfl rfl rfl rfl rfl ?_|refine rk_nil ?_)
 all_goals try (exfalso;omega)
 all_goals refine ⟨rfl,?_⟩
 all_goals repeat' (first|refine ru_seq ?_|refine ru_reg ?_|refine is_fadr rfl rfl ?_|refine is_ldc rfl rfl rfl rfl ?_|refine is_nil rfl ?_|refine rk_seq ?_|(refine is_eql rfl rfl (fun _=>?_) (fun _=>?_)<;>try (exfalso;omega))|refine ru_iteT rfl ?_|refine ru_iteF rfl ?_|refine is_bslFO rfl rfl rfl rfl ?_|refine is_ld rfl (g2 _) rfl rfl ?_|refine ru_skip ?_|refine ru_block ?_|refine rk_nil ?_|refine rk_blk ?_)
 ·rename_i hz
  have hz':x.h=0:=by omega
  refine is_appC H hA' rfl rfl (j:=0) rfl rfl rfl rfl rfl rfl (strs_seal 5 _ _ [x.text]) (by simp only [List.length_singleton];omega) (by decide) (fun A2 hA2 hl2=>?_)
  refine is_stC H hA2 rfl rfl (j:=1) rfl rfl rfl rfl rfl (seal_refL _ (Nat.lt_succ_self _)) rfl (fun A3 hA3 hl3=>?_)
  repeat' (first|refine is_nil rfl ?_|refine rk_nil ?_|refine rk_blk ?_)
  refine ⟨rfl,hA3.trans ?_⟩
  have e:=lv_put A la b r es (es++[.str x.text])
  rw [if_pos hz',List.map_cons,List.map_nil,← e]
  rw [← putC_more (fun k hk=>by simp only [List.mem_cons,List.not_mem_nil,or_false] at hk;rcases hk with rfl|rfl<;>exact Nat.le_refl _)]
  simp only [lL,List.length_singleton]
  rfl
 ·rename_i hz
  have hz':¬ x.h=0:=by omega
  refine ⟨rfl,hA'.trans ?_⟩
  rw [H.same,if_neg hz',List.map_nil,lN]
theorem leavesOf_len (N:Nodes) (v:List Nat):(leavesOf N v).length≤v.length:=List.length_filterMap_le _ _
theorem Leaves_c {st:St} {la b:Nat} {N:Nodes} (hN:GoodN N) (hR:Rd st la (b+5) N) {r:Ro} (hr:RtOk N r):S T3 F_rope_Leaves [.ptr la (b+5) 0 0 0,r.av] st=some (.tup [.lit ((leavesOf N (nodesR N r)).map .str),.int .i64 0],st):=by
 refine s_rf (rf:=p_rope_Leaves) rfl (fun A hA=>?_)
 have hK:=fun L=>Check_c hN (hR.push hA (ro:=false) (L:=L)) hr
 have hNd:=fun L=>up1 (nodes_c (A:=A) (L:=L) (la:=la) (b:=b) (r:=r))
 have hlen:=nodesR_len hN hr
 have hseq:=fun (caps:List AV) (hcw:weaks caps=caps) (o:List AV→St→Option (AV × St)) hy=>seq_c (TY:=tabY T1 (A.length+1) o) (fun g y hg=>tabY_le T1_small _ _ g y (le1 g y hg)) (σ:=lvF A N la b r) hN (lv:=A.length+1) (caps:=caps) hcw (fun _=>hR.push hA) (fun _=>rfl) (B:=100000000) hy hr (by omega) (l1:=A.length) (i1:=3) (l4:=A.length) (i4:=4) (fun _=>St.get_cur ..) (fun _=>St.get_cur ..)
 have hS:=hseq (capsE 32 [(7,.ptr A.length 2 0 0 0),(18,.func (.func F_rope_nodesC1) [] [.ptr A.length 3 0 0 0,.ptr A.length 4 0 0 0]),(20,.any)]) rfl (roundG (S T1) itS p_rope_Leaves.nt p_rope_Leaves.rng) (fun v h x more ro L hv hx=>tabY_at _ _ _ _ _ (lv_round ⟨_,rfl,rfl⟩ v (by have:=leavesOf_len N v;omega) h x more ro L hx))
 unfold lvF at hS
 have hl0:(leavesOf N (nodesR N r)).map AV.str=(leavesOf N (nodesR N r)).map AV.str:=rfl
 generalize hes:leavesOf N (nodesR N r)=l at *
 have e0:lvL A la b r ((leavesOf N []).map .str)=lvL A la b r []:=rfl
 rw [e0] at hS
 unfold lvL at hS
 unfold Ro.av at *
 repeat' (first|refine ru_seq ?_|refine ru_reg ?_|refine is_mv rfl ?_|refine is_ldc rfl rfl rfl rfl ?_|refine is_nil rfl ?_|refine rk_seq ?_|(refine is_neq rfl rfl (fun _=>?_) (fun _=>?_)<;>try (exfalso;omega))|refine ru_iteF rfl ?_|refine is_box rfl rfl rfl ?_|refine is_boxnil rfl ?_|refine is_callE rfl rfl rfl (hK _) ?_|refine is_callE rfl rfl rfl (hNd _) ?_|refine ru_skip ?_|refine rk_nil ?_)
 all_goals try contradiction
 refine .inr ⟨rfl,_,rng_of (g:=F_rope_nodesC1) rfl (by decide) hS,?_⟩
 repeat' (first|refine ru_seq ?_|refine ru_reg ?_|refine is_mv rfl ?_|refine is_ldc rfl rfl rfl rfl ?_|refine is_nil rfl ?_|refine rk_seq ?_|refine ru_skip ?_|refine ru_ret ?_|refine rk_nil ?_)
 exact end_ref1 hA (.inr rfl) rfl rfl rfl (fun v hv=>by obtain ⟨x,_,rfl⟩:=List.mem_map.1 hv;rfl) rfl rfl
end Go.Q15
namespace Go.QAbs
open Go.ChangeShapes Go.WideShapes Go.RowKit Go.Deep
variable {P:Program}
def rho0:Rho:=⟨fun _ _=>⟨0,0,0⟩,fun _=>(0,[])⟩
theorem walk_in (hm:P.follows .mixedOrders=true) {T:Tab} (hT:TabOk P T) {f:FuncId} {args:List AV} (h:∃ st',S T f args .empty=some (.bool true,st')) {W:World} {xs:List Value} (hx:RL (cx .empty rho0 W 0) args xs) :
 Calls P f xs.toArray W fun e W'=>e=.returned (.bool true)∧Below W.heap.size W W':=by
 obtain ⟨st',h⟩:=h
 refine (S_calls hm hT h (rel_empty W) hx).mono fun e' W' ⟨x,_,he,g,hv⟩=>?_
 subst he
 exact ⟨by rw [getBool hv],g.rel.below.b⟩
end Go.QAbs
namespace Go.Proofs
open Go.Shelf
def Try.lays156_ren:Go.Shelf.Ren:=⟨fun|156=>20|165=>67|166=>68|169=>69|240=>104|241=>105|276=>124|277=>125|n=>n,fun|31=>22|9=>9|3=>3|4=>4|0=>0|20=>20|72=>140|76=>144|70=>138|37=>125|75=>143|127=>185|164=>214|5=>5|80=>146|n=>n,fun|n=>n⟩
theorem Try.lays156:Go.Proofs.Lays.n156 Try.prog Try.lays156_ren:={
 mixed:=by kernel_rfl
 f156:=Try.func20.trans (congrArg some (by kernel_rfl))
 f165:=Try.func67.trans (congrArg some (by kernel_rfl))
 f166:=Try.func68.trans (congrArg some (by kernel_rfl))
 f169:=Try.func69.trans (congrArg some (by kernel_rfl))
 f240:=Try.func104.trans (congrArg some (by kernel_rfl))
 f241:=Try.func105.trans (congrArg some (by kernel_rfl))
 f276:=Try.func124.trans (congrArg some (by kernel_rfl))
 f277:=Try.func125.trans (congrArg some (by kernel_rfl))
 t0:=Try.underlying0
 a0:=Try.isAgg0
 z0:=Try.sizeOf0
 v0:=Try.zeroValue0
 t3:=Try.underlying3
 a3:=Try.isAgg3
 z3:=Try.sizeOf3
 v3:=Try.zeroValue3
 t4:=Try.underlying4
 a4:=Try.isAgg4
 z4:=Try.sizeOf4
 v4:=Try.zeroValue4
 t9:=Try.underlying9
 a9:=Try.isAgg9
 z9:=Try.sizeOf9
 v9:=Try.zeroValue9
 t20:=Try.underlying20
 a20:=Try.isAgg20
 z20:=Try.sizeOf20
 v20:=Try.zeroValue20
 t31:=Try.underlying22
 a31:=Try.isAgg22
 z31:=Try.sizeOf22
 v31:=Try.zeroValue22
 t37:=Try.underlying125
 a37:=Try.isAgg125
 z37:=Try.sizeOf125
 v37:=Try.zeroValue125
 t70:=Try.underlying138
 a70:=Try.isAgg138
 z70:=Try.sizeOf138
 v70:=Try.zeroValue138
 t72:=Try.underlying140
 a72:=Try.isAgg140
 z72:=Try.sizeOf140
 v72:=Try.zeroValue140
 t75:=Try.underlying143
 a75:=Try.isAgg143
 z75:=Try.sizeOf143
 v75:=Try.zeroValue143
 t76:=Try.underlying144
 a76:=Try.isAgg144
 z76:=Try.sizeOf144
 v76:=Try.zeroValue144
 t127:=Try.underlying185
 a127:=Try.isAgg185
 z127:=Try.sizeOf185
 v127:=Try.zeroValue185
 t164:=Try.underlying214
 a164:=Try.isAgg214
 z164:=Try.sizeOf214
 v164:=Try.zeroValue214 }
theorem Try.Builder_Extra_156:Builder.Extra Try.prog Try.lays156_ren:={
 sizeBuilder:=by kernel_rfl
 liesBuilder:=by kernel_rfl
 t5:=Try.underlying5
 a5:=Try.isAgg5
 z5:=Try.sizeOf5
 v5:=Try.zeroValue5
 infoByte:=by kernel_rfl
 cellsByte:=by kernel_rfl
 sizeByte:=by kernel_rfl
 neB5:=by decide }
open Go.RowKit in
theorem Try.strings_Join_none (a:Option Addr) (c:Nat) (sep:ByteArray) (w:World) :
 Calls Try.prog 20 #[.slice a 0 c,.string sep] w fun e w'=>e=.returned (.string ⟨#[]⟩)∧w'=w:=Any.strings_Join_none Try.lays156 Try.Builder_Extra_156 a c sep w
open Go.RowKit in
theorem Try.strings_Join (bk o c:Nat) (xs:List ByteArray) (sep:ByteArray) (w:World) (hcells:∀ (j:Nat) x,xs[j]?=some x→w.cell? ⟨bk,o+j,none⟩=some (.string x)) (hbk:bk<w.heap.size) (hN:xs.length≤140737488355328) (hcap:xs.length≤c) (hlen:(Lib.join (xs.map (·.data.toList)) sep.data.toList).length≤140737488355328) :
 Calls Try.prog 20 #[.slice (some ⟨bk,o,none⟩) xs.length c,.string sep] w fun e w'=>e=.returned (.string ⟨(Lib.join (xs.map (·.data.toList)) sep.data.toList).toArray⟩)∧Below w.heap.size w w':=Any.strings_Join Try.lays156 Try.Builder_Extra_156 bk o c xs sep w hcells hbk hN hcap hlen
end Go.Proofs
namespace Go.Q15
open Go Go.QAbs
set_option maxRecDepth 100000
open Go.Shelf in
def cloneRen:Ren:=⟨fun|41=>76|n=>n,fun|22=>77|23=>90|n=>n,fun n=>n⟩
theorem cloneL:Go.Proofs.SlLaysE0.n41 Go.Proofs.Try.prog cloneRen:={
 mixed:=by kernel_rfl
 f41 := ⟨"slices.Clone[[]quarto/api.Kid,quarto/api.Kid]", by decide, Go.Proofs.Try.func76.trans (congrArg some (by kernel_rfl))⟩
 t4:=Go.Proofs.Try.underlying4
 a4:=Go.Proofs.Try.isAgg4
 z4:=Go.Proofs.Try.sizeOf4
 v4:=Go.Proofs.Try.zeroValue4
 t22:=Go.Proofs.Try.underlying77
 a22:=Go.Proofs.Try.isAgg77
 z22:=Go.Proofs.Try.sizeOf77
 v22:=Go.Proofs.Try.zeroValue77 }
theorem kid_info:∃ i z,Go.Proofs.Try.prog.info? 90=some i∧i.zero=some z∧i.size=4∧i.bytes=32∧z.cells.size=4:=⟨_,_,rfl,rfl,rfl,rfl,rfl⟩
theorem clone_ok15:EntOk Go.Proofs.Try.prog F_slices_Clone_api_Kid_api_Kid (.base (cloneO 4)):=by
 obtain ⟨i,z,h1,h2,h3,h4,h5⟩:=kid_info
 refine clone_ok (T:=90) (fun n c W=>Go.Proofs.AnyE.slices_Clone_nil cloneL n c W) fun ad n c news W hl hn hc ho=>?_
 exact clone_any cloneL i z 4 32 h1 h2 h3 h4 h5 (by decide) Go.Proofs.Try.sizeOf90 ad n c news W hl (by unfold maxLen;omega) (by omega) hc ho
theorem mixedY:Go.Proofs.Try.prog.follows .mixedOrders=true:=by kernel_rfl
theorem tl_all:AllOk Go.Proofs.Try.prog tl:=⟨⟨Go.Proofs.Try.call76,clone_ok15⟩,⟨Go.Proofs.Try.call20,join_ok Go.Proofs.Try.strings_Join_none Go.Proofs.Try.strings_Join⟩,tab_all⟩
theorem Tb_ok:TabOk Go.Proofs.Try.prog Tb:=tabOk_of tl_all
theorem t1_all:AllOk Go.Proofs.Try.prog t1:=⟨⟨Go.Proofs.Try.call22,rf_ok mixedY Tb_ok Go.Proofs.Try.func22 c_rope_Check⟩,tl_all⟩
theorem t1_ok:TabOk Go.Proofs.Try.prog T1:=tabOk_of t1_all
theorem t3_all:AllOk Go.Proofs.Try.prog t3:=⟨⟨Go.Proofs.Try.call19,rf_ok mixedY t1_ok Go.Proofs.Try.func19 c_rope_Leaves⟩,⟨Go.Proofs.Try.call23,rf_ok mixedY t1_ok Go.Proofs.Try.func23 c_rope_Nodes⟩,t1_all⟩
theorem T3_ok:TabOk Go.Proofs.Try.prog T3:=tabOk_of t3_all
end Go.Q15
namespace Go.Q15
open Go Go.QAbs
set_option maxRecDepth 100000
set_option maxHeartbeats 8000000
theorem cntL_le8:∀ l:List Tr,(∀ t∈l,4*(t.cnt:Int)+4≤t.bytes)→4*(Tr.cntL l:Int)+4*l.length≤Tr.bytesL l
 | [],_=>by simp [Tr.cntL,Tr.bytesL]
 | t::l,h=>by
  have h1:=h t (by simp)
  have h2:=cntL_le8 l fun u hu=>h u (by simp [hu])
  simp only [Tr.cntL,Tr.bytesL,List.length_cons]
  omega
theorem cnt_le {N:Nodes} (hN:GoodN N) {t:Tr} (hv:Val N t):(t.cnt:Int)≤t.bytes∧(Big t→4*(t.cnt:Int)+4≤t.bytes):=by
 have hsz:=hv.size hN
 have hps:=hv.pos.2
 induction hv with
 | @kept o h m k x h0 hx hok hh hm hk =>
  have ec:(Tr.mk o h m [] k).cnt=0:=by rw [Tr.cnt,Tr.cntO_getD,hk,if_neg h0];rfl
  have hl:h≤16:=by
   rcases hok with q|⟨n,ks,q⟩
   ·rw [← hh,q.h];omega
   ·have:=q.n15;have e:=q.eq;subst e;simp only at hh;omega
  rw [ec]
  refine ⟨by omega,fun q=>?_⟩
  have h1:=hsz q
  have h2:=(leastB_le hl).1
  simp only [Tr.h] at h1
  omega
 | @leaf s k h1 h2 hk =>
  have ec:(Tr.mk 0 0 .zero s k).cnt=1:=by rw [Tr.cnt,Tr.cntO_getD,hk];rfl
  rw [ec]
  refine ⟨by omega,fun q=>?_⟩
  have:=q rfl
  omega
 | @inner h l hh h2 h4 hl hb hv ih =>
  have ec:(Tr.mk 0 (h+1) .zero [] (some l)).cnt=Tr.cntL l+1:=by rw [Tr.cnt,Tr.cntO];simp;omega
  have eb:(Tr.mk 0 (h+1) .zero [] (some l)).bytes=Tr.bytesL l:=by rw [Tr.bytes,Tr.bytesO];simp [Mea.zero]
  have:=cntL_le8 l fun u hu=>(ih u hu ((hv u hu).size hN) (hv u hu).pos.2).2 (fun q=>hb u hu (by rw [← hl u hu];exact q))
  rw [ec,eb]
  exact ⟨by omega,fun _=>by omega⟩
theorem begin_full {A:List (Bool × List Blk)} {L:List Blk} {la b:Nat} {r:AR} (hA:HasR ⟨A,false,L⟩ la b r) (hN:r.n≤r.blk.length) (h16:r.states.length≤16384) (h6:r.n<65536) {t:Tr} (hg:GoodN r.nodes) (hv:VE r.nodes t) (hb:t.bytes≤65536) (hn:r.n<nw t) :
 S Tb F_rope_Begin [.ptr la (b+5) 0 0 0,t.av] ⟨A,false,L⟩=some (.tup [.nilptr,.int .i64 6],⟨A,false,L++[.arr 7 0 [t.av]]⟩):=by
 have hv:Val r.nodes t:=by
  rcases hv with he|hv
  ·unfold nw at hn;rw [if_pos ⟨he.old,he.h,he.text⟩] at hn;omega
  ·exact hv
 rw [nw_val hv] at hn
 have hcb:=(cnt_le hg hv).1
 have hCk:=fun T=>Check_val (hA.app T).rd hv hb
 have hNw:=fun st=>New_c hv (by omega) st
 have hSt:=fun T=>Stats_c (hA.app T) hN h16 h6
 unfold AR.statsAV at hSt
 refine s_keep rfl ?_
 have e0:(⟨A,false,L⟩:St)=⟨A,false,L++[]⟩:=by rw [lN]
 rw [e0]
 repeat' (first|refine is_boxA rfl (tr_wide _) (tr_force _) rfl rfl ?_|refine is_ldA rfl rfl rfl (tr_part _) ?_|refine ru_seq ?_|refine ru_reg ?_|refine is_mv rfl ?_|refine is_nil rfl ?_|refine rk_seq ?_|refine is_fld (agg:=false) rfl rfl ?_|(refine is_gtr rfl rfl (fun _=>?_) (fun _=>?_)<;>try (exfalso;omega))|(refine is_neq rfl rfl (fun _=>?_) (fun _=>?_)<;>try (exfalso;omega))|refine ru_iteT rfl ?_|refine ru_iteF rfl ?_|refine is_callE rfl rfl (by first|rfl|(simp only [lE,lN,lC,weaks,tr_weak,forceL];first|done|rfl)) (hCk _) ?_|refine is_callE rfl rfl (by first|rfl|(simp only [lE,lN,lC,weaks,tr_weak,forceL];first|done|rfl)) (hNw _) ?_|refine is_callE rfl rfl (by first|rfl|(simp only [lE,lN,lC,weaks,tr_weak,forceL];first|done|rfl)) (hSt _) ?_|refine ru_skip ?_|refine ru_ret ?_|refine rk_nil ?_|refine rk_seq_ret ?_)
 all_goals try (exfalso;omega)
 refine (end_keep (.inr rfl) rfl rfl rfl rfl).trans ?_
 rfl
theorem Write_full {st:St} {la b:Nat} {r:AR} (hA:Has st la b r) (ho:AROk r) (hg:GoodN r.nodes) {t:Tr} (hv:VE r.nodes t) (hb:t.bytes≤65536) (hn:r.n<nw t) :
 S Tb F_rope_Write [.ptr la (b+5) 0 0 0,t.av] st=some (.tup [Ro.zero.av,.lit [],.int .i64 6],st):=by
 refine s_ofW rfl (fun A hA'=>?_)
 have hS:=fun L=>begin_full (L:=L) (hA.push hA').r ho.nb ho.n16 (by have:=ho.nn;have:=ho.n16;omega) hg hv hb hn
 repeat' (first|refine ru_seq ?_|refine ru_reg ?_|refine is_mv rfl ?_|refine is_ext rfl rfl ?_|refine is_nil rfl ?_|refine rk_seq ?_|(refine is_neq rfl rfl (fun _=>?_) (fun _=>?_)<;>try (exfalso;omega))|refine ru_iteT rfl ?_|refine is_buildO rfl rfl rfl ?_|refine is_box rfl rfl rfl ?_|refine is_stb rfl rfl rfl rfl rfl rfl ?_|refine is_onil rfl ?_|refine is_ldc rfl rfl rfl (tr_part _) ?_|refine is_boxG rfl (tr_wide _) (tr_force _) ?_|refine is_callE rfl rfl (by first|rfl|(simp only [lE,lN,lC,weaks,tr_weak,forceL];first|done|rfl)) (hS _) ?_|refine ru_ret ?_|refine rk_nil ?_|refine rk_seq_ret ?_)
 all_goals try contradiction
 all_goals try (exfalso;omega)
 exact end_wr (ro:=.zero) (l:=[]) hA' (.inr rfl) rfl rfl rfl rfl rfl rfl
end Go.Q15
namespace Go.Q15
open Go Go.QAbs
set_option maxRecDepth 100000
set_option maxHeartbeats 1000000
def hdW (o h:Nat) (s:List UInt8) (j:Nat):Nat:=if o=0∧h=j∧¬(h=0∧s=[]) then 1 else 0
namespace Tr
mutual
def wat (j:Nat):Tr→Nat
 | .mk o h _ s k=>hdW o h s j+watO j k
def watO (j:Nat):Option (List Tr)→Nat
 | none=>0
 | some l=>watL j l
def watL (j:Nat):List Tr→Nat
 | []=>0
 | t::l=>t.wat j+watL j l
end
theorem watL_append (j:Nat):∀ a b,watL j (a++b)=watL j a+watL j b
 | [],b=>by simp [watL]
 | t::a,b=>by rw [lC,watL,watL,watL_append j a b];omega
theorem watO_getD (j:Nat) (k:Option (List Tr)):watO j k=watL j (k.getD []):=by cases k<;>rfl
end Tr
theorem hdW_le (o h:Nat) (s:List UInt8) (j:Nat):hdW o h s j≤1∧(h≠j→hdW o h s j=0):=by
 unfold hdW
 split
 ·rename_i q;exact ⟨by omega,fun w=>absurd q.2.1 w⟩
 ·exact ⟨by omega,fun _=>rfl⟩
theorem hdW_kept {o h:Nat} {s:List UInt8} {j:Nat} (h0:o≠0):hdW o h s j=0:=by
 unfold hdW;rw [if_neg (fun q=>h0 q.1)]
theorem hdW_none {o j:Nat}:hdW o 0 [] j=0:=by
 unfold hdW;rw [if_neg (fun q=>q.2.2 ⟨rfl,rfl⟩)]
theorem wat_empty {t:Tr} (h:IsEmpty t) (j:Nat):t.wat j=0:=by
 obtain ⟨o,h',m,s,k⟩:=t
 obtain ⟨h1,h2,h3,h4,h5⟩:=h
 simp only [Tr.old,Tr.h,Tr.m,Tr.text,Tr.ks] at *
 subst h2 h4
 rw [Tr.wat,Tr.watO_getD,h5,hdW_none];rfl
theorem wat_zero (j:Nat):Tr.zero.wat j=0:=wat_empty zero_empty j
theorem wat_leaf (s:List UInt8) (j:Nat):(leafT s).wat j≤1:=by
 rw [leafT,Tr.wat,Tr.watO]
 have:=(hdW_le 0 0 s j).1;omega
theorem watL_zero {j:Nat}:∀ {l:List Tr},(∀ t∈l,t.wat j=0)→Tr.watL j l=0
 | [],_=>rfl
 | t::l,h=>by rw [Tr.watL,h t (by simp),watL_zero (l:=l) (fun u hu=>h u (by simp [hu]))]
theorem watL_one {j:Nat}:∀ {l:List Tr},(∀ t∈l,t.wat j≤1)→Tr.watL j l≤l.length
 | [],_=>Nat.le_refl _
 | t::l,h=>by
  have h1:=h t (by simp)
  have h2:=watL_one (l:=l) (fun u hu=>h u (by simp [hu]))
  rw [Tr.watL,List.length_cons];omega
theorem wat_hi {N:Nodes} {t:Tr} (hv:Val N t):∀ j,t.h<j→t.wat j=0:=by
 induction hv with
 | kept h0 hx hok hh hm hk=>intro j _;rw [Tr.wat,Tr.watO_getD,hk,hdW_kept h0];rfl
 | leaf h1 h2 hk=>intro j hj;simp only [Tr.h] at hj;rw [Tr.wat,Tr.watO_getD,hk,(hdW_le _ _ _ _).2 (by omega)];rfl
 | inner hh h2 h4 hl hb hv ih =>
  intro j hj
  simp only [Tr.h] at hj
  rw [Tr.wat,Tr.watO,(hdW_le _ _ _ _).2 (by omega),watL_zero fun u hu=>ih u hu j (by rw [hl u hu];omega)]
theorem wat_top {N:Nodes} {t:Tr} (hv:Val N t):t.wat t.h≤1:=by
 cases hv with
 | kept h0 hx hok hh hm hk=>rw [Tr.wat,Tr.watO_getD,hk,hdW_kept h0];simp [Tr.watL]
 | leaf h1 h2 hk=>rw [Tr.wat,Tr.watO_getD,hk];have:=(hdW_le 0 0 ‹List UInt8› 0).1;simp only [Tr.h,Option.getD_none,Tr.watL];omega
 | inner hh h2 h4 hl hb hv =>
  rename_i h l
  show Tr.wat (h+1) _≤1
  rw [Tr.wat,Tr.watO,watL_zero fun u hu=>wat_hi (hv u hu) (h+1) (by rw [hl u hu];omega)]
  exact (hdW_le _ _ _ _).1
theorem VE.wat {N:Nodes} {t:Tr} (hv:VE N t) {j:Nat} (hj:t.h≤j):t.wat j≤1∧(t.h<j→t.wat j=0):=by
 rcases hv with h|h
 ·rw [wat_empty h];exact ⟨by omega,fun _=>rfl⟩
 ·rcases Nat.lt_or_ge t.h j with q|q
  ·rw [wat_hi h j q];exact ⟨by omega,fun _=>rfl⟩
  ·obtain rfl:j=t.h:=by omega
   exact ⟨wat_top h,fun w=>by omega⟩
theorem wat_childs {N:Nodes} (hN:GoodN N) {t:Tr} (hv:Val N t) (hgt:1≤t.h) (j:Nat):Tr.watL j (childs N t)≤t.wat j:=by
 cases hv with
 | kept h0 hx hok hh hm hk =>
  rename_i o h m k x
  have hg:=(hN o x hx).2
  simp only [childs,if_neg h0,hx]
  have:Tr.watL j (x.ks.map (keptKid (x.h-1)))=0:=watL_zero fun u hu=>by
   obtain ⟨kd,hkd,rfl⟩:=List.mem_map.1 hu
   rw [keptKid,Tr.wat,hdW_kept (hg kd hkd).1];rfl
  omega
 | leaf h1 h2 hk=>simp [Tr.h] at hgt
 | inner hh h2 h4 hl hb hv =>
  rename_i h l
  show Tr.watL j l≤_
  rw [Tr.wat,Tr.watO];omega
theorem grp_wat {N:Nodes} {l:List Tr} {h j:Nat} (hj:j≠h+1) (hl:∀ t∈l,t.h=h):(grp l).wat j≤Tr.watL j l:=by
 match l,hl with
 | [],_=>rw [grp,wat_zero];omega
 | [t],_=>rw [grp,Tr.watL];omega
 | t::u::r,hl =>
  rw [grp_two (by simp),Tr.wat,Tr.watO]
  have he:Tr.hs (t::u::r)=h:=hl t (by simp)
  rw [he,(hdW_le _ _ _ _).2 (by omega)];omega
theorem foldM_wat {N:Nodes} {l:List Tr} {h j:Nat} (hj:j≠h+1) (hl:∀ t∈l,t.h=h):Tr.watL j (foldM l)≤Tr.watL j l:=by
 unfold foldM
 split
 ·have:=grp_wat (N:=N) hj hl
  rw [Tr.watL,Tr.watL];omega
 ·have h1:=grp_wat (N:=N) (l:=l.take ((l.length+1) / 2)) hj (fun t ht=>hl t (List.mem_of_mem_take ht))
  have h2:=grp_wat (N:=N) (l:=l.drop ((l.length+1) / 2)) hj (fun t ht=>hl t (List.mem_of_mem_drop ht))
  have h3:Tr.watL j l=Tr.watL j (l.take ((l.length+1) / 2))+Tr.watL j (l.drop ((l.length+1) / 2)):=by rw [← Tr.watL_append,List.take_append_drop]
  rw [Tr.watL,Tr.watL,Tr.watL];omega
structure MW3 (x y:Tr) (j w:Nat):Prop where
 lo:j<min x.h y.h→w≤x.wat j+y.wat j
 l:y.h≤x.h→y.h≤j→w≤x.wat j+2
 r:x.h≤y.h→x.h≤j→w≤y.wat j+2
theorem mergeF_wat {N:Nodes} (hN:GoodN N) (j:Nat):∀ n x y,Val N x→Val N y→x.h+y.h=n→MW3 x y j (Tr.watL j (mergeF N n x y))∧(max x.h y.h≤j→Tr.watL j (mergeF N n x y)≤2):=by
 intro n
 induction n with
 | zero =>
  intro x y hx hy hn
  have hm:=mergeF_ok hN 0 x y hx hy hn.symm
  generalize mergeF N 0 x y=r at *
  have h2:Tr.watL j r≤2:=by
   have:=watL_one (j:=j) (l:=r) (fun t ht=>((show VE N t from .inr (hm.val t ht)).wat (by rw [hm.h t ht];omega)).1)
   rcases hm.len with w|w<;>omega
  exact ⟨⟨fun q=>by omega,fun _ _=>by omega,fun _ _=>by omega⟩,fun _=>h2⟩
 | succ n ih =>
  intro x y hx hy hn
  have hm:=mergeF_ok hN (n+1) x y hx hy hn.symm
  have h2:max x.h y.h≤j→Tr.watL j (mergeF N (n+1) x y)≤2:=by
   intro hj
   have:=watL_one (j:=j) (l:=mergeF N (n+1) x y) (fun t ht=>((show VE N t from .inr (hm.val t ht)).wat (by rw [hm.h t ht];omega)).1)
   rcases hm.len with w|w<;>omega
  refine ⟨?_,h2⟩
  rcases Nat.lt_or_ge j (max x.h y.h) with hj|hj
  case inr =>
   have:=h2 hj
   exact ⟨fun q=>by omega,fun _ _=>by omega,fun _ _=>by omega⟩
  clear h2 hm
  rw [mergeF]
  split
  ·rename_i he
   have w1:=wat_childs hN hx (by omega) j
   have w2:=wat_childs hN hy (by omega) j
   obtain ⟨c1,_⟩:=childs_ok hN hx (by omega)
   obtain ⟨d1,_⟩:=childs_ok hN hy (by omega)
   refine ⟨fun q=>?_,fun _ q=>by omega,fun _ q=>by omega⟩
   split
   ·have := grp_wat (N := N) (l := childs N x ++ childs N y) (h := x.h - 1) (j := j) (by omega) (fun t ht => by
     rcases List.mem_append.1 ht with w|w
     ·have:=(c1 t w).2.1;omega
     ·have:=(d1 t w).2.1;omega)
    rw [Tr.watL_append] at this
    rw [Tr.watL,Tr.watL];omega
   ·rw [Tr.watL,Tr.watL,Tr.watL];omega
  ·split
   ·rename_i he hlt
    have w1:=wat_childs hN hx (by omega) j
    obtain ⟨c1,c2,c3,c4⟩:=childs_ok hN hx (by omega)
    generalize childs N x=l at *
    have hs:=last_split (l:=l) (z:=Tr.zero) (by omega)
    have hum:l[l.length-1]?.getD Tr.zero∈l:=by rw [List.getElem?_eq_getElem (by omega)];simp
    generalize l[l.length-1]?.getD Tr.zero=u at *
    obtain ⟨u1,u2,u3⟩:=c1 u hum
    have hm:=mergeF_ok hN n u y u1 hy (by omega)
    obtain ⟨hi,_⟩:=ih u y u1 hy (by omega)
    generalize mergeF N n u y=r at *
    have hf:=foldM_wat (N:=N) (l:=l.take (l.length-1)++r) (h:=x.h-1) (j:=j) (by omega) (fun t ht=>by
     rcases List.mem_append.1 ht with w|w
     ·have:=(c1 t (List.mem_of_mem_take w)).2.1;omega
     ·rw [hm.h t w];omega)
    have hsum:Tr.watL j l=Tr.watL j (l.take (l.length-1))+u.wat j:=by
     conv=>lhs;rw [hs]
     rw [Tr.watL_append,Tr.watL,Tr.watL];omega
    rw [Tr.watL_append] at hf
    refine ⟨fun q=>?_,fun _ q=>?_,fun q _=>by omega⟩
    ·have:=hi.lo (by omega);omega
    ·have:=hi.l (by omega) q;omega
   ·rename_i he hlt
    have w1:=wat_childs hN hy (by omega) j
    obtain ⟨c1,c2,c3,c4⟩:=childs_ok hN hy (by omega)
    generalize childs N y=l at *
    have hs:=head_split (l:=l) (z:=Tr.zero) (by omega)
    have hum:l[0]?.getD Tr.zero∈l:=by rw [List.getElem?_eq_getElem (by omega)];simp
    generalize l[0]?.getD Tr.zero=u at *
    obtain ⟨u1,u2,u3⟩:=c1 u hum
    have hm:=mergeF_ok hN n x u hx u1 (by omega)
    obtain ⟨hi,_⟩:=ih x u hx u1 (by omega)
    generalize mergeF N n x u=r at *
    have hf:=foldM_wat (N:=N) (l:=r++l.drop 1) (h:=y.h-1) (j:=j) (by omega) (fun t ht=>by
     rcases List.mem_append.1 ht with w|w
     ·rw [hm.h t w];omega
     ·have:=(c1 t (List.mem_of_mem_drop w)).2.1;omega)
    have hsum:Tr.watL j l=u.wat j+Tr.watL j (l.drop 1):=by
     conv=>lhs;rw [hs]
     rw [Tr.watL_append,Tr.watL,Tr.watL];omega
    rw [Tr.watL_append] at hf
    refine ⟨fun q=>?_,fun q _=>by omega,fun _ q=>?_⟩
    ·have:=hi.lo (by omega);omega
    ·have:=hi.r (by omega) q;omega
structure CW3 (x y:Tr) (j w:Nat):Prop where
 lo:(x.bytes=0∨y.bytes=0∨j<min x.h y.h)→w≤x.wat j+y.wat j
 l:x.bytes≠0→y.h≤x.h→y.h≤j→j≤x.h→w≤x.wat j+2
 r:y.bytes≠0→x.h≤y.h→x.h≤j→j≤y.h→w≤y.wat j+2
 any:w≤x.wat j+y.wat j+2
 hi:max x.h y.h≤j→w≤2
theorem concM_wat {N:Nodes} (hN:GoodN N) (j:Nat) {x y:Tr} (hx:VE N x) (hy:VE N y) (hb:x.bytes+y.bytes≤65536):CW3 x y j ((concM N x y).wat j):=by
 have hc:=concM_ok hN hx hy hb
 have tx:=hx.wat (j:=j)
 have ty:=hy.wat (j:=j)
 have tz:=hc.ve.wat (j:=j)
 have hh:=hc.h
 revert tz hh
 unfold concM
 split
 ·rename_i h
  intro tz hh
  refine ⟨fun _=>by omega,fun q=>absurd h q,fun _ _ _ _=>by omega,by omega,fun q=>?_⟩
  have:=(ty (by omega)).1;omega
 ·rename_i h
  split
  ·rename_i h2
   intro tz hh
   refine ⟨fun _=>by omega,fun _ _ _ _=>by omega,fun q=>absurd h2 q,by omega,fun q=>?_⟩
   have:=(tx (by omega)).1;omega
  ·rename_i h2
   have vx:=hx.val h
   have vy:=hy.val h2
   have hm:=mergeF_ok hN _ x y vx vy rfl
   obtain ⟨hw,hw2⟩:=mergeF_wat hN j _ x y vx vy rfl
   generalize mergeF N (x.h+y.h) x y=r at *
   intro tz hh
   have hg:j≠max x.h y.h+1→(grp r).wat j≤Tr.watL j r:=fun q=>grp_wat (N:=N) q hm.h
   have h2':max x.h y.h≤j→(grp r).wat j≤2:=by
    intro q
    rcases Nat.eq_or_lt_of_le q with w|w
    ·have:=hg (by omega);have:=hw2 (by omega);omega
    ·have:=(tz (by omega)).1;omega
   have ha:(grp r).wat j≤x.wat j+y.wat j+2:=by
    rcases Nat.lt_or_ge j (max x.h y.h) with q|q
    ·have:=hg (by omega)
     rcases Nat.lt_or_ge j (min x.h y.h) with w|w
     ·have:=hw.lo w;omega
     ·rcases Nat.le_total x.h y.h with z|z
      ·have:=hw.r z (by omega);omega
      ·have:=hw.l z (by omega);omega
    ·have:=h2' q;omega
   refine ⟨fun q=>?_,fun _ a b c=>?_,fun _ a b c=>?_,ha,h2'⟩
   ·have:=hg (by omega);have:=hw.lo (by omega);omega
   ·have:=hg (by omega);have:=hw.l a b;omega
   ·have:=hg (by omega);have:=hw.r a b;omega
theorem grp_hge {N:Nodes} {l:List Tr} {h:Nat} (h0:(grp l).bytes≠0) (hl:∀ t∈l,t.h=h):h≤(grp l).h:=by
 match l,hl,h0 with
 | [],_,h0=>exact absurd (zero_empty.bytes) h0
 | [t],hl,_=>rw [grp,hl t (by simp)];omega
 | t::u::r,hl,_ =>
  rw [grp_two (by simp)]
  have he:Tr.hs (t::u::r)=h:=hl t (by simp)
  simp only [Tr.h,he];omega
theorem cutF_wat {N:Nodes} (hN:GoodN N) (j:Nat):∀ n t a,VE N t→t.h=n→0≤a→a≤t.bytes→t.bytes≤65536→(cutF N n t a).1.wat j≤t.wat j+2∧(cutF N n t a).2.wat j≤t.wat j+2:=by
 intro n
 induction n with
 | zero =>
  intro t a ht hh h0 h1 hb
  rw [cutF]
  split
  ·simp only [wat_zero];omega
  ·split
   ·simp only [wat_zero];omega
   ·have e1:=wat_leaf ((lineOf N t).take a.toNat) j
    have e2:=wat_leaf ((lineOf N t).drop a.toNat) j
    simp only;omega
 | succ n ih =>
  intro t a ht hh h0 h1 hb
  have hco:=cutF_ok hN (n+1) t a ht hh h0 h1 hb
  rcases Nat.lt_or_ge n j with hj|hj
  ·have p1:=(hco.l.wat (j:=j) (by have:=hco.lh;omega)).1
   have p2:=(hco.r.wat (j:=j) (by have:=hco.rh;omega)).1
   omega
  clear hco
  rw [cutF]
  split
  ·simp only [wat_zero];omega
  ·split
   ·simp only [wat_zero];omega
   ·rename_i q1 q2
    have vt:=ht.val (by omega)
    have h16:=vt.h16
    have hwc:=wat_childs hN vt (by omega) j
    obtain ⟨c1,c2,c3,c4⟩:=childs_ok hN vt (by omega)
    generalize childs N t=l at *
    obtain ⟨s1,s2,s3,s4⟩:=skipT_ok l a (by omega) (fun u hu=>by have:=(c1 u hu).1.pos.2;omega) h0 (by omega)
    generalize hk:(skipT l a).1=k at *
    generalize hb2:(skipT l a).2=b at *
    have hl:∀ u∈l,Val N u∧u.h=n∧Big u:=fun u hu=>⟨(c1 u hu).1,by have:=(c1 u hu).2.1;omega,(c1 u hu).2.2⟩
    have ltk:(l.take k).length=k:=by rw [List.length_take];omega
    have ldk:(l.drop k).length=l.length-k:=by rw [List.length_drop]
    have g1:=grp_wat (N:=N) (l:=l.take k) (h:=n) (j:=j) (by omega) (fun u hu=>(hl u (List.mem_of_mem_take hu)).2.1)
    have hsum:Tr.bytesL l=Tr.bytesL (l.take k)+Tr.bytesL (l.drop k):=by rw [← Tr.bytesL_append,List.take_append_drop]
    have hws:Tr.watL j l=Tr.watL j (l.take k)+Tr.watL j (l.drop k):=by rw [← Tr.watL_append,List.take_append_drop]
    split
    ·have g2:=grp_wat (N:=N) (l:=l.drop k) (h:=n) (j:=j) (by omega) (fun u hu=>(hl u (List.mem_of_mem_drop hu)).2.1)
     simp only;omega
    ·rename_i hz
     obtain ⟨u,hu⟩:∃ u,l[k]?=some u:=⟨l[k],by simp [s1]⟩
     rw [hu]
     simp only [Option.getD_some]
     obtain ⟨u1,u2,u3⟩:=hl u (List.mem_of_getElem? hu)
     have hub:=s4 u hu
     have ldk1:(l.drop (k+1)).length=l.length-(k+1):=by rw [List.length_drop]
     have hdk:l.drop k=u::l.drop (k+1):=by
      have hlt:k<l.length:=s1
      rw [List.drop_eq_getElem_cons hlt]
      congr 1
      rw [List.getElem?_eq_getElem hlt] at hu
      exact Option.some.inj hu
     rw [hdk] at hsum hws
     rw [Tr.bytesL] at hsum
     rw [Tr.watL] at hws
     have g2:=grp_wat (N:=N) (l:=l.drop (k+1)) (h:=n) (j:=j) (by omega) (fun w hw=>(hl w (List.mem_of_mem_drop hw)).2.1)
     have e1:=grp_hge (N:=N) (l:=l.take k) (h:=n)
     have e2:=grp_hge (N:=N) (l:=l.drop (k+1)) (h:=n)
     obtain ⟨a1,a2,a3,a4,a5⟩:=grp_ve (l:=l.take k) (by omega) (show n+1≤16 by omega) (fun u hu=>hl u (List.mem_of_mem_take hu))
     obtain ⟨d1,d2,d3,d4,d5⟩:=grp_ve (l:=l.drop (k+1)) (by omega) (show n+1≤16 by omega) (fun w hw=>hl w (List.mem_of_mem_drop hw))
     have p1:=Tr.bytesL_nonneg (l:=l.take k) (fun w hw=>by have:=(hl w (List.mem_of_mem_take hw)).1.pos.2;omega)
     have p2:=Tr.bytesL_nonneg (l:=l.drop (k+1)) (fun w hw=>by have:=(hl w (List.mem_of_mem_drop hw)).1.pos.2;omega)
     have hc:=cutF_ok hN n u b (.inr u1) u2 s2 (by omega) (by omega)
     obtain ⟨i1,i2⟩:=ih u b (.inr u1) u2 s2 (by omega) (by omega)
     generalize cutF N n u b=r at *
     have k1:=concM_wat hN j a1 hc.l (by rw [hc.lb,a3];omega)
     have k2:=concM_wat hN j hc.r d1 (by rw [hc.rb,d3];omega)
     have lh:=hc.lh
     have rh:=hc.rh
     try simp only
     constructor
     ·by_cases z:(grp (l.take k)).bytes=0
      ·have:=k1.lo (.inl z);omega
      ·have e1:=e1 z (fun w hw=>(hl w (List.mem_of_mem_take hw)).2.1)
       rcases Nat.lt_or_ge j r.1.h with q|q
       ·have:=k1.lo (.inr (.inr (by omega)));omega
       ·have:=k1.l z (by omega) q (by omega);omega
     ·by_cases z:(grp (l.drop (k+1))).bytes=0
      ·have:=k2.lo (.inr (.inl z));omega
      ·have e2:=e2 z (fun w hw=>(hl w (List.mem_of_mem_drop hw)).2.1)
       rcases Nat.lt_or_ge j r.2.h with q|q
       ·have:=k2.lo (.inr (.inr (by omega)));omega
       ·have:=k2.r z (by omega) q (by omega);omega
def gW (h b j:Nat):Nat:=if j<h then 10 else if j=h then 6 else if j≤max h b then 4 else if j=max h b+1 then 2 else if j=max h b+2 then 1 else 0
theorem replM_wat {N:Nodes} (hN:GoodN N) (j:Nat) {t:Tr} (ht:VE N t) (hw:∀ j,t.wat j=0) {a n:Int} {s:List UInt8} (h0:0≤a) (h1:0≤n) (h2:a+n≤t.bytes) (hb:t.bytes≤65536) (hs:t.bytes-n+s.length≤65536) :
 (replM N t a n s).wat j≤(buildM s).wat j+gW t.h (buildM s).h j∧(replM N t a n s).h≤max t.h (buildM s).h+2:=by
 unfold replM
 split
 ·rw [hw];omega
 ·have c1:=cutF_ok hN t.h t a ht rfl h0 (by omega) hb
  obtain ⟨w1,w2⟩:=cutF_wat hN j t.h t a ht rfl h0 (by omega) hb
  generalize cutF N t.h t a=q at *
  obtain ⟨l,m⟩:=q
  simp only at *
  have hm:=c1.rb
  have hl:=c1.lb
  have lh:=c1.lh
  have mh:=c1.rh
  simp only at hm hl lh mh
  have c2:=cutF_ok hN m.h m n c1.r rfl h1 (by omega) (by omega)
  obtain ⟨w3,w4⟩:=cutF_wat hN j m.h m n c1.r rfl h1 (by omega) (by omega)
  generalize cutF N m.h m n=q at *
  obtain ⟨d,r⟩:=q
  simp only at *
  have hr:=c2.rb
  have rh:=c2.rh
  simp only at hr rh
  obtain ⟨b1,b2,b3⟩:=buildM_ok hN (s:=s) (by omega)
  generalize buildM s=b at *
  have k1:=concM_ok hN c1.l b1 (by rw [b3];simp only;omega)
  have v1:=concM_wat hN j c1.l b1 (by rw [b3];simp only;omega)
  have zh:=k1.h
  have k2:=concM_ok hN k1.ve c2.r (by rw [k1.bytes,b3];simp only;omega)
  have v2:=concM_wat hN j k1.ve c2.r (by rw [k1.bytes,b3];simp only;omega)
  have xh:=k2.h
  have tl:=c1.l.wat (j:=j)
  have tm:=c1.r.wat (j:=j)
  have tr:=c2.r.wat (j:=j)
  have tb:=b1.wat (j:=j)
  have t1:=k1.ve.wat (j:=j)
  have t2:=k2.ve.wat (j:=j)
  have a1:=v1.any
  have a2:=v2.any
  have x2:=v2.hi
  have hw:=hw j
  simp only at *
  generalize concM N l b=z1 at *
  generalize concM N z1 r=z2 at *
  clear k1 k2 v1 v2 c1 c2 b2
  refine ⟨?_,by omega⟩
  unfold gW
  split
  ·omega
  ·split
   ·have:=(tl (by omega)).1
    have:=(tr (by omega)).1
    omega
   ·have:=(tl (by omega)).2 (by omega)
    have:=(tr (by omega)).2 (by omega)
    split
    ·omega
    ·split
     ·have:=x2 (by omega);omega
     ·split
      ·have:=(t2 (by omega)).1;omega
      ·have:=(t2 (by omega)).2 (by omega);omega
end Go.Q15
namespace Go.Q15
open Go Go.QAbs
set_option maxRecDepth 100000
set_option maxHeartbeats 8000000
def onceS (w:List Nat) (h:Nat):List Nat:=if h∈w then w else w++[h]
end Go.Q15
namespace Go.Q15
open Go Go.QAbs
set_option maxRecDepth 100000
set_option maxHeartbeats 8000000
theorem flat_get {x:List UInt8} {l:List (List UInt8)} {i:Nat} (h:l[i]?=some x):(l.take (i+1)).flatten=(l.take i).flatten++x:=by
 rw [List.take_add_one,h];simp
theorem flat_le (l:List (List UInt8)) (i:Nat):(l.take i).flatten.length≤l.flatten.length:=by
 have:=congrArg List.length (congrArg List.flatten (List.take_append_drop i l))
 rw [List.flatten_append,lL] at this
 omega
theorem rtText_c {st:St} {la b:Nat} {N:Nodes} (hN:GoodN N) (hR:Rd st la (b+5) N) {r:Ro} (hr:RtOk N r) (hlim:(leavesOf N (nodesR N r)).flatten.length≤65536):S T3 F_rope_Text [.ptr la (b+5) 0 0 0,r.av] st=some (.tup [.str (leavesOf N (nodesR N r)).flatten,.int .i64 0],st):=by
 refine s_of (le3 F_rope_Text (.pf p_rope_Text) rfl) (fun A hA=>?_)
 have hL:=fun L=>Leaves_c hN (hR.push hA (ro:=false) (L:=L)) hr
 have hll:(leavesOf N (nodesR N r)).length<4000000000:=by have:=leavesOf_len N (nodesR N r);have:=nodesR_len hN hr;omega
 unfold Ro.av at *
 generalize leavesOf N (nodesR N r)=l at *
 repeat' (first|refine ru_seq ?_|refine ru_reg ?_|refine is_mv rfl ?_|refine is_ldc rfl rfl rfl rfl ?_|refine is_ext rfl rfl ?_|refine is_nil rfl ?_|refine rk_seq ?_|refine is_lenM rfl ?_|(refine is_neq rfl rfl (fun _=>?_) (fun _=>?_)<;>try (exfalso;omega))|refine ru_iteF rfl ?_|refine is_box rfl rfl rfl ?_|refine is_onil rfl ?_|refine is_callE rfl rfl rfl (hL _) ?_|refine ru_skip ?_|refine ru_block ?_)
 all_goals try contradiction
 all_goals try (exfalso;omega)
 refine ru_loopP (α:=Nat) (fun i=>[(8,.ref A.length 1 i 0 (l.take i).flatten.length),(20,.lit (l.map .str)),(21,.int .i64 l.length),(22,.int .i64 i)])
  (fun i=>⟨A,false,[.arr 5 0 [r.av],.arr 1 i (bytesAV (l.take i).flatten)]⟩) (fun i=>i≤l.length) (fun i=>l.length-i) 0 rfl rfl (by simp) ?_
 rintro i hi
 have hfl:=flat_le l i
 repeat' (first|refine ru_seq ?_|refine ru_reg ?_|refine is_mv rfl ?_|refine is_nil rfl ?_|refine rk_seq ?_|refine is_ldl rfl rfl ?_|refine is_ixM rfl rfl (by omega) (fun _=>rfl) (fun _ _=>?_)|(refine is_lss rfl rfl (fun _=>?_) (fun _=>?_)<;>try (exfalso;omega))|refine ru_iteT rfl ?_|refine ru_iteF rfl ?_|refine ru_skip ?_|refine ru_exit ?_|refine ru_block ?_|refine rk_seq_ex ?_|refine rk_blk_eq rfl ?_|refine rk_inv_ex ?_)
 ·rename_i x hx
  have hx2:l[i]?=some x:=hx
  have hf2:=flat_le l (i+1)
  rw [flat_get hx2] at hf2
  rw [lL] at hf2
  refine is_appc (ix:=1) (ver:=i) (n:=(l.take i).flatten.length) (es:=bytesAV (l.take i).flatten) (vx:=.str x) (ys:=bytesAV x) rfl rfl rfl ?_ (bytesAV_len _).symm ?_ (by decide) (bytes_wide _) (bytes_seal _ _ _) rfl ?_
  ·rfl
  ·rw [bytesAV_len,bytesAV_len];omega
  repeat' (first|refine ru_reg ?_|refine is_mv rfl ?_|refine is_nil rfl ?_|refine rk_seq ?_|refine is_addS rfl rfl (by omega) ?_|refine rk_blk ?_|refine rk_inv ?_)
  refine ⟨i+1,⟨?_,?_⟩,by omega,by omega⟩
  ·simp only [flat_get hx2,lL,bytesAV_len];rfl
  ·simp only [flat_get hx2,bytesAV_append]
 ·have hi':i=l.length:=by omega
  subst hi'
  rw [List.take_length]
  skip
  refine is_b2s rfl (v:=.str l.flatten) ?_ ?_
  ·have hl:=bytesAV_len l.flatten
   show (refB l.length 0 l.flatten.length (St.get _ A.length 1)).bind _=_
   rw [St.get_cur]
   show (refB l.length 0 l.flatten.length (some (Blk.arr 1 l.length (bytesAV l.flatten)))).bind _=_
   simp only [refB,true_and,hl,Nat.zero_add,Nat.le_refl,if_true,List.drop_zero,oS]
   rw [List.take_of_length_le (by omega),allBytes_bytes];rfl
  repeat' (first|refine is_mv rfl ?_|refine is_nil rfl ?_|refine rk_seq ?_|refine ru_ret ?_|refine rk_nil ?_)
  refine end_st hA (by first|exact .inl rfl|exact .inr rfl) rfl rfl rfl rfl ?_
  rfl
end Go.Q15
namespace Go.Q15
open Go Go.QAbs
set_option maxRecDepth 100000
set_option maxHeartbeats 8000000
theorem PI.ok {r:AR} (ho:AROk r) (hg:GoodN r.nodes) {t:Tr} (hv:VE r.nodes t) (hb:t.bytes≤65536) (hn:nw t≤r.n) {its:List It} {rx:Nat} {ρ:Nat→Ro} (h:PI t its rx ρ) :
 WrB r (nw t) (wrV t r).1 (wrV t r).2.2∧(IsEmpty t∧(wrV t r).2.1=.zero∨Val r.nodes t∧WrOk r.nodes t (wrV t r).1 (wrV t r).2.1):=by
 rcases h with ⟨h1,_,h2⟩|⟨⟨M,hM⟩,R,h1,h2,h3⟩
 ·have e:nw t=0:=by unfold nw;rw [if_pos ⟨h1.old,h1.h,h1.text⟩]
  rw [wrV_empty h1,e];exact ⟨.refl ho hg,.inl ⟨h1,rfl⟩⟩
 ·rcases hv with hv|hv
  ·exact absurd hv hM.not_empty
  ·rw [wrV_val hv,nw_val hv]
   rw [nw_val hv] at hn
   obtain ⟨ρ',a1,a2,a3,a4,a5⟩:=exec_ok hg hv hb r ho hg (.refl _) hn rx its R ρ h1 h2 h3
   exact ⟨a4,.inr ⟨hv,a5⟩⟩
theorem wr_ok {st:St} {la b:Nat} {r:AR} (hA:Has st la b r) (ho:AROk r) (hg:GoodN r.nodes) {t:Tr} (hv:VE r.nodes t) (hb:t.bytes≤65536) (hn:nw t≤r.n) :
 WrB r (nw t) (wrV t r).1 (wrV t r).2.2∧(IsEmpty t∧(wrV t r).2.1=.zero∨Val r.nodes t∧WrOk r.nodes t (wrV t r).1 (wrV t r).2.1):=by
 obtain ⟨L2,tx,ver,cs,its,F,keys,rx,ρ,hS,hB⟩:=begin_c (L:=[]) (hA.push rfl).r ho.nb ho.n16 (by have:=ho.nn;have:=ho.n16;omega) hv hb hn
 exact hB.pi.ok ho hg hv hb hn
def textR (N:Nodes) (r:Ro):List UInt8:=if r.at_=0 then [] else textH N r.h r.at_
structure Rt (N:Nodes) (r:Ro) (s:List UInt8):Prop where
 rt:RtOk N r
 tx:textR N r=s
theorem RtOk.ext {N M:Nodes} (hE:Ext N M) {r:Ro} (h:RtOk N r):RtOk M r:=h.imp id fun ⟨h0,x,h1,h2⟩=>⟨h0,x,hE _ _ h1,h2⟩
theorem Rt.ext {N M:Nodes} (hN:GoodN N) (hE:Ext N M) {r:Ro} {s:List UInt8} (h:Rt N r s):Rt M r s:=by
 refine ⟨h.rt.ext hE,?_⟩
 rw [← h.tx]
 unfold textR
 split
 ·rfl
 ·rename_i q
  rcases h.rt with e|⟨_,x,h1,_,h2,_⟩
  ·rw [e] at q;exact absurd rfl q
  ·exact textH_ext hN hE _ _ x h1 h2
theorem Rt.zero (N:Nodes):Rt N .zero []:=⟨.inl rfl,rfl⟩
theorem Rt.m {N:Nodes} (hN:GoodN N) {r:Ro} {s:List UInt8} (h:Rt N r s):r.m=meaT s:=by
 obtain ⟨h,rfl⟩:=h
 unfold textR
 rcases h with rfl|⟨h0,x,h1,h2,h3,h4⟩
 ·rfl
 ·rw [if_neg h0,textH_mea hN _ _ x h1 h3,h4]
theorem Rt.wr {r:AR} (ho:AROk r) {N:Nodes} {t:Tr} {ro:Ro} (h:WrOk N t r ro):Rt r.nodes ro (t.txt N):=by
 obtain ⟨y,h1,h2,h3,h4⟩:=h.live
 have h0:=(ho.hnd h1).2
 refine ⟨.inr ⟨h0,y,h1,h2,by rw [h3,h.rh],by rw [h4,h.rm]⟩,?_⟩
 unfold textR
 rw [if_neg h0,h.rh,h.txt]
theorem Rt.keep {N:Nodes} {r:Ro} {s:List UInt8} (h:Rt N r s):VE N (keepT r)∧(keepT r).txt N=s:=by
 obtain ⟨h,rfl⟩:=h
 unfold textR keepT
 rcases h with rfl|⟨h0,x,h1,h2,h3,h4⟩
 ·rw [if_pos (by rfl),if_pos (by rfl)];exact ⟨.inl zero_empty,rfl⟩
 ·rw [if_neg h0,if_neg h0]
  exact ⟨.inr (.kept h0 h1 h2 h3 h4 rfl),by rw [Tr.keep,Tr.txt,if_neg h0];simp [Tr.txtO]⟩
theorem Rt.b {N:Nodes} (hN:GoodN N) {r:Ro} {s:List UInt8} (h:Rt N r s):(keepT r).bytes=s.length∧r.m.b=s.length:=by
 have h1:=h.keep
 have h2:=h1.1.len hN
 rw [h1.2] at h2
 exact ⟨h2.symm,by rw [h.m hN];rfl⟩
theorem wr_rt {st:St} {la b:Nat} {r:AR} (hA:Has st la b r) (ho:AROk r) (hg:GoodN r.nodes) {t:Tr} (hv:VE r.nodes t) (hb:t.bytes≤65536) (hn:nw t≤r.n) :
 WrB r (nw t) (wrV t r).1 (wrV t r).2.2∧Rt (wrV t r).1.nodes (wrV t r).2.1 (t.txt r.nodes):=by
 obtain ⟨h1,h2⟩:=wr_ok hA ho hg hv hb hn
 refine ⟨h1,?_⟩
 rcases h2 with ⟨he,h2⟩|⟨hv,h2⟩
 ·rw [h2,he.txt];exact .zero _
 ·exact .wr h1.ok h2
theorem leavesOf_append (N:Nodes) (v w:List Nat):leavesOf N (v++w)=leavesOf N v++leavesOf N w:=by unfold leavesOf;rw [List.filterMap_append]
theorem leaves_flat {N:Nodes} (hN:GoodN N):∀ n o x,lk N o=some x→x.h=n→(leavesOf N (preH N n o)).flatten=textH N n o:=by
 intro n
 induction n with
 | zero =>
  intro o x hx hh
  rw [preH,textH,hx]
  simp [leavesOf,ndAt_of hx,hh]
 | succ n ih =>
  intro o x hx hh
  rw [preH,textH,hx,ndAt_of hx]
  have h0:leavesOf N [o]=[]:=by simp [leavesOf,ndAt_of hx];omega
  have e:=leavesOf_append N [o] (x.ks.flatMap fun k=>preH N n k.at_)
  rw [h0] at e
  simp only [Option.map_some,Option.getD_some]
  rw [show (o::x.ks.flatMap fun k=>preH N n k.at_)=[o]++x.ks.flatMap fun k=>preH N n k.at_ from rfl,e,lE]
  have hk:=(hN o x hx).2
  have key:∀ l:List Kid,(∀ k∈l,k∈x.ks)→(leavesOf N (l.flatMap fun k=>preH N n k.at_)).flatten=l.flatMap fun k=>textH N n k.at_:=by
   intro l
   induction l with
   | nil=>intro _;rfl
   | cons k l ih2 =>
    intro h
    obtain ⟨_,y,y1,y2,_⟩:=hk k (h k (by simp))
    rw [List.flatMap_cons,List.flatMap_cons,leavesOf_append,List.flatten_append,ih k.at_ y y1 (by omega),ih2 (fun q hq=>h q (by simp [hq]))]
  exact key _ fun _ h=>h
theorem Rt.leaves {N:Nodes} (hN:GoodN N) {r:Ro} {s:List UInt8} (h:Rt N r s):(leavesOf N (nodesR N r)).flatten=s:=by
 obtain ⟨h,rfl⟩:=h
 unfold textR nodesR
 split
 ·rfl
 ·rename_i q
  rcases h with rfl|⟨_,x,h1,_,h2,_⟩
  ·exact absurd rfl q
  ·exact leaves_flat hN _ _ x h1 h2
end Go.Q15
namespace Go.Q15
open Go Go.QAbs
set_option maxRecDepth 100000
set_option maxHeartbeats 8000000
theorem has_cur (A:List (Bool × List Blk)) (L0 T:List Blk) (r:AR):Has ⟨A,false,L0++(arB A.length L0.length r++T)⟩ A.length L0.length r:=by
 have h:∀ i b,(arB A.length L0.length r++T)[i]?=some b→vis (some b)=some b→St.get ⟨A,false,L0++(arB A.length L0.length r++T)⟩ A.length (L0.length+i)=some b:=by
  intro i b hb hv
  rw [St.get_cur,get_app,hb,hv]
 exact ⟨by simp [St.wr],h 0 _ rfl rfl,h 1 _ rfl rfl,h 2 _ rfl rfl,h 3 _ rfl rfl,h 4 _ rfl rfl,h 5 _ rfl rfl⟩
theorem arSt_cur (A:List (Bool × List Blk)) (L0 T:List Blk) (r r':AR):arSt ⟨A,false,L0++(arB A.length L0.length r++T)⟩ A.length L0.length r'=⟨A,false,L0++(arB A.length L0.length r'++T)⟩:=by
 have h:∀ (X:List Blk) (i:Nat) (b:Blk),St.upd ⟨A,false,L0++X⟩ A.length (L0.length+i) b=⟨A,false,L0++X.set i b⟩:=fun X i b=>by
  unfold St.upd
  simp only [if_true,set_app]
 have h0:∀ (X:List Blk) (b:Blk),St.upd ⟨A,false,L0++X⟩ A.length L0.length b=⟨A,false,L0++X.set 0 b⟩:=fun X b=>h X 0 b
 simp only [arSt,arK,arB,putC,h,h0]
 rfl
theorem end_ro {e:Env} {A:List (Bool × List Blk)} {st:St} {L:List Blk} {x:Ex} {c4 c5 j4 w4 v4:Nat} {ro:Ro} {z:Int} (hA:A=st.A++[(st.ro,st.L)]) (hx:x=.norm∨x=.ret) (h4:lookO e c4=some (.ptr A.length j4 v4 0 0)) (hg4:L[j4]?=some (.arr w4 v4 [ro.av]))
 (h6:lookO e c5=some (.int .i64 z)):endK false [.c c4 true 5,.s c5] (x,e,⟨A,false,L⟩)=some (.tup [ro.av,.int .i64 z],st):=by
 refine end_of (v:=.tup [ro.av,.int .i64 z]) hA hx ?_ (L':=L) rfl rfl
 have h1:resV ⟨A,false,L⟩ e (.c c4 true 5)=some ro.av:=by
  simp only [resV,lookO_some h4,loadP,St.get_cur,hg4,vis,loadB,if_true,List.getElem?_cons_zero,oS]
  rfl
 simp only [result,resL,h1,oS]
 simp only [resV,lookO_some h6,oS,Option.map_some,tupOf]
theorem rtNew_c {st:St} {la b:Nat} {r:AR} (hA:Has st la b r) (ho:AROk r) (hg:GoodN r.nodes) (s:List UInt8) (hs:s.length≤65536) (hn:nw (buildM s)≤r.n) :
 S Tb F_rope_New [.ptr la (b+5) 0 0 0,.str s] st=some (.tup [(wrV (buildM s) r).2.1.av,.int .i64 0],arSt st la b (wrV (buildM s) r).1):=by
 obtain ⟨b1,b2,b3⟩:=buildM_ok hg hs
 refine s_ofW rfl (fun A hA'=>?_)
 have hB:=fun L=>Build_c hg s hs ⟨A,false,L⟩
 have hle:=hA.le
 have hW:=fun L=>Write_c (st:=⟨A,false,L⟩) (hA.push hA') ho hg b1 (by rw [b3];omega) hn
 simp only [arSt_push hA' hle] at hW
 generalize (wrV (buildM s) r).1=r' at *
 generalize (wrV (buildM s) r).2.1=ro at *
 repeat' (first|refine ru_seq ?_|refine ru_reg ?_|refine is_mv rfl ?_|refine is_ext rfl rfl ?_|refine is_nil rfl ?_|refine rk_seq ?_|(refine is_neq rfl rfl (fun _=>?_) (fun _=>?_)<;>try (exfalso;omega))|refine ru_iteF rfl ?_|refine is_eqs rfl rfl rfl rfl ?_|refine is_box rfl rfl rfl ?_|refine is_ldc rfl rfl rfl (tr_part _) ?_|refine is_stb rfl rfl rfl (tr_seal _ _ _) (tr_put _ _) rfl ?_|refine is_callE rfl rfl (by first|rfl|(simp only [lE,lN,lC,weaks,tr_weak,forceL];first|done|rfl)) (hB _) ?_|refine ru_skip ?_)
 all_goals try contradiction
 all_goals try (exfalso;omega)
 obtain ⟨A2,hA2⟩:∃ A2,A2=(arSt st la b r').ps:=⟨_,rfl⟩
 simp only [← hA2] at hW
 have hAl:A.length=A2.length:=by rw [hA',hA2];simp [St.ps,arSt_A]
 refine is_callE rfl rfl (wkPT0 rfl _) (hW _) ?_
 rw [hAl]
 repeat' (first|refine is_stn rfl rfl rfl rfl rfl rfl ?_|refine is_ldc rfl rfl rfl rfl ?_|refine ru_seq ?_|refine ru_reg ?_|refine is_mv rfl ?_|refine is_ext rfl rfl ?_|refine is_nil rfl ?_|refine rk_seq ?_|refine is_box rfl rfl rfl ?_|refine ru_ret ?_|refine rk_nil ?_)
 exact end_ro hA2 (.inr rfl) rfl rfl rfl
end Go.Q15
namespace Go.Q15
open Go Go.QAbs
set_option maxRecDepth 100000
set_option maxHeartbeats 8000000
theorem newAR_ok (n g:Nat) (hn:n≤16384) (hg:1≤g∧g≤4294967295):AROk (newAR n g):=by
 have hb:∀ i,i<n→(newAR n g).blk[i]?=some ((n:Int)-1-i):=fun i hi=>by simp [newAR,hi]
 refine ⟨by simp [newAR],by simp [newAR];exact hn,by simp [newAR],by simp [newAR],fun i hi=>⟨n-1-i,?_,?_,?_⟩,fun i j hi hj q=>?_,fun s hs=>⟨1,?_,by omega,?_⟩,?_,fun h x hx=>?_,?_,?_,?_⟩
 ·have hi':i<n:=hi
  rw [hb i hi'];congr 1
  show (n:Int)-1-i=((n-1-i:Nat):Int)
  omega
 ·have hi':i<n:=hi
  show n-1-i<(List.replicate n (0:Int)).length
  rw [List.length_replicate];omega
 ·have hi':i<n:=hi
  show (List.replicate n (0:Int))[n-1-i]?=some 0
  rw [List.getElem?_replicate,if_pos (by omega)]
 ·have hi':i<n:=hi
  have hj':j<n:=hj
  rw [hb i hi',hb j hj'] at q
  have:=Option.some.inj q
  omega
 ·have hs':s<n:=by simpa [newAR] using hs
  simp [newAR,hs']
 ·show ((1:Nat):Int)≤(g:Int);omega
 ·show (g:Int)≤_;omega
 ·simp [newAR,lk] at hx
 ·simp [newAR]
 ·simp [newAR]
 ·simp [newAR];omega
def Rts (N:Nodes) (ros:List Ro) (ss:List (List UInt8)):Prop:=ros.length=ss.length∧∀ (i:Nat) (ro:Ro) (s:List UInt8),ros[i]?=some ro→ss[i]?=some s→Rt N ro s
theorem Rts.ext {N M:Nodes} (hN:GoodN N) (hE:Ext N M) {ros:List Ro} {ss:List (List UInt8)} (h:Rts N ros ss):Rts M ros ss:=⟨h.1,fun i ro s h1 h2=>(h.2 i ro s h1 h2).ext hN hE⟩
theorem Rts.snoc {N:Nodes} {ros:List Ro} {ss:List (List UInt8)} (h:Rts N ros ss) {ro:Ro} {s:List UInt8} (g:Rt N ro s):Rts N (ros++[ro]) (ss++[s]):=by
 refine ⟨by simp [h.1],fun i r t h1 h2=>?_⟩
 rcases Nat.lt_or_ge i ros.length with q|q
 ·rw [List.getElem?_append_left q] at h1
  rw [List.getElem?_append_left (by rw [← h.1];exact q)] at h2
  exact h.2 i r t h1 h2
 ·rw [List.getElem?_append_right q] at h1
  rw [List.getElem?_append_right (by rw [← h.1];exact q)] at h2
  rw [← h.1] at h2
  match hk:i-ros.length with
  | 0=>rw [hk] at h1 h2;obtain rfl:=Option.some.inj h1;obtain rfl:=Option.some.inj h2;exact g
  | n+1=>rw [hk] at h1;simp at h1
end Go.Q15
namespace Go.Q15
open Go Go.QAbs
set_option maxRecDepth 100000
set_option maxHeartbeats 8000000
def pickM (x n:Int):Int:=(x % 18446744073709551616) % (n+1)
theorem pickM_bounds {x n:Int} (h:0≤n):0≤pickM x n∧pickM x n≤n:=by
 unfold pickM
 have:=Int.emod_nonneg (x % 18446744073709551616) (show n+1≠0 by omega)
 have:=Int.emod_lt_of_pos (x % 18446744073709551616) (show 0<n+1 by omega)
 omega
theorem wrapU (x:Int):IntKind.u64.wrap x=x % 18446744073709551616:=by
 have e1:IntKind.u64.signed=false:=rfl
 have e2:IntKind.u64.bits=64:=rfl
 simp only [IntKind.wrap,e1,e2,Bool.false_and,if_false,Bool.false_eq_true]
 rfl
end Go.Q15
namespace Go.Q15
open Go Go.QAbs
set_option maxRecDepth 100000
set_option maxHeartbeats 1000000
theorem ownO_getD (k:Option (List Tr)):(Tr.ownO k).getD []=(k.getD []).map Tr.own:=by
 cases k with
 | none=>rfl
 | some l=>simp [Tr.ownO,Tr.ownL_map]
theorem own_h (t:Tr):t.own.h=t.h:=by cases t;rfl
theorem own_bytes (t:Tr):t.own.bytes=t.bytes:=by
 induction t using Tr.ind with
 | step o h m s k ih =>
  rw [Tr.own,Tr.bytes,Tr.bytes,Tr.bytesO_getD,Tr.bytesO_getD,ownO_getD]
  generalize k.getD []=l at ih
  congr 1
  induction l with
  | nil=>rfl
  | cons a l ih2=>rw [List.map_cons,Tr.bytesL,Tr.bytesL,ih a (by simp),ih2 (fun t ht=>ih t (by simp [ht]))]
theorem own_txt (N:Nodes) (t:Tr):t.own.txt N=t.txt N:=by
 induction t using Tr.ind with
 | step o h m s k ih =>
  rw [Tr.own,Tr.txt,Tr.txt,Tr.txtO_getD,Tr.txtO_getD,ownO_getD]
  generalize k.getD []=l at ih
  congr 1
  induction l with
  | nil=>rfl
  | cons a l ih2=>rw [List.map_cons,Tr.txtL,Tr.txtL,ih a (by simp),ih2 (fun t ht=>ih t (by simp [ht]))]
theorem own_val {N:Nodes} {t:Tr} (hv:Val N t):Val N t.own:=by
 induction hv with
 | kept h0 hx hok hh hm hk =>
  rw [Tr.own]
  exact .kept h0 hx hok hh hm (by rw [ownO_getD,hk];rfl)
 | leaf h1 h2 hk =>
  rw [Tr.own]
  exact .leaf h1 h2 (by rw [ownO_getD,hk];rfl)
 | inner hh h2 h4 hl hb hv ih =>
  rename_i h l
  rw [Tr.own,Tr.ownO,Tr.ownL_map]
  refine .inner hh (by rw [List.length_map];exact h2) (by rw [List.length_map];exact h4) ?_ ?_ ?_
  ·intro t ht
   obtain ⟨u,hu,rfl⟩:=List.mem_map.1 ht
   rw [own_h];exact hl u hu
  ·intro t ht q
   obtain ⟨u,hu,rfl⟩:=List.mem_map.1 ht
   rw [own_bytes];exact hb u hu q
  ·intro t ht
   obtain ⟨u,hu,rfl⟩:=List.mem_map.1 ht
   exact ih u hu
theorem own_ve {N:Nodes} {t:Tr} (h:VE N t):VE N t.own:=by
 rcases h with h|h
 ·obtain ⟨o,h',m,s,k⟩:=t
  obtain ⟨h1,h2,h3,h4,h5⟩:=h
  exact .inl ⟨h1,h2,h3,h4,by show (Tr.ownO k).getD []=[];rw [ownO_getD];simp only [Tr.ks] at h5;rw [h5];rfl⟩
 ·exact .inr (own_val h)
end Go.Q15
namespace Go.Q15
open Go Go.QAbs
set_option maxRecDepth 100000
set_option maxHeartbeats 8000000
theorem pick_c (x n:Int) (h0:0≤n) (h1:n<4611686018427387904) (st:St):S Tb F_quartolaw16_pick [.int .i64 x,.int .i64 n] st=some (.int .i64 (pickM x n),st):=by
 have hp:=pickM_bounds (x:=x) h0
 have hw:IntKind.u64.wrap (n+1)=n+1:=by rw [wrapU];omega
 have hx:=Int.emod_nonneg x (show (18446744073709551616:Int)≠0 by decide)
 have hrem:binV .rem (.int .u64 (IntKind.u64.wrap x)) (.int .u64 (n+1))=some (.int .u64 (pickM x n)):=by
  rw [wrapU]
  show (if n+1=0 then none else some (AV.int .u64 ((x % 18446744073709551616).tmod (n+1))))=_
  rw [if_neg (by omega),Int.tmod_eq_emod_of_nonneg hx];rfl
 refine s_of rfl (fun A hA=>?_)
 repeat' (first|refine ru_seq ?_|refine ru_reg ?_|refine is_mv rfl ?_|refine is_nil rfl ?_|refine rk_seq ?_)
 refine is_cint rfl ?_
 repeat' (first|refine is_mv rfl ?_|refine is_addS rfl rfl (by omega) ?_)
 refine is_cintW rfl hw ?_
 refine is_bin rfl rfl hrem ?_
 refine is_cintW rfl (wrap64 (by omega) (by omega)) ?_
 repeat' (first|refine is_mv rfl ?_|refine is_nil rfl ?_|refine rk_seq ?_|refine ru_ret ?_|refine rk_nil ?_)
 refine end_st hA (by first|exact .inl rfl|exact .inr rfl) rfl rfl rfl rfl ?_
 rfl
structure Ed where
 what:Nat
 n:Int
 at_:Int
 len:Int
 text:List UInt8
def Ed.av (y:Ed):AV:=.agg [.int .u8 y.what,.int .i64 y.n,.int .i64 y.at_,.int .i64 y.len,.str y.text]
theorem ro_part (r:Ro):partOf r.av true 0 5=some r.av:=by cases r;rfl
theorem len1L {O:Orc} {k:List Fr} {Q:Post} {e:Env} {st:St} {keep:List Nat} {is:List QAbs.PI} {d:Nat} {α:Type} {f:α→AV} {x:Opd} {l:List α} (hx:opdO e x=some (.lit (l.map f))) (h:Is O is keep k Q ((d,.int .i64 l.length)::e) st):Is O (⟨some d,none,false,.len 1 x⟩::is) keep k Q e st:=by
 refine is_lenL hx ?_
 rw [List.length_map];exact h
theorem wkPTIIS {lv ix:Nat} {t:Tr} {n m:Int} {s:List UInt8}:forceL (weaks ([]++[.ptr lv ix 0 0 0,t.av,.int .i64 n,.int .i64 m,.str s]++[]))=some [.ptr lv ix 0 0 0,t.av,.int .i64 n,.int .i64 m,.str s]:=by
 simp only [lE,lN,lC,weaks,tr_weak,forceL];rfl
structure PlanOk (N:Nodes) (ros:List Ro):Prop where
 rt:∀ r∈ros,RtOk N r∧(keepT r).bytes=r.m.b∧0≤r.m.b∧r.m.b≤60000
 len:ros.length<65536
theorem Rts.plan {N:Nodes} (hN:GoodN N) {ros:List Ro} {ss:List (List UInt8)} (h:Rts N ros ss) (hl:ros.length<65536) (hs:∀ s∈ss,s.length≤60000):PlanOk N ros:=by
 refine ⟨fun r hr=>?_,hl⟩
 obtain ⟨i,hi,rfl⟩:=List.getElem_of_mem hr
 have hi2:i<ss.length:=by rw [← h.1];exact hi
 have g:=h.2 i _ _ (List.getElem?_eq_getElem hi) (List.getElem?_eq_getElem hi2)
 obtain ⟨b1,b2⟩:=g.b hN
 have:=hs _ (List.getElem_mem hi2)
 exact ⟨g.rt,by rw [b1,b2],by omega,by omega⟩
theorem RtOk.keep {N:Nodes} {r:Ro} (h:RtOk N r):VE N (keepT r):=(Rt.keep ⟨h,rfl⟩).1
end Go.Q15
namespace Go.Q15
open Go Go.QAbs
set_option maxRecDepth 100000
set_option maxHeartbeats 8000000
def longF:Nat→List (List UInt8)→Nat
 | n,[]=>n
 | n,t::ts=>if n≤900 then longF (n+min t.length 1000) ts else n
def longP (l:List (List UInt8)):Prop:=4<l.length∨900<longF 0 l
instance (l:List (List UInt8)):Decidable (longP l):=by unfold longP;infer_instance
theorem longF_ge:∀ (l:List (List UInt8)) (n:Nat),n≤longF n l
 | [],n=>by simp [longF]
 | t::ts,n=>by
  rw [longF]
  by_cases h:n≤900
  ·rw [if_pos h];have:=longF_ge ts (n+min t.length 1000);omega
  ·rw [if_neg h];exact Nat.le_refl _
theorem longF_sum:∀ (l:List (List UInt8)) (n:Nat),longF n l≤900→n+(l.map List.length).sum≤900
 | [],n,h=>by simpa [longF] using h
 | t::ts,n,h=>by
  rw [longF] at h
  by_cases hn:n≤900
  ·rw [if_pos hn] at h
   have h1:=longF_ge ts (n+min t.length 1000)
   have h2:=longF_sum ts _ h
   rw [List.map_cons,List.sum_cons];omega
  ·rw [if_neg hn] at h;omega
def manyQ (l:List Ed):Prop:=(∃ s∈l.take 100,200<s.text.length)∨60<l.length
open Classical in
noncomputable instance (l:List Ed):Decidable (manyQ l):=Classical.propDecidable _
theorem manyQ_no {l:List Ed} (h:¬ manyQ l):l.length≤60∧∀ s∈l,s.text.length≤200:=by
 have h1:l.length≤60:=by
  rcases Nat.lt_or_ge 60 l.length with q|q
  ·exact absurd (.inr q) h
  ·exact q
 refine ⟨h1,fun s hs=>?_⟩
 rcases Nat.lt_or_ge 200 s.text.length with q|q
 ·refine absurd (.inl ⟨s,?_,q⟩) h
  rw [List.take_of_length_le (by omega)];exact hs
 ·exact q
theorem longP_no {l:List (List UInt8)} (h:¬ longP l):l.length≤4∧(l.map List.length).sum≤900:=by
 have h1:¬ 4<l.length:=fun q=>h (.inl q)
 have h2:¬ 900<longF 0 l:=fun q=>h (.inr q)
 have:=longF_sum l 0 (by omega)
 exact ⟨by omega,by omega⟩
end Go.Q15
namespace Go.QAbs
end Go.QAbs
namespace Go.Q15
open Go Go.QAbs
set_option maxRecDepth 100000
set_option maxHeartbeats 8000000
end Go.Q15
namespace Go.Q15
open Go Go.QAbs
set_option maxRecDepth 100000
set_option maxHeartbeats 8000000
def liveP (r:AR) (o:Nat):Prop:=handleP o∧r.states[o % 65536]?=some 1∧r.gens[o % 65536]?=some ((o / 65536:Nat):Int)
instance (r:AR) (o:Nat):Decidable (liveP r o):=by unfold liveP;exact inferInstance
theorem AROk.live {r:AR} (h:AROk r) {o:Nat} {x:Nd} (hx:lk r.nodes o=some x):liveP r o∧o<18446744073709551616:=by
 obtain ⟨s,g,k1,k2,k3,k4⟩:=h.key o x hx
 obtain ⟨h1,h2⟩:=h.hnd hx
 have:=h.n16
 have hm:o % 65536=s:=by omega
 have hd:o / 65536=g:=by omega
 unfold liveP
 rw [hm,hd]
 refine ⟨⟨h1,k3,k4⟩,?_⟩
 unfold handleP at h1
 omega
end Go.Q15
namespace Go.Q15
open Go Go.QAbs
set_option maxRecDepth 100000
set_option maxHeartbeats 8000000
end Go.Q15
namespace Go.Q15
open Go Go.QAbs
set_option maxRecDepth 100000
set_option maxHeartbeats 16000000
end Go.Q15
namespace Go.Q15
open Go Go.QAbs
set_option maxRecDepth 100000
set_option maxHeartbeats 16000000
theorem RtOk.size {N:Nodes} (hN:GoodN N) {r:Ro} (h:RtOk N r) (h1:1≤r.h):(leastB r.h:Int)≤r.m.b:=by
 rcases h with rfl|⟨h0,x,h2,h3,h4,h5⟩
 ·simp [Ro.zero] at h1
 ·have hv:=(Rt.keep (N:=N) (r:=r) ⟨.inr ⟨h0,x,h2,h3,h4,h5⟩,rfl⟩).1
  have hk:keepT r=.keep r:=by unfold keepT;rw [if_neg h0]
  rw [hk] at hv
  rcases hv with q|q
  ·exact absurd q.old h0
  ·have:=q.size hN (fun q=>by simp only [Tr.keep,Tr.h] at q;omega)
   simpa [Tr.keep,Tr.h,Tr.bytes,Tr.bytesO] using this
end Go.Q15
namespace Go.Q15
open Go Go.QAbs
set_option maxRecDepth 100000
set_option maxHeartbeats 16000000
end Go.Q15
namespace Go.Q15
open Go Go.QAbs
set_option maxRecDepth 100000
set_option maxHeartbeats 16000000
theorem guards {texts:List (List UInt8)} {ys:List Ed} (hl:¬ longP texts) (hm:¬ manyQ ys):(texts.flatten.length≤900∧texts.length≤4)∧ys.length≤60∧∀ y∈ys,y.text.length≤200:=by
 refine ⟨?_,manyQ_no hm⟩
 have:=longP_no hl
 rw [List.length_flatten]
 omega
end Go.Q15
namespace Go.Q15
open Go Go.QAbs
set_option maxRecDepth 100000
set_option maxHeartbeats 8000000
def AR.give (r:AR) (o:Nat):AR :=
 if r.gens[o % 65536]?=some r.most then { r with states:=r.states.set (o % 65536) 2 }
 else { r with gens:=r.gens.set (o % 65536) ((o / 65536:Nat)+1),states:=r.states.set (o % 65536) 0,blk:=r.blk.take r.n++[((o % 65536:Nat):Int)],n:=r.n+1,ver:=r.ver+1 }
end Go.Q15
namespace Go.Q15
open Go Go.QAbs
set_option maxRecDepth 100000
set_option maxHeartbeats 8000000
end Go.Q15
namespace Go.Q15
open Go Go.QAbs
set_option maxRecDepth 100000
set_option maxHeartbeats 8000000
end Go.Q15
namespace Go.Q15
open Go Go.QAbs
set_option maxRecDepth 100000
set_option maxHeartbeats 16000000
theorem nodup_bound:∀ (n:Nat) (l:List Nat),l.Nodup→(∀ x∈l,x<n)→l.length≤n:=by
 intro n
 induction n with
 | zero=>intro l _ h;cases l with
  | nil=>exact Nat.le_refl _
  | cons a l=>have:=h a (by simp);omega
 | succ n ih =>
  intro l hd h
  by_cases hm:n∈l
  ·have := ih (l.erase n) (hd.erase n) (fun x hx => by
    have h1:=h x (List.mem_of_mem_erase hx)
    have h2:x≠n:=fun e=>by subst e;exact hd.not_mem_erase hx
    omega)
   rw [List.length_erase_of_mem hm] at this
   omega
  ·have := ih l hd (fun x hx => by
    have h1:=h x hx
    have h2:x≠n:=fun e=>hm (e▸hx)
    omega)
   omega
theorem AROk.few {r:AR} (h:AROk r) {l:List Nat} (hd:l.Nodup) (hl:∀ o∈l,∃ x,lk r.nodes o=some x):l.length≤16384:=by
 have h16:=h.n16
 have key:∀ o∈l,liveP r o:=fun o ho=>by obtain ⟨x,hx⟩:=hl o ho;exact (h.live hx).1
 have h1:(l.map (· % 65536)).Nodup:=by
  unfold List.Nodup at hd ⊢
  rw [List.pairwise_map]
  refine hd.imp_of_mem (fun {p o} hp ho hne e=>hne ?_)
  have a:=(key p hp).2.2
  have c:=(key o ho).2.2
  rw [e,c] at a
  have:=Option.some.inj a
  omega
 have:=nodup_bound r.states.length _ h1 (fun x hx=>by
  obtain ⟨o,ho,rfl⟩:=List.mem_map.1 hx
  exact (List.getElem?_eq_some_iff.1 (key o ho).2.1).1)
 rw [List.length_map] at this
 omega
theorem New_ve {N:Nodes} (hN:GoodN N) {t:Tr} (hv:VE N t) (hb:t.bytes≤65536) (st:St):S Tb F_plan_New [t.av] st=some (.int .i64 (nw t),st):=by
 rcases hv with h|h
 ·rw [nw_empty h];exact New_empty h st
 ·rw [nw_val h]
  have:=(cnt_le hN h).1
  exact New_c h (by omega) st
theorem eqStats (r:AR):eqV [(0,0),(1,0),(2,0),(3,0),(4,0),(5,0),(6,0)] 0 r.statsAV r.statsAV=some true:=by
 unfold AR.statsAV
 show (if decide _=true then (if decide _=true then (if decide _=true then (if decide _=true then (if decide _=true then (if decide _=true then (if decide _=true then some true else some false) else some false) else some false) else some false) else some false) else some false) else some false)=_
 simp
end Go.Q15
namespace Go.Q15
open Go Go.QAbs
set_option maxRecDepth 100000
set_option maxHeartbeats 16000000
end Go.Q15
namespace Go.Q15
open Go Go.QAbs
set_option maxRecDepth 100000
set_option maxHeartbeats 16000000
structure MkInv (r:AR) (ros:List Ro) (ss:List (List UInt8)) (n:Nat) (B:Nat):Prop where
 ok:AROk r
 good:GoodN r.nodes
 rts:Rts r.nodes ros ss
 len:ros.length=n
 n20:n≤20
 small:∀ s∈ss,s.length≤B
 nl:r.nodes.length+r.n=1500
theorem MkInv.plan {r:AR} {ros:List Ro} {ss:List (List UInt8)} {n B:Nat} (h:MkInv r ros ss n B) (hB:B≤60000):PlanOk r.nodes ros:=h.rts.plan h.good (by have:=h.len;have:=h.n20;omega) (fun s hs=>by have:=h.small s hs;omega)
theorem MkInv.mb {r:AR} {ros:List Ro} {ss:List (List UInt8)} {n B:Nat} (h:MkInv r ros ss n B):∀ ro∈ros,ro.m.b≤(B:Int):=by
 intro ro hr
 obtain ⟨i,hi,rfl⟩:=List.getElem_of_mem hr
 have hi2:i<ss.length:=by rw [← h.rts.1];exact hi
 have g:=h.rts.2 i _ _ (List.getElem?_eq_getElem hi) (List.getElem?_eq_getElem hi2)
 have:=(g.b h.good).2
 have:=h.small _ (List.getElem_mem hi2)
 omega
end Go.Q15
namespace Go.Q15
open Go Go.QAbs
set_option maxRecDepth 100000
set_option maxHeartbeats 8000000
end Go.Q15
namespace Go.Q15
open Go Go.QAbs
set_option maxRecDepth 100000
set_option maxHeartbeats 8000000
end Go.Q15
namespace Go.Q15
open Go Go.QAbs
set_option maxRecDepth 100000
set_option maxHeartbeats 8000000
def bel (N:Nodes):Nat→Nat→List Nat→List Nat
 | 0,h,s=>if h∈s then s else s++[h]
 | n+1,h,s=>if h∈s then s else (ndAt N h).ks.foldl (fun s k=>bel N n k.at_ s) (s++[h])
structure Visit (τ:List Nat→List Nat→St) (lm mx:Nat) (g:FuncId) (caps:List AV):Prop where
 len:∀ u w u' w',(τ u w).ps.length=(τ u' w').ps.length
 wr:∀ u w,(τ u w).wr lm
 get:∀ u w,(τ u w).get lm mx=some (.map (hmAV u))
 upd:∀ u w v,(τ u w).upd lm mx (.map (hmAV v))=τ v w
 call:∀ u w h more L,w.length<1000000000→∃ v,S Tb g ([.int .u64 (h:Nat)]++caps) ⟨(τ u w).ps++more,false,L⟩=some (v,⟨(τ u (w++[h])).ps++more,false,L⟩)
 wk:∀ h:Nat,forceL (weaks ([]++[.int .u64 (h:Nat)]++caps))=some ([.int .u64 (h:Nat)]++caps)
 wk2:∀ la b h:Nat,forceL (weaks ([]++[.ptr la b 0 0 0,.int .u64 (h:Nat),.map lm mx,.func (.func g) [] caps]++[]))=some [.ptr la b 0 0 0,.int .u64 (h:Nat),.map lm mx,.func (.func g) [] caps]
theorem is_mupdM {O:Orc} {k:List Fr} {Q:Post} {e:Env} {L:List Blk} {keep:List Nat} {is:List QAbs.PI} {s0:St} {more:List (Bool × List Blk)} {x i v:Opd} {lv ix h:Nat} {w:AV} {es es':List (AV × AV)} (hx:opdO e x=some (.map lv ix)) (hi:opdO e i=some (.int .u64 h)) (hv:opdO e v=some w) (hw:s0.wr lv) (hg:s0.get lv ix=some (.map es))
 (hs:sealV deep (lv+1) ⟨s0.ps++more,false,L⟩ w=some (w,⟨s0.ps++more,false,L⟩)) (hp:putE (.int .u64 h) w es=some es')
 (hh:Is O is keep k Q e ⟨(s0.upd lv ix (.map es')).ps++more,false,L⟩):Is O (⟨none,none,false,.mupd 0 x i v⟩::is) keep k Q e ⟨s0.ps++more,false,L⟩:=by
 have hl:=St.get_le hg
 have g':=get_moreG hg more false L
 have w':=wr_more hl hw more false L
 refine is_of (od:=none) (v:=.undef) (st':=St.upd ⟨s0.ps++more,false,L⟩ lv ix (.map es')) ?_ ?_
 ·simp only [evalPI,evalPO,opdO_some hx,opdO_some hi,opdO_some hv,mupdV,keyIs,if_true,hs,oS,mupdK,g',mapB,hp,St.put_upd w' g',retU]
 ·rw [upd_more hl];exact hh
theorem bel_fold {N:Nodes} {n P:Nat} (ih:∀ (h:Nat) (s:List Nat) (x:Nd),lk N h=some x→x.h=n→3*(bel N n h s).length+1≤3*s.length+P):∀ (ks:List Kid) (s:List Nat),(∀ k∈ks,∃ y,lk N k.at_=some y∧y.h=n)→3*(ks.foldl (fun s k=>bel N n k.at_ s) s).length+ks.length≤3*s.length+ks.length*P:=by
 intro ks
 induction ks with
 | nil=>intro s _;simp
 | cons k l ihl =>
  intro s hk
  rw [List.foldl_cons]
  obtain ⟨y,y1,y2⟩:=hk k (by simp)
  have a1:=ih k.at_ s y y1 y2
  have a2:=ihl (bel N n k.at_ s) (fun z hz=>hk z (List.mem_cons_of_mem _ hz))
  rw [List.length_cons,Nat.add_mul]
  omega
theorem bel_len {N:Nodes} (hN:GoodN N):∀ (n h:Nat) (s:List Nat) (x:Nd),lk N h=some x→x.h=n→3*(bel N n h s).length+1≤3*s.length+4 ^ (n+1):=by
 intro n
 induction n with
 | zero =>
  intro h s x hx hh
  rw [bel]
  split
  ·omega
  ·rw [lL];simp;omega
 | succ n ih =>
  intro h s x hx hh
  rw [bel,ndAt_of hx]
  have hp:4 ^ (n+1+1)=4*4 ^ (n+1):=by rw [Nat.pow_succ];omega
  have h1:0<4 ^ (n+1):=Nat.pow_pos (by decide)
  split
  ·omega
  ·have hk4:=(hN h x hx).1.len
   have hkids:=(hN h x hx).2
   have:=bel_fold ih x.ks (s++[h]) (fun k hk=>by obtain ⟨_,y,y1,y2,_⟩:=hkids k hk;exact ⟨y,y1,by omega⟩)
   rw [lL,List.length_singleton] at this
   have h3:(4-x.ks.length)*4 ^ (n+1)+x.ks.length*4 ^ (n+1)=4*4 ^ (n+1):=by rw [← Nat.add_mul];congr 1;omega
   have h4:(4-x.ks.length)*1≤(4-x.ks.length)*4 ^ (n+1):=Nat.mul_le_mul_left _ h1
   generalize 4 ^ (n+1)=P at *
   generalize (4-x.ks.length)*P=P1 at *
   generalize x.ks.length*P=P2 at *
   omega
theorem below_node {τ:List Nat→List Nat→St} {lm mx:Nat} {g:FuncId} {caps:List AV} (hV:Visit τ lm mx g caps) {N:Nodes} {la b:Nat} (hR:∀ u w,Rd (τ u w) la (b+5) N) {h:Nat} {x:Nd} (hx:lk N h=some x) (hk4:x.ks.length≤4) (s:List Nat) (hs:h∉s) (f:Kid→List Nat→List Nat) {B:Nat} (hB:B≤900000000)
 (hlen:∀ i,((x.ks.take i).foldl (fun s k=>f k s) (s++[h])).length≤B)
 (hf:∀ k∈x.ks,∀ (s:List Nat) (more:List (Bool × List Blk)) (L:List Blk),s.length≤B→S Tb F_plan_below [.ptr la (b+5) 0 0 0,.int .u64 k.at_,.map lm mx,.func (.func g) [] caps] ⟨(τ s s).ps++more,false,L⟩=some (.int .i64 0,⟨(τ (f k s) (f k s)).ps++more,false,L⟩))
 {more:List (Bool × List Blk)} {st st':St} (hst:st.ps=(τ s s).ps++more) (hst':st'.ps=(τ (x.ks.foldl (fun s k=>f k s) (s++[h])) (x.ks.foldl (fun s k=>f k s) (s++[h]))).ps++more) :
 S Tb F_plan_below [.ptr la (b+5) 0 0 0,.int .u64 h,.map lm mx,.func (.func g) [] caps] st=some (.int .i64 0,st'):=by
 refine s_ofW rfl (fun A hA=>?_)
 have hA2:A=(τ s s).ps++more:=hA.trans hst
 clear hA
 subst hA2
 have hlk:=fun L=>look_hm (get_moreG (hV.get s s) more false L) h
 simp only [decide_eq_false hs] at hlk
 have hl0:=hlen 0
 simp only [List.take_zero,List.foldl_nil,lL,List.length_singleton] at hl0
 repeat' (first|refine ru_seq ?_|refine ru_reg ?_|refine is_mv rfl ?_|refine is_nil rfl ?_|refine rk_seq ?_|refine ru_iteF rfl ?_|refine is_look rfl rfl (hlk _) ?_|refine ru_skip ?_)
 all_goals try contradiction
 refine is_mupdM rfl rfl rfl (hV.wr s s) (hV.get s s) rfl (putE_hm h s hs) ?_
 rw [hV.upd]
 have hG:=fun L=>Get_c ((hR (s++[h]) s).more more false L) hx hk4
 have hcp:x.copy.av=.agg [.int .i64 x.h,.str x.text,.lit (x.ks.map Kid.av)]:=rfl
 rw [hcp] at hG
 obtain ⟨v,hc⟩:=hV.call (s++[h]) s h more [.arr 3 0 [.agg [.int .i64 x.h,.str x.text,.lit (x.ks.map Kid.av)]]] (by omega)
 generalize hA1:(τ (s++[h]) s).ps++more=A1 at *
 repeat' (first|refine is_callE rfl rfl (hV.wk h) hc ?_|refine ru_seq ?_|refine ru_reg ?_|refine is_mv rfl ?_|refine is_fadr rfl rfl ?_|refine is_ext rfl rfl ?_|refine is_nil rfl ?_|refine rk_seq ?_|(refine is_neq rfl rfl (fun _=>?_) (fun _=>?_)<;>try (exfalso;omega))|refine ru_iteF rfl ?_|refine is_box rfl rfl rfl ?_|refine is_stb rfl rfl rfl rfl rfl rfl ?_|refine is_callE rfl rfl rfl (hG _) ?_|refine ru_skip ?_)
 all_goals try contradiction
 obtain ⟨A2,hA2⟩:∃ A2,A2=(τ (s++[h]) (s++[h])).ps++more:=⟨_,rfl⟩
 have e12:A1.length=A2.length:=by
  have:=hV.len (s++[h]) s (s++[h]) (s++[h])
  rw [← hA1,hA2]
  simp only [lL] at this ⊢
  omega
 rw [← hA2,e12]
 repeat' (first|refine len1L rfl ?_|refine is_mv rfl ?_|refine is_ldc rfl rfl rfl rfl ?_|refine is_nil rfl ?_|refine rk_seq ?_|refine ru_block ?_)
 refine ru_loopP (α:=Nat × List Blk) (fun p=>[(0,.ptr la (b+5) 0 0 0),(2,.map lm mx),(3,.func (.func g) [] caps),(32,.lit (x.ks.map Kid.av)),(33,.int .i64 x.ks.length),(34,.int .i64 p.1)])
  (fun p=>⟨(τ ((x.ks.take p.1).foldl (fun s k=>f k s) (s++[h])) ((x.ks.take p.1).foldl (fun s k=>f k s) (s++[h]))).ps++more,false,.arr 3 0 [.agg [.int .i64 x.h,.str x.text,.lit (x.ks.map Kid.av)]]::p.2⟩) (fun p=>p.1≤x.ks.length) (fun p=>x.ks.length-p.1) (0,[]) rfl (by rw [hA2];rfl) (Nat.zero_le _) ?_
 rintro ⟨i,G⟩ hi
 simp only at hi ⊢
 rcases Nat.lt_or_ge i x.ks.length with hlt|hge
 ·obtain ⟨kd,hk⟩:∃ k,x.ks[i]?=some k:=⟨x.ks[i]'hlt,List.getElem?_eq_getElem _⟩
  have qk:0≤((i:Nat):Int)∧x.ks[((i:Nat):Int).toNat]?=some kd:=⟨by omega,by rw [show ((i:Nat):Int).toNat=i by omega];exact hk⟩
  have hcl:=fun L=>hf kd (List.mem_of_getElem? hk) _ more L (hlen i)
  have hnx:(x.ks.take (i+1)).foldl (fun s k=>f k s) (s++[h])=f kd ((x.ks.take i).foldl (fun s k=>f k s) (s++[h])):=by
   rw [take_succ_get hk,List.foldl_append];rfl
  rw [← hnx] at hcl
  generalize hP:(τ ((x.ks.take (i+1)).foldl (fun s k=>f k s) (s++[h])) ((x.ks.take (i+1)).foldl (fun s k=>f k s) (s++[h]))).ps++more=P at *
  generalize (τ ((x.ks.take i).foldl (fun s k=>f k s) (s++[h])) ((x.ks.take i).foldl (fun s k=>f k s) (s++[h]))).ps++more=A3 at *
  repeat' (first|refine is_ixKn (f:=Kid.av) rfl rfl qk (fun _=>rfl) ?_|refine is_callE rfl rfl (hV.wk2 _ _ _) (hcl _) ?_|refine ru_seq ?_|refine ru_reg ?_|refine is_mv rfl ?_|refine is_fadr rfl rfl ?_|refine is_nil rfl ?_|refine rk_seq ?_|refine is_ldT rfl rfl rfl ?_|refine is_ldl rfl rfl ?_|(refine is_lss rfl rfl (fun _=>?_) (fun _=>?_)<;>try (exfalso;omega))|(refine is_neq rfl rfl (fun _=>?_) (fun _=>?_)<;>try (exfalso;omega))|refine ru_iteT rfl ?_|refine ru_iteF rfl ?_|refine is_addS rfl rfl (by omega) ?_|refine is_boxG rfl rfl rfl ?_|refine is_stT rfl rfl rfl rfl rfl rfl ?_|refine ru_skip ?_|refine ru_block ?_|refine rk_blk ?_|refine rk_inv ?_)
  all_goals try contradiction
  all_goals try (exfalso;omega)
  refine ⟨(i+1,G++[.arr 4 0 [kd.av]]),⟨rfl,?_⟩,by simp only;omega,by simp only;omega⟩
  simp only
  rw [hP]
  rfl
 ·obtain rfl:i=x.ks.length:=by omega
  rw [List.take_length]
  repeat' (first|refine ru_seq ?_|refine ru_reg ?_|refine is_mv rfl ?_|refine is_nil rfl ?_|refine rk_seq ?_|(refine is_lss rfl rfl (fun _=>?_) (fun _=>?_)<;>try (exfalso;omega))|refine ru_iteF rfl ?_|refine ru_ret ?_|refine ru_exit ?_|refine rk_nil ?_|refine rk_seq_ex ?_|refine rk_blk_eq rfl ?_|refine rk_inv_ex ?_)
  all_goals try (exfalso;omega)
  refine end_st (st:=st') hst'.symm (.inr rfl) rfl rfl rfl rfl ?_
  rfl
theorem below_seen {τ:List Nat→List Nat→St} {lm mx:Nat} {g:FuncId} {caps:List AV} (hV:Visit τ lm mx g caps) {la b:Nat} {h:Nat} (s:List Nat) (hs:h∈s) {more:List (Bool × List Blk)} {st:St} (hst:st.ps=(τ s s).ps++more) :
 S Tb F_plan_below [.ptr la (b+5) 0 0 0,.int .u64 h,.map lm mx,.func (.func g) [] caps] st=some (.int .i64 0,st):=by
 refine s_ofW rfl (fun A hA=>?_)
 have hA2:A=(τ s s).ps++more:=hA.trans hst
 have hA0:=hA
 clear hA
 subst hA2
 have hlk:=fun L=>look_hm (get_moreG (hV.get s s) more false L) h
 simp only [decide_eq_true hs] at hlk
 repeat' (first|refine ru_seq ?_|refine ru_reg ?_|refine is_mv rfl ?_|refine is_nil rfl ?_|refine rk_seq ?_|refine ru_iteT rfl ?_|refine is_look rfl rfl (hlk _) ?_|refine ru_ret ?_|refine rk_nil ?_|refine rk_seq_ret ?_)
 all_goals try contradiction
 refine end_st (st:=st) hA0 (.inr rfl) rfl rfl rfl rfl ?_
 rfl
theorem ps_inj {s t:St} (h:s.ps=t.ps):s=t:=by
 obtain ⟨A,r,L⟩:=s
 obtain ⟨A',r',L'⟩:=t
 have:=List.append_inj' h rfl
 obtain ⟨rfl,h2⟩:=this
 simp only [List.cons.injEq,Prod.mk.injEq,and_true] at h2
 obtain ⟨rfl,rfl⟩:=h2
 rfl
theorem below_c {τ:List Nat→List Nat→St} {lm mx:Nat} {g:FuncId} {caps:List AV} (hV:Visit τ lm mx g caps) {N:Nodes} (hN:GoodN N) {la b:Nat} (hR:∀ u w,Rd (τ u w) la (b+5) N):∀ (n h:Nat) (x:Nd) (s:List Nat),lk N h=some x→x.h=n→s.length+4 ^ (n+1)≤900000000→∀ {more:List (Bool × List Blk)} {st st':St},st.ps=(τ s s).ps++more→st'.ps=(τ (bel N n h s) (bel N n h s)).ps++more →
 S Tb F_plan_below [.ptr la (b+5) 0 0 0,.int .u64 h,.map lm mx,.func (.func g) [] caps] st=some (.int .i64 0,st'):=by
 intro n
 induction n with
 | zero =>
  intro h x s hx hh hb more st st' hst hst'
  by_cases hm:h∈s
  ·rw [bel,if_pos hm,← hst] at hst'
   rw [ps_inj hst']
   exact below_seen hV s hm hst
  ·rw [bel,if_neg hm] at hst'
   have hks:x.ks=[]:=by
    rcases (hN h x hx).1 with q|⟨m,ks,q⟩
    ·exact q.ks
    ·have e:=q.eq;subst e;simp at hh
   refine below_node hV hR hx (by rw [hks];decide) s hm (fun _ s=>s) (Nat.le_refl _) (fun i=>?_) (fun k hk=>by rw [hks] at hk;simp at hk) hst (by rw [hks];exact hst')
   rw [hks,List.take_nil,List.foldl_nil,lL,List.length_singleton]
   simp at hb;omega
 | succ n ih =>
  intro h x s hx hh hb more st st' hst hst'
  by_cases hm:h∈s
  ·rw [bel,if_pos hm,← hst] at hst'
   rw [ps_inj hst']
   exact below_seen hV s hm hst
  ·rw [bel,if_neg hm,ndAt_of hx] at hst'
   have hk4:=(hN h x hx).1.len
   have hkids:=(hN h x hx).2
   have hp:4 ^ (n+1+1)=4*4 ^ (n+1):=by rw [Nat.pow_succ];omega
   have h1:4≤4 ^ (n+1):=by rw [Nat.pow_succ];have:0<4 ^ n:=Nat.pow_pos (by decide);omega
   refine below_node hV hR hx hk4 s hm (fun k s=>bel N n k.at_ s) (B:=900000000-4 ^ (n+1)) (by omega) (fun i=>?_) (fun k hk s' more' L hl=>?_) hst hst'
   ·have:=bel_fold (bel_len hN n) (x.ks.take i) (s++[h]) (fun k hk=>by obtain ⟨_,y,y1,y2,_⟩:=hkids k (List.mem_of_mem_take hk);exact ⟨y,y1,by omega⟩)
    rw [lL,List.length_singleton] at this
    have hti:(x.ks.take i).length≤4:=by rw [List.length_take];omega
    have h4:(x.ks.take i).length*4 ^ (n+1)≤4*4 ^ (n+1):=Nat.mul_le_mul_right _ hti
    generalize (x.ks.take i).length*4 ^ (n+1)=P2 at *
    generalize 4 ^ (n+1)=P at *
    omega
   ·obtain ⟨_,y,y1,y2,_⟩:=hkids k hk
    exact ih k.at_ y s' y1 (by omega) (by omega) (more:=more'++[(false,L)]) (List.append_assoc ..) (List.append_assoc ..)
end Go.Q15
namespace Go.Q15
open Go Go.QAbs
set_option maxRecDepth 100000
set_option maxHeartbeats 8000000
theorem sizL_le8:∀ l:List Tr,(∀ t∈l,4*(t.siz:Int)+4≤t.bytes)→4*(Tr.sizL l:Int)+4*l.length≤Tr.bytesL l
 | [],_=>by simp [Tr.sizL,Tr.bytesL]
 | t::l,h=>by
  have h1:=h t (by simp)
  have h2:=sizL_le8 l fun u hu=>h u (by simp [hu])
  simp only [Tr.sizL,Tr.bytesL,List.length_cons]
  omega
theorem siz_le {N:Nodes} (hN:GoodN N) {t:Tr} (hv:Val N t):(t.siz:Int)≤t.bytes+1∧(Big t→4*(t.siz:Int)+4≤t.bytes):=by
 have hsz:=hv.size hN
 have hps:=hv.pos.2
 induction hv with
 | @kept o h m k x h0 hx hok hh hm hk =>
  have ec:(Tr.mk o h m [] k).siz=1:=by rw [Tr.siz,Tr.sizO_getD,hk];rfl
  have hl:h≤16:=by
   rcases hok with q|⟨n,ks,q⟩
   ·rw [← hh,q.h];omega
   ·have:=q.n15;have e:=q.eq;subst e;simp only at hh;omega
  rw [ec]
  refine ⟨by omega,fun q=>?_⟩
  have h1:=hsz q
  have h2:=(leastB_le hl).1
  simp only [Tr.h] at h1
  omega
 | @leaf s k h1 h2 hk =>
  have ec:(Tr.mk 0 0 .zero s k).siz=1:=by rw [Tr.siz,Tr.sizO_getD,hk];rfl
  rw [ec]
  refine ⟨by omega,fun q=>?_⟩
  have:=q rfl
  omega
 | @inner h l hh h2 h4 hl hb hv ih =>
  have ec:(Tr.mk 0 (h+1) .zero [] (some l)).siz=Tr.sizL l+1:=by rw [Tr.siz,Tr.sizO];omega
  have eb:(Tr.mk 0 (h+1) .zero [] (some l)).bytes=Tr.bytesL l:=by rw [Tr.bytes,Tr.bytesO];simp [Mea.zero]
  have:=sizL_le8 l fun u hu=>(ih u hu ((hv u hu).size hN) (hv u hu).pos.2).2 (fun q=>hb u hu (by rw [← hl u hu];exact q))
  rw [ec,eb]
  exact ⟨by omega,fun _=>by omega⟩
theorem kwT_live {N:Nodes} {t:Tr} (hv:Val N t):∀ out:List Nat,(∀ h∈out,∃ x,lk N h=some x)→∀ h∈t.kwT out,∃ x,lk N h=some x:=by
 induction hv with
 | @kept o h m k x h0 hx hok hh hm hk =>
  intro out ho a ha
  rw [Tr.kwT,Tr.kwO_getD,hk,Tr.kwL] at ha
  split at ha
  ·rcases List.mem_append.1 ha with q|q
   ·exact ho a q
   ·rw [List.mem_singleton.1 q];exact ⟨x,hx⟩
  ·exact ho a ha
 | @leaf s k h1 h2 hk =>
  intro out ho a ha
  rw [Tr.kwT,Tr.kwO_getD,hk,Tr.kwL,if_neg (by simp)] at ha
  exact ho a ha
 | @inner h l hh h2 h4 hl hb hv ih =>
  intro out ho a ha
  rw [Tr.kwT,Tr.kwO,if_neg (by simp)] at ha
  have key:∀ (l:List Tr) (out:List Nat),(∀ t∈l,∀ out:List Nat,(∀ h∈out,∃ x,lk N h=some x)→∀ h∈t.kwT out,∃ x,lk N h=some x)→(∀ h∈out,∃ x,lk N h=some x)→∀ a∈Tr.kwL l out,∃ x,lk N a=some x:=by
   intro l
   induction l with
   | nil=>intro out _ ho a ha;exact ho a ha
   | cons t l ihl =>
    intro out hi ho a ha
    rw [Tr.kwL] at ha
    exact ihl (t.kwT out) (fun u hu=>hi u (List.mem_cons_of_mem _ hu)) (hi t (by simp) out ho) a ha
  exact key l out ih ho a ha
theorem dC1_c (h:Nat) (st:St):S Tb F_plan_DroppedC1 [.int .u64 h] st=some (.tup [],st):=by
 refine s_of rfl (fun A hA=>?_)
 repeat' (first|refine ru_skip ?_|refine rk_nil ?_)
 refine end_st hA (by first|exact .inl rfl|exact .inr rfl) rfl rfl rfl rfl ?_
 rfl
def dr1 (A:List (Bool × List Blk)) (b4 b5 b8:Blk) (u:List Nat):St:=⟨A,false,[b4,b5,b8,.map (hmAV u),.arr 1 0 [.map A.length 3]]⟩
def dr2 (A:List (Bool × List Blk)) (b4 b5 b8:Blk) (has u o:List Nat):St:=⟨A,false,[b4,b5,b8,.map (hmAV has),.arr 1 0 [.map A.length 3],.arr 1 o.length (o.map hnAV),.arr 1 0 [.ref A.length 5 o.length 0 o.length],.map (hmAV u)]⟩
theorem visit1 (A:List (Bool × List Blk)) (b4 b5 b8:Blk):Visit (fun u _=>dr1 A b4 b5 b8 u) A.length 3 F_plan_DroppedC1 [] where
 len _ _ _ _:=by simp [dr1]
 wr _ _:=by simp [St.wr,dr1]
 get _ _:=St.get_cur ..
 upd _ _ _:=by simp [St.upd,dr1]
 call u w h more L _:=⟨_,dC1_c h _⟩
 wk _:=rfl
 wk2 _ _ _:=rfl
theorem dr2_cl (A:List (Bool × List Blk)) (b4 b5 b8:Blk) (has u o:List Nat):Cl (dr2 A b4 b5 b8 has u o) [(A.length,5),(A.length,6)] [.arr 1 o.length (o.map hnAV),.arr 1 0 [.ref A.length 5 o.length 0 o.length]]:=by
 refine ⟨by simp,rfl,fun k hk=>?_,fun j lv ix b h1 h2=>?_⟩
 ·simp only [List.mem_cons,List.not_mem_nil,or_false] at hk
  rcases hk with rfl|rfl<;>simp [St.wr,dr2]
 ·match j,h1,h2 with
  | 0,h1,h2=>obtain ⟨rfl,rfl⟩:=Prod.mk.inj (Option.some.inj h1);obtain rfl:=Option.some.inj h2;exact St.get_cur ..
  | 1,h1,h2=>obtain ⟨rfl,rfl⟩:=Prod.mk.inj (Option.some.inj h1);obtain rfl:=Option.some.inj h2;exact St.get_cur ..
  | n+2,h1,h2=>simp at h1
theorem dr2_put (A:List (Bool × List Blk)) (b4 b5 b8:Blk) (has u o o':List Nat):putC (dr2 A b4 b5 b8 has u o) [(A.length,5),(A.length,6)] [.arr 1 o'.length (o'.map hnAV),.arr 1 0 [.ref A.length 5 o'.length 0 o'.length]]=dr2 A b4 b5 b8 has u o':=by
 simp [putC,St.upd,dr2]
theorem dC2_c (A:List (Bool × List Blk)) (b4 b5 b8:Blk) (has u o:List Nat) (h:Nat) (more:List (Bool × List Blk)) (L:List Blk) (hl:o.length<1000000000) :
 S Tb F_plan_DroppedC2 [.int .u64 h,.ptr A.length 4 0 0 0,.ptr A.length 6 0 0 0] ⟨(dr2 A b4 b5 b8 has u o).ps++more,false,L⟩=some (.tup [],⟨(dr2 A b4 b5 b8 has u (if h∈has then o else o++[h])).ps++more,false,L⟩):=by
 have H:=(dr2_cl A b4 b5 b8 has u o).more more false L
 have hm4:St.get ⟨(dr2 A b4 b5 b8 has u o).ps++more,false,L⟩ A.length 4=some (.arr 1 0 [.map A.length 3]):=get_moreG (s:=dr2 A b4 b5 b8 has u o) (St.get_cur ..) more false L
 have hm3:St.get ⟨(dr2 A b4 b5 b8 has u o).ps++more,false,L⟩ A.length 3=some (.map (hmAV has)):=get_moreG (s:=dr2 A b4 b5 b8 has u o) (St.get_cur ..) more false L
 by_cases hm:h∈has
 ·rw [if_pos hm]
  refine s_of rfl (fun A1 hA=>?_)
  have g4:=fun L'=>get_old hA (ro:=false) (L:=L') hm4
  have hlk:=fun L'=>look_hm (get_old hA (ro:=false) (L:=L') hm3) h
  simp only [decide_eq_true hm] at hlk
  repeat' (first|refine ru_seq ?_|refine ru_reg ?_|refine is_mv rfl ?_|refine is_nil rfl ?_|refine rk_seq ?_|refine ru_iteF rfl ?_|refine is_not rfl rfl ?_|refine is_ld rfl (g4 _) rfl rfl ?_|refine is_look rfl rfl (hlk _) ?_|refine ru_skip ?_|refine rk_nil ?_)
  all_goals try contradiction
  refine end_st hA (by first|exact .inl rfl|exact .inr rfl) rfl rfl rfl rfl ?_
  rfl
 ·rw [if_neg hm]
  have e:putC ⟨(dr2 A b4 b5 b8 has u o).ps++more,false,L⟩ [(A.length,5),(A.length,6)] [.arr 1 (o++[h]).length ((o++[h]).map hnAV),.arr 1 0 [.ref A.length 5 (o++[h]).length 0 (o++[h]).length]]=⟨(dr2 A b4 b5 b8 has u (o++[h])).ps++more,false,L⟩:=by
   rw [putC_more (fun k hk=>by simp only [List.mem_cons,List.not_mem_nil,or_false] at hk;rcases hk with rfl|rfl<;>exact Nat.le_refl _),dr2_put]
  rw [← e]
  refine s_ofW rfl (fun A1 hA=>?_)
  have hA':A1=(putC ⟨(dr2 A b4 b5 b8 has u o).ps++more,false,L⟩ [(A.length,5),(A.length,6)] [.arr 1 o.length (o.map hnAV),.arr 1 0 [.ref A.length 5 o.length 0 o.length]]).ps:=by rw [H.same];exact hA
  have g4:=fun L'=>get_old hA (ro:=false) (L:=L') hm4
  have hlk:=fun L'=>look_hm (get_old hA (ro:=false) (L:=L') hm3) h
  simp only [decide_eq_false hm] at hlk
  have g6:=fun L'=>H.old hA' rfl rfl (ro:=false) (L:=L') (j:=1) rfl rfl
  repeat' (first|refine ru_seq ?_|refine ru_reg ?_|refine is_mv rfl ?_|refine is_nil rfl ?_|refine rk_seq ?_|refine ru_iteT rfl ?_|refine is_not rfl rfl ?_|refine is_bslFO rfl rfl rfl rfl ?_|refine is_ld rfl (g4 _) rfl rfl ?_|refine is_look rfl rfl (hlk _) ?_|refine is_ld rfl (g6 _) rfl rfl ?_)
  all_goals try contradiction
  refine is_appC (es:=o.map hnAV) (ys:=[.int .u64 h]) H hA' rfl rfl (j:=0) rfl rfl (by rw [List.length_map];rfl) rfl rfl rfl rfl (by rw [List.length_map,List.length_singleton];omega) (by decide) (fun A2 hA2 _=>?_)
  skip
  refine is_stC H hA2 rfl rfl (j:=1) rfl rfl rfl rfl rfl (seal_refL _ (Nat.lt_succ_self _)) rfl (fun A3 hA3 _=>?_)
  repeat' (first|refine is_nil rfl ?_|refine rk_nil ?_)
  have e3:((([Blk.arr 1 o.length (o.map hnAV),Blk.arr 1 0 [.ref A.length 5 o.length 0 o.length]].set 0 (.arr 1 (o.length+1) (o.map hnAV++[.int .u64 h]))).set 1 (.arr 1 0 ([AV.ref A.length 5 o.length 0 o.length].set 0 (.ref A.length 5 (o.length+1) 0 ((o.map hnAV).length+[AV.int .u64 (h:Int)].length))))))=[.arr 1 (o++[h]).length ((o++[h]).map hnAV),.arr 1 0 [.ref A.length 5 (o++[h]).length 0 (o++[h]).length]]:=by
   simp [hnAV]
  replace hA3:A3=(putC ⟨(dr2 A b4 b5 b8 has u o).ps++more,false,L⟩ [(A.length,5),(A.length,6)] [.arr 1 (o++[h]).length ((o++[h]).map hnAV),.arr 1 0 [.ref A.length 5 (o++[h]).length 0 (o++[h]).length]]).ps:=by rw [← e3];exact hA3
  refine end_st hA3 (.inl rfl) rfl rfl rfl rfl ?_
  rfl
theorem visit2 (A:List (Bool × List Blk)) (b4 b5 b8:Blk) (has:List Nat):Visit (fun u w=>dr2 A b4 b5 b8 has u (w.filter fun h=>decide (h∉has))) A.length 7 F_plan_DroppedC2 [.ptr A.length 4 0 0 0,.ptr A.length 6 0 0 0] where
 len _ _ _ _:=by simp [dr2]
 wr _ _:=by simp [St.wr,dr2]
 get _ _:=St.get_cur ..
 upd _ _ _:=by simp [St.upd,dr2]
 call u w h more L hl:=by
  refine ⟨.tup [],(dC2_c A b4 b5 b8 has u (w.filter fun h=>decide (h∉has)) h more L (Nat.lt_of_le_of_lt (List.length_filter_le ..) hl)).trans ?_⟩
  rw [List.filter_append]
  by_cases hm:h∈has
  ·rw [if_pos hm,show ([h].filter fun h=>decide (h∉has))=[] by simp [hm],lN]
  ·rw [if_neg hm,show ([h].filter fun h=>decide (h∉has))=[h] by simp [hm]]
 wk _:=rfl
 wk2 _ _ _:=rfl
end Go.Q15
namespace Go.Q15
open Go Go.QAbs
set_option maxRecDepth 100000
set_option maxHeartbeats 8000000
def hasL (N:Nodes) (l:List Nat):List Nat:=l.foldl (fun s h=>bel N (ndAt N h).h h s) []
def dropV (N:Nodes) (r:Ro) (t:Tr):List Nat:=if r.at_=0 then [] else (bel N r.h r.at_ []).filter fun h=>decide (h∉hasL N (t.kwT []))
theorem live13 {N:Nodes} (hN:GoodN N) {h:Nat} {x:Nd} (h0:h≠0) (hx:lk N h=some x):x.h≤13 :=
 RtOk.h13 hN (r:=⟨h,x.h,x.mea⟩) (.inr ⟨h0,x,hx,(hN h x hx).1,rfl,rfl⟩)
def Lv (N:Nodes) (l:List Nat):Prop:=l.Nodup∧∀ o∈l,∃ x,lk N o=some x
theorem Lv.snoc {N:Nodes} {l:List Nat} (h:Lv N l) {o:Nat} (ho:∃ x,lk N o=some x) (hn:o∉l):Lv N (l++[o]):=by
 refine ⟨?_,fun a ha=>?_⟩
 ·rw [List.nodup_append]
  refine ⟨h.1,by simp,fun x hx y hy=>?_⟩
  rw [List.mem_singleton] at hy
  intro e;rw [e,hy] at hx;exact hn hx
 ·rcases List.mem_append.1 ha with q|q
  ·exact h.2 a q
  ·rw [List.mem_singleton.1 q];exact ho
theorem bel_ok {N:Nodes} (hN:GoodN N):∀ (n h:Nat) (s:List Nat) (x:Nd),lk N h=some x→x.h=n→Lv N s→Lv N (bel N n h s):=by
 intro n
 induction n with
 | zero =>
  intro h s x hx hh hs
  rw [bel]
  split
  ·exact hs
  ·rename_i q;exact hs.snoc ⟨x,hx⟩ q
 | succ n ih =>
  intro h s x hx hh hs
  rw [bel,ndAt_of hx]
  split
  ·exact hs
  ·rename_i q
   have key:∀ (ks:List Kid) (s:List Nat),(∀ k∈ks,∃ y,lk N k.at_=some y∧y.h=n)→Lv N s→Lv N (ks.foldl (fun s k=>bel N n k.at_ s) s):=by
    intro ks
    induction ks with
    | nil=>intro s _ h;exact h
    | cons k l ihl =>
     intro s hk h
     obtain ⟨y,y1,y2⟩:=hk k (by simp)
     exact ihl _ (fun z hz=>hk z (List.mem_cons_of_mem _ hz)) (ih k.at_ s y y1 y2 h)
   exact key x.ks _ (fun k hk=>by obtain ⟨_,y,y1,y2,_⟩:=(hN h x hx).2 k hk;exact ⟨y,y1,by omega⟩) (hs.snoc ⟨x,hx⟩ q)
theorem hasL_ok {N:Nodes} (hN:GoodN N) {l:List Nat} (hl:∀ h∈l,∃ x,lk N h=some x):Lv N (hasL N l):=by
 have key:∀ (l s:List Nat),(∀ h∈l,∃ x,lk N h=some x)→Lv N s→Lv N (l.foldl (fun s h=>bel N (ndAt N h).h h s) s):=by
  intro l
  induction l with
  | nil=>intro s _ h;exact h
  | cons a l ih =>
   intro s hl h
   obtain ⟨x,hx⟩:=hl a (by simp)
   refine ih _ (fun z hz=>hl z (List.mem_cons_of_mem _ hz)) ?_
   show Lv N (bel N (ndAt N a).h a s)
   rw [ndAt_of hx]
   exact bel_ok hN _ a s x hx rfl h
 exact key l [] hl ⟨by simp,by simp⟩
theorem kwT_nz {N:Nodes} (hN:∀ o x,lk N o=some x→o≠0) {t:Tr} (hv:VE N t):∀ h∈t.kwT [],h≠0∧∃ x,lk N h=some x:=by
 intro h hh
 rcases hv with q|q
 ·obtain ⟨o,th,m,s,k⟩:=t
  have e1:=q.old
  have e2:=q.ks
  simp only [Tr.old,Tr.ks] at e1 e2
  rw [Tr.kwT,Tr.kwO_getD,e2,Tr.kwL,e1] at hh
  simp at hh
 ·obtain ⟨x,hx⟩:=kwT_live q [] (by simp) h hh
  exact ⟨hN h x hx,x,hx⟩
theorem siz_ve {N:Nodes} (hN:GoodN N) {t:Tr} (hv:VE N t) (hb:t.bytes≤65536):t.siz<4294967296:=by
 rcases hv with q|q
 ·obtain ⟨o,th,m,s,k⟩:=t
  have e2:=q.ks
  simp only [Tr.ks] at e2
  rw [Tr.siz,Tr.sizO_getD,e2,Tr.sizL];omega
 ·have:=(siz_le hN q).1;omega
theorem Dropped_c {st:St} {la b:Nat} {N:Nodes} (hN:GoodN N) (hK:∀ l,Lv N l→l.length≤16384) (hz:∀ o x,lk N o=some x→o≠0) (hR:Rd st la (b+5) N) {r:Ro} (hr:RtOk N r) {t:Tr} (hv:VE N t) (hb:t.bytes≤65536) :
 S Tb F_plan_Dropped [.ptr la (b+5) 0 0 0,r.av,t.av] st=some (.tup [.lit ((dropV N r t).map hnAV),.int .i64 0],st):=by
 refine s_of rfl (fun A hA=>?_)
 have hRA:=fun L=>hR.push hA (ro:=false) (L:=L)
 have hKp:=fun L=>Keep_rt (hRA L) hr
 have hCk:=fun L=>Check_ve (hRA L) hv hb
 have hKt:=fun st=>Kept_c hv.pos.1 (siz_ve hN hv hb) st
 have hkw:=kwT_nz hz hv
 have hkl:=Tr.kwT_len t []
 have hsz:=siz_ve hN hv hb
 unfold dropV
 generalize t.kwT []=kl at *
 simp only [List.length_nil] at hkl
 have hP13:∀ n,n≤13→4 ^ (n+1)≤268435456:=fun n hn=>by
  have:4 ^ (n+1)≤4 ^ 14:=Nat.pow_le_pow_right (by decide) (by omega)
  exact this
 have hB1:∀ (i h:Nat),kl[i]?=some h→S Tb F_plan_below [.ptr la (b+5) 0 0 0,.int .u64 h,.map A.length 3,.func (.func F_plan_DroppedC1) [] []] (dr1 A (.arr 5 0 [r.av]) (.arr 7 0 [t.av]) (.arr 7 0 [(keepT r).av]) (hasL N (kl.take i)))=some (.int .i64 0,dr1 A (.arr 5 0 [r.av]) (.arr 7 0 [t.av]) (.arr 7 0 [(keepT r).av]) (hasL N (kl.take (i+1)))):=by
  intro i h hi
  obtain ⟨h0,x,hx⟩:=hkw h (List.mem_of_getElem? hi)
  have hlv:=hasL_ok hN (l:=kl.take i) (fun z hz=>(hkw z (List.mem_of_mem_take hz)).2)
  have:=hK _ hlv
  have:=hP13 _ (live13 hN h0 hx)
  have e:hasL N (kl.take (i+1))=bel N x.h h (hasL N (kl.take i)):=by
   rw [take_succ_get hi]
   unfold hasL
   rw [List.foldl_append,List.foldl_cons,List.foldl_nil,ndAt_of hx]
  rw [e]
  exact below_c (visit1 A _ _ _) hN (fun _ _=>hRA _) x.h h x _ hx rfl (by omega) (more:=[]) (lN _).symm (lN _).symm
 have hB2:r.at_≠0→S Tb F_plan_below [.ptr la (b+5) 0 0 0,.int .u64 r.at_,.map A.length 7,.func (.func F_plan_DroppedC2) [] [.ptr A.length 4 0 0 0,.ptr A.length 6 0 0 0]] (dr2 A (.arr 5 0 [r.av]) (.arr 7 0 [t.av]) (.arr 7 0 [(keepT r).av]) (hasL N kl) [] [])=some (.int .i64 0,dr2 A (.arr 5 0 [r.av]) (.arr 7 0 [t.av]) (.arr 7 0 [(keepT r).av]) (hasL N kl) (bel N r.h r.at_ []) ((bel N r.h r.at_ []).filter fun h=>decide (h∉hasL N kl))):=by
  intro h0
  obtain ⟨x,x1,x2,x3,x4⟩:∃ x,lk N r.at_=some x∧NdOk x∧x.h=r.h∧x.mea=r.m:=by
   rcases hr with rfl|w
   ·exact absurd rfl h0
   ·exact w.2
  have:=hP13 _ (hr.h13 hN)
  exact below_c (visit2 A (.arr 5 0 [r.av]) (.arr 7 0 [t.av]) (.arr 7 0 [(keepT r).av]) (hasL N kl)) hN (fun _ _=>hRA _) r.h r.at_ x [] x1 x3 (by simp only [List.length_nil];omega) (more:=[]) (lN _).symm (lN _).symm
 have hkll:kl.length<1000000000:=by
  have:kl.length≤t.siz:=by omega
  have h2:(t.siz:Int)≤65537:=by
   rcases hv with q|q
   ·obtain ⟨o,th,m,s,k⟩:=t
    have e2:=q.ks
    simp only [Tr.ks] at e2
    rw [Tr.siz,Tr.sizO_getD,e2,Tr.sizL];decide
   ·have:=(siz_le hN q).1;omega
  omega
 unfold dr1 at hB1
 unfold dr2 at hB2
 obtain ⟨ra,rh,rm⟩:=r
 unfold Ro.av at *
 generalize keepT ⟨ra,rh,rm⟩=kt at *
 repeat' (first|refine ru_seq ?_|refine ru_reg ?_|refine is_mv rfl ?_|refine is_ldc rfl rfl rfl rfl ?_|refine is_ext rfl rfl ?_|refine is_nil rfl ?_|refine rk_seq ?_|(refine is_neq rfl rfl (fun _=>?_) (fun _=>?_)<;>try (exfalso;omega))|refine ru_iteF rfl ?_|refine is_box rfl rfl rfl ?_|refine is_mkmap rfl ?_|refine is_callE rfl rfl (by first|rfl|(simp only [lE,lN,lC,weaks,tr_weak,forceL];first|done|rfl)) (hKp _) ?_|refine is_callE rfl rfl (by first|rfl|(simp only [lE,lN,lC,weaks,tr_weak,forceL];first|done|rfl)) (hCk _) ?_|refine is_ldc rfl rfl rfl (tr_part _) ?_|refine is_stb rfl rfl rfl (tr_seal _ _ _) (tr_put _ _) rfl ?_|refine is_boxG rfl (tr_wide _) (tr_force _) ?_|refine ru_skip ?_)
 all_goals try contradiction
 refine is_stb rfl rfl rfl (by simp only [sealV,deep,if_pos (Nat.lt_succ_self _)]) rfl rfl ?_
 repeat' (first|refine is_ldc rfl rfl rfl (tr_part _) ?_|refine len1L rfl ?_|refine ru_seq ?_|refine ru_reg ?_|refine is_mv rfl ?_|refine is_nil rfl ?_|refine rk_seq ?_|refine is_callE rfl rfl (by first|rfl|(simp only [lE,lN,lC,weaks,tr_weak,forceL];first|done|rfl)) (hKt _) ?_|refine ru_block ?_)
 refine ru_loopP (α:=Nat) (fun i=>[(0,.ptr la (b+5) 0 0 0),(4,.ptr A.length 0 0 0 0),(11,.ptr A.length 4 0 0 0),(34,.lit (kl.map hnAV)),(35,.int .i64 kl.length),(36,.int .i64 i)])
  (fun i=>⟨A,false,[.arr 5 0 [Ro.av ⟨ra,rh,rm⟩],.arr 7 0 [t.av],.arr 7 0 [kt.av],.map (hmAV (hasL N (kl.take i))),.arr 1 0 [.map A.length 3]]⟩) (fun i=>i≤kl.length) (fun i=>kl.length-i) 0 rfl rfl (Nat.zero_le _) ?_
 intro i hi
 replace hi:i≤kl.length:=hi
 unfold Ro.av
 rcases Nat.lt_or_ge i kl.length with hlt|hge
 ·obtain ⟨h,hh⟩:∃ x,kl[i]?=some x:=⟨kl[i]'hlt,List.getElem?_eq_getElem _⟩
  have q:0≤((i:Nat):Int)∧kl[((i:Nat):Int).toNat]?=some h:=⟨by omega,by rw [show ((i:Nat):Int).toNat=i by omega];exact hh⟩
  have hB:=hB1 i h hh
  repeat' (first|refine is_ixKn (f:=hnAV) rfl rfl q (fun _=>rfl) ?_|refine is_callE rfl rfl rfl hB ?_|refine ru_seq ?_|refine ru_reg ?_|refine is_mv rfl ?_|refine is_ldc rfl rfl rfl rfl ?_|refine is_nil rfl ?_|refine rk_seq ?_|refine is_ldl rfl rfl ?_|(refine is_lss rfl rfl (fun _=>?_) (fun _=>?_)<;>try (exfalso;omega))|(refine is_neq rfl rfl (fun _=>?_) (fun _=>?_)<;>try (exfalso;omega))|refine ru_iteT rfl ?_|refine ru_iteF rfl ?_|refine is_addS rfl rfl (by omega) ?_|refine ru_skip ?_|refine ru_block ?_|refine rk_blk ?_|refine rk_inv ?_)
  all_goals try contradiction
  all_goals try (exfalso;omega)
  exact ⟨i+1,⟨rfl,rfl⟩,by omega,by omega⟩
 ·obtain rfl:i=kl.length:=by omega
  rw [List.take_length]
  by_cases h0:ra=0
  ·subst h0
   repeat' (first|refine is_boxnilG ?_|refine ru_seq ?_|refine ru_reg ?_|refine is_mv rfl ?_|refine is_fadr rfl rfl ?_|refine is_ldc rfl rfl rfl rfl ?_|refine is_nil rfl ?_|refine rk_seq ?_|(refine is_lss rfl rfl (fun _=>?_) (fun _=>?_)<;>try (exfalso;omega))|(refine is_eql rfl rfl (fun _=>?_) (fun _=>?_)<;>try (exfalso;omega))|refine ru_iteT rfl ?_|refine ru_iteF rfl ?_|refine is_mkf rfl rfl ?_|refine is_mkmap rfl ?_|refine ru_skip ?_|refine ru_ret ?_|refine ru_exit ?_|refine rk_nil ?_|refine rk_seq_ret ?_|refine rk_seq_ex ?_|refine rk_blk_eq rfl ?_|refine rk_inv_ex ?_)
   all_goals try contradiction
   all_goals try (exfalso;omega)
   refine end_st hA (by first|exact .inl rfl|exact .inr rfl) rfl rfl rfl rfl ?_
   rfl
  ·have hB:=hB2 h0
   have h0i:((ra:Nat):Int)≠0:=by omega
   simp only [if_neg h0]
   generalize (bel N rh ra []).filter (fun h=>decide (h∉hasL N kl))=out at *
   repeat' (first|refine is_boxnilG ?_|refine is_callE rfl rfl rfl hB ?_|refine ru_seq ?_|refine ru_reg ?_|refine is_mv rfl ?_|refine is_fadr rfl rfl ?_|refine is_ldc rfl rfl rfl rfl ?_|refine is_nil rfl ?_|refine rk_seq ?_|(refine is_lss rfl rfl (fun _=>?_) (fun _=>?_)<;>try (exfalso;omega))|(refine is_eql rfl rfl (fun _=>?_) (fun _=>?_)<;>try (exfalso;omega))|(refine is_neq rfl rfl (fun _=>?_) (fun _=>?_)<;>try (exfalso;omega))|refine ru_iteF rfl ?_|refine is_mkf rfl rfl ?_|refine is_mkmap rfl ?_|refine ru_skip ?_|refine ru_ret ?_|refine ru_exit ?_|refine rk_nil ?_|refine rk_seq_ex ?_|refine rk_blk_eq rfl ?_|refine rk_inv_ex ?_)
   all_goals try contradiction
   all_goals try (exfalso;omega)
   exact end_ref1 hA (.inr rfl) rfl rfl (by simp) (fun v hv=>by obtain ⟨x,_,rfl⟩:=List.mem_map.1 hv;rfl) rfl rfl
end Go.Q15
namespace Go.Q15
open Go Go.QAbs
set_option maxRecDepth 100000
set_option maxHeartbeats 8000000
def DrOk (M:Nat) (G:List Blk) (dv:AV) (w:List Nat):Prop:=(w=[]∧dv=.nils)∨∃ j ver,dv=.ref M (j+4) ver 0 w.length∧w≠[]∧G[j]?=some (.arr 1 ver (w.map hnAV))
def chL (b6:Blk) (t:Tr) (dv:AV) (w:List Nat) (G:List Blk):List Blk :=
 b6::.arr 7 0 [t.av]::.arr 7 0 [.agg [.int .u64 0,.int .i64 0,.int .i64 0,.int .i64 0,.int .i64 0,.nils,dv]]::.map (hmAV w)::G
theorem is_mupdL {O:Orc} {k:List Fr} {Q:Post} {e:Env} {A:List (Bool × List Blk)} {L:List Blk} {keep:List Nat} {is:List QAbs.PI} {x i v:Opd} {ix h:Nat} {w:AV} {es es':List (AV × AV)} (hx:opdO e x=some (.map A.length ix)) (hi:opdO e i=some (.int .u64 h)) (hv:opdO e v=some w) (hg:L[ix]?=some (.map es))
 (hs:sealV deep (A.length+1) ⟨A,false,L⟩ w=some (w,⟨A,false,L⟩)) (hp:putE (.int .u64 h) w es=some es')
 (hh:Is O is keep k Q e ⟨A,false,L.set ix (.map es')⟩):Is O (⟨none,none,false,.mupd 0 x i v⟩::is) keep k Q e ⟨A,false,L⟩:=by
 have hlt:=(List.getElem?_eq_some_iff.1 hg).1
 refine is_of (od:=none) (v:=.undef) (st':=⟨A,false,L.set ix (.map es')⟩) ?_ hh
 simp only [evalPI,evalPO,opdO_some hx,opdO_some hi,opdO_some hv,mupdV,keyIs,if_true,hs,oS,mupdK,St.get_cur,hg,vis,mapB,hp,St.put,if_false,Bool.false_eq_true,if_pos hlt,retU]
theorem onceF_len:∀ (l w:List Nat),(l.foldl onceS w).length≤w.length+l.length:=by
 intro l
 induction l with
 | nil=>intro w;simp
 | cons a l ih =>
  intro w
  rw [List.foldl_cons]
  have h1:(onceS w a).length≤w.length+1:=by unfold onceS;split<;>simp
  have h2:=ih (onceS w a)
  rw [List.length_cons];omega
theorem ch_inner {A:List (Bool × List Blk)} {b6:Blk} {t:Tr} {dv:AV} {w dl:List Nat} {G:List Blk} (h0:DrOk A.length G dv w) (hl:w.length+dl.length<100000000) {v0 v29 v30 v31:AV} {k:List Fr} {Q:Post}
 (hQ:∀ G' dv',DrOk A.length G' dv' (dl.foldl onceS w)→Rk (S Tb) k Q .norm [(0,v0),(6,.ptr A.length 0 0 0 0),(8,.ptr A.length 1 0 0 0),(10,.ptr A.length 2 0 0 0),(11,.map A.length 3),(29,v29),(30,v30),(31,v31),(46,.lit (dl.map hnAV)),(47,.int .i64 dl.length),(48,.int .i64 dl.length),(49,.bool false)] ⟨A,false,chL b6 t dv' (dl.foldl onceS w) G'⟩) :
 Ru (S Tb) p_edit_change_19.loop (.blk 2::k) Q [(0,v0),(6,.ptr A.length 0 0 0 0),(8,.ptr A.length 1 0 0 0),(10,.ptr A.length 2 0 0 0),(11,.map A.length 3),(29,v29),(30,v30),(31,v31),(46,.lit (dl.map hnAV)),(47,.int .i64 dl.length),(48,.int .i64 0)] ⟨A,false,chL b6 t dv w G⟩:=by
 refine ru_loopP (α:=Nat × AV × List Blk) (fun p=>[(0,v0),(6,.ptr A.length 0 0 0 0),(8,.ptr A.length 1 0 0 0),(10,.ptr A.length 2 0 0 0),(11,.map A.length 3),(29,v29),(30,v30),(31,v31),(46,.lit (dl.map hnAV)),(47,.int .i64 dl.length),(48,.int .i64 p.1)])
  (fun p=>⟨A,false,chL b6 t p.2.1 ((dl.take p.1).foldl onceS w) p.2.2⟩) (fun p=>p.1≤dl.length∧DrOk A.length p.2.2 p.2.1 ((dl.take p.1).foldl onceS w)) (fun p=>dl.length-p.1) (0,dv,G) rfl rfl ⟨Nat.zero_le _,h0⟩ ?_
 rintro ⟨i,dv1,G1⟩ ⟨hi,hD⟩
 simp only at hi hD ⊢
 have hwl:=onceF_len (dl.take i) w
 rw [List.length_take,Nat.min_eq_left hi] at hwl
 rcases Nat.lt_or_ge i dl.length with hlt|hge
 ·obtain ⟨h,hh⟩:∃ x,dl[i]?=some x:=⟨dl[i]'hlt,List.getElem?_eq_getElem _⟩
  have q:0≤((i:Nat):Int)∧dl[((i:Nat):Int).toNat]?=some h:=⟨by omega,by rw [show ((i:Nat):Int).toNat=i by omega];exact hh⟩
  have hnx:(dl.take (i+1)).foldl onceS w=onceS ((dl.take i).foldl onceS w) h:=by rw [take_succ_get hh,List.foldl_append];rfl
  generalize (dl.take i).foldl onceS w=W at *
  have hlk:=look_hm (st:=⟨A,false,chL b6 t dv1 W G1⟩) (lv:=A.length) (mx:=3) (St.get_cur ..) h
  by_cases hm:h∈W
  ·simp only [decide_eq_true hm] at hlk
   rw [show onceS W h=W by unfold onceS;rw [if_pos hm]] at hnx
   unfold chL at *
   repeat' (first|refine is_ixKn (f:=hnAV) rfl rfl q (fun _=>rfl) ?_|refine ru_seq ?_|refine ru_reg ?_|refine is_mv rfl ?_|refine is_nil rfl ?_|refine rk_seq ?_|refine is_ldl rfl rfl ?_|(refine is_lss rfl rfl (fun _=>?_) (fun _=>?_)<;>try (exfalso;omega))|refine ru_iteT rfl ?_|refine ru_iteF rfl ?_|refine is_not rfl rfl ?_|refine is_addS rfl rfl (by omega) ?_|refine is_look rfl rfl hlk ?_|refine ru_skip ?_|refine ru_block ?_|refine rk_blk ?_|refine rk_inv ?_)
   all_goals try contradiction
   all_goals try (exfalso;omega)
   exact ⟨(i+1,dv1,G1),⟨rfl,by simp only [hnx]⟩,⟨by simp only;omega,by simp only [hnx];exact hD⟩,by simp only;omega⟩
  ·simp only [decide_eq_false hm] at hlk
   rw [show onceS W h=W++[h] by unfold onceS;rw [if_neg hm]] at hnx
   have hpe:=putE_hm h W hm
   rcases hD with ⟨rfl,rfl⟩|⟨j,ver,rfl,hW,hg⟩
   ·unfold chL at *
    repeat' (first|refine is_ixKn (f:=hnAV) rfl rfl q (fun _=>rfl) ?_|refine ru_seq ?_|refine ru_reg ?_|refine is_mv rfl ?_|refine is_nil rfl ?_|refine rk_seq ?_|refine is_ldl rfl rfl ?_|(refine is_lss rfl rfl (fun _=>?_) (fun _=>?_)<;>try (exfalso;omega))|refine ru_iteT rfl ?_|refine is_not rfl rfl ?_|refine is_look rfl rfl hlk ?_|refine ru_skip ?_|refine ru_block ?_)
    all_goals try contradiction
    all_goals try (exfalso;omega)
    refine is_mupdL rfl rfl rfl rfl rfl hpe ?_
    repeat' (first|refine ru_reg ?_|refine is_mv rfl ?_|refine is_fadr rfl rfl ?_|refine is_ldc rfl rfl rfl rfl ?_|refine is_nil rfl ?_|refine rk_seq ?_|refine is_bslFO rfl rfl rfl rfl ?_)
    refine is_appNilG (vx:=.lit [.int .u64 h]) (ys:=[.int .u64 h]) (bytes:=8) rfl rfl rfl (by simp) (by decide) rfl ?_
    repeat' (first|refine ru_reg ?_|refine is_mv rfl ?_|refine is_fadr rfl rfl ?_|refine is_nil rfl ?_|refine rk_seq ?_|refine is_addS rfl rfl (by omega) ?_|refine is_stn rfl rfl rfl rfl (seal_refL _ (Nat.lt_succ_self _)) rfl ?_|refine rk_blk ?_|refine rk_inv ?_)
    refine ⟨(i+1,.ref A.length (G1.length+4) 0 0 1,G1++[.arr 1 0 [.int .u64 h]]),⟨rfl,?_⟩,⟨by simp only;omega,?_⟩,by simp only;omega⟩
    ·simp only [hnx];rfl
    ·simp only [hnx]
     exact .inr ⟨G1.length,0,rfl,by simp,List.getElem?_concat_length ..⟩
   ·have hj:=(List.getElem?_eq_some_iff.1 hg).1
    have hg2:∀ b0 b1 b2 b3:Blk,(b0::b1::b2::b3::G1)[j+4]?=some (.arr 1 ver (W.map hnAV)):=fun _ _ _ _=>hg
    unfold chL at *
    repeat' (first|refine is_ixKn (f:=hnAV) rfl rfl q (fun _=>rfl) ?_|refine ru_seq ?_|refine ru_reg ?_|refine is_mv rfl ?_|refine is_nil rfl ?_|refine rk_seq ?_|refine is_ldl rfl rfl ?_|(refine is_lss rfl rfl (fun _=>?_) (fun _=>?_)<;>try (exfalso;omega))|refine ru_iteT rfl ?_|refine is_not rfl rfl ?_|refine is_look rfl rfl hlk ?_|refine ru_skip ?_|refine ru_block ?_)
    all_goals try contradiction
    all_goals try (exfalso;omega)
    refine is_mupdL rfl rfl rfl rfl rfl hpe ?_
    repeat' (first|refine ru_reg ?_|refine is_mv rfl ?_|refine is_fadr rfl rfl ?_|refine is_ldc rfl rfl rfl rfl ?_|refine is_nil rfl ?_|refine rk_seq ?_|refine is_bslFO rfl rfl rfl rfl ?_)
    refine is_appG (es:=W.map hnAV) (ys:=[.int .u64 h]) rfl rfl (hg2 _ _ _ _) (by rw [List.length_map]) rfl rfl (by simp;omega) (by decide) ?_
    repeat' (first|refine ru_reg ?_|refine is_mv rfl ?_|refine is_fadr rfl rfl ?_|refine is_nil rfl ?_|refine rk_seq ?_|refine is_addS rfl rfl (by omega) ?_|refine is_stn rfl rfl rfl rfl (seal_refL _ (Nat.lt_succ_self _)) rfl ?_|refine rk_blk ?_|refine rk_inv ?_)
    refine ⟨(i+1,.ref A.length (j+4) (ver+1) 0 (W.length+1),G1.set j (.arr 1 (ver+1) (W.map hnAV++[.int .u64 h]))),⟨rfl,?_⟩,⟨by simp only;omega,?_⟩,by simp only;omega⟩
    ·simp only [hnx];rfl
    ·simp only [hnx]
     refine .inr ⟨j,ver+1,by simp,by simp,?_⟩
     rw [List.getElem?_set_self hj,List.map_append];rfl
 ·obtain rfl:i=dl.length:=by omega
  rw [List.take_length] at hD ⊢
  repeat' (first|refine ru_seq ?_|refine ru_reg ?_|refine is_nil rfl ?_|refine rk_seq ?_|(refine is_lss rfl rfl (fun _=>?_) (fun _=>?_)<;>try (exfalso;omega))|refine ru_iteF rfl ?_|refine ru_exit ?_|refine rk_seq_ex ?_|refine rk_blk_eq rfl ?_|refine rk_inv_ex ?_)
  all_goals try (exfalso;omega)
  exact hQ G1 dv1 hD
end Go.Q15
namespace Go.Q15
open Go Go.QAbs
set_option maxRecDepth 100000
set_option maxHeartbeats 8000000
def slH (l:List Nat):AV:=if l=[] then .nils else .lit (l.map hnAV)
def chAV (ro:Ro) (fresh:List Nat) (d:AV):AV:=.agg [.int .u64 ro.at_,.int .i64 ro.h,.int .i64 ro.m.b,.int .i64 ro.m.r,.int .i64 ro.m.l,.lit (fresh.map hnAV),d]
def chZ:AV:=.agg [.int .u64 0,.int .i64 0,.int .i64 0,.int .i64 0,.int .i64 0,.nils,.nils]
theorem seal_chR {b lv ix ver q n:Nat} {ro:Ro} {fr:List Nat} (st:St) (hl:lv<b):sealV deep b st (chAV ro fr (.ref lv ix ver q n))=some (chAV ro fr (.ref lv ix ver q n),st):=by
 show (mapSt (keepN (sealV 5 b)) _ _).bind aggK=_
 simp only [mapSt,keepN,isNils,Bool.false_eq_true,if_false,sealV,oS,if_pos hl,consK,aggK]
 rfl
theorem seal_chE {A:List (Bool × List Blk)} {L:List Blk} {ix ver n:Nat} {ro:Ro} {fr d:List Nat} {z:Int} (hg:L[ix]?=some (.arr 1 ver (d.map hnAV))) (hn:n=d.length) :
 sealV deep A.length ⟨A,false,L⟩ (.tup [chAV ro fr (.ref A.length ix ver 0 n),.int .i64 z])=some (.tup [chAV ro fr (.lit (d.map hnAV)),.int .i64 z],⟨A,false,L.set ix .dead⟩):=by
 subst hn
 have h1:=seal_refO (n:=3) (A:=A) (s:=0) (m:=d.length) hg (by simp) (es':=d.map hnAV) (by
  rw [List.drop_zero,List.take_of_length_le (by simp)]
  exact ints_seal (k:=.u64) (fun n:Nat=>(n:Int)) 2 0 _ d)
 show (mapSt (sealV 5 A.length) _ _).bind tupK=_
 have h2:sealV 5 A.length ⟨A,false,L⟩ (chAV ro fr (.ref A.length ix ver 0 d.length))=some (chAV ro fr (.lit (d.map hnAV)),⟨A,false,L.set ix .dead⟩):=by
  show (mapSt (keepN (sealV 4 A.length)) _ _).bind aggK=_
  simp only [mapSt,keepN,isNils,Bool.false_eq_true,if_false,oS]
  simp only [sealV,oS] at h1 ⊢
  simp only [h1,oS,consK,aggK]
  rfl
 simp only [mapSt,h2,oS]
 rfl
theorem end_ch {e:Env} {A:List (Bool × List Blk)} {st:St} {L L':List Blk} {x:Ex} {c4 c5 j4 w4 v4:Nat} {v w:AV} {cs:List AV} {z:Int} (hA:A=st.A++[(st.ro,st.L)]) (hx:x=.norm∨x=.ret) (h4:lookO e c4=some (.ptr A.length j4 v4 0 0)) (hg4:L[j4]?=some (.arr w4 v4 [v])) (hv:v=.agg cs) (hc:cs.length=7) (h5:lookO e c5=some (.int .i64 z))
 (hs:sealV deep A.length ⟨A,false,L⟩ (.tup [v,.int .i64 z])=some (.tup [w,.int .i64 z],⟨A,false,L'⟩)):endK false [.c c4 true 7,.s c5] (x,e,⟨A,false,L⟩)=some (.tup [w,.int .i64 z],st):=by
 refine end_of (v:=.tup [v,.int .i64 z]) hA hx ?_ hs rfl
 have h1:resV ⟨A,false,L⟩ e (.c c4 true 7)=some v:=by
  subst hv
  simp only [resV,lookO_some h4,loadP,St.get_cur,hg4,vis,loadB,if_true,List.getElem?_cons_zero,oS,partOf,AV.cells,List.drop_zero]
  rw [List.take_of_length_le (by omega)]
  simp [hc]
  rfl
 simp only [result,resL,h1,oS]
 simp only [resV,lookO_some h5,oS,Option.map_some,tupOf]
end Go.Q15
namespace Go.Q15
open Go Go.QAbs
set_option maxRecDepth 100000
set_option maxHeartbeats 16000000
def drAll (N:Nodes) (rs:List Ro) (t:Tr):List Nat:=(rs.flatMap fun r=>dropV N r t).foldl onceS []
theorem AROk.lv {r:AR} (h:AROk r):∀ l,Lv r.nodes l→l.length≤16384:=fun l hl=>h.few hl.1 hl.2
theorem AROk.nz {r:AR} (h:AROk r):∀ o x,lk r.nodes o=some x→o≠0:=fun o x hx=>(h.hnd hx).2
theorem dropV_len {N:Nodes} (hN:GoodN N) (hK:∀ l,Lv N l→l.length≤16384) {r:Ro} (hr:RtOk N r) (t:Tr):(dropV N r t).length≤16384:=by
 unfold dropV
 split
 ·simp
 ·rename_i h0
  obtain ⟨x,x1,x2,x3,x4⟩:∃ x,lk N r.at_=some x∧NdOk x∧x.h=r.h∧x.mea=r.m:=by
   rcases hr with rfl|w
   ·exact absurd rfl h0
   ·exact w.2
  have:=hK _ (bel_ok hN r.h r.at_ [] x x1 x3 ⟨by simp,by simp⟩)
  exact Nat.le_trans (List.length_filter_le ..) this
theorem flat_len {N:Nodes} (hN:GoodN N) (hK:∀ l,Lv N l→l.length≤16384) (t:Tr):∀ {rs:List Ro},(∀ r∈rs,RtOk N r)→(rs.flatMap fun r=>dropV N r t).length≤rs.length*16384:=by
 intro rs
 induction rs with
 | nil=>intro _;simp
 | cons r l ih =>
  intro h
  have h1:=dropV_len hN hK (h r (by simp)) t
  have h2:=ih (fun z hz=>h z (List.mem_cons_of_mem _ hz))
  rw [List.flatMap_cons,lL,List.length_cons];omega
theorem DrOk.app {M:Nat} {G:List Blk} {dv:AV} {w:List Nat} (h:DrOk M G dv w) (T:List Blk):DrOk M (G++T) dv w:=by
 rcases h with h|⟨j,ver,h1,h2,h3⟩
 ·exact .inl h
 ·exact .inr ⟨j,ver,h1,h2,by rw [List.getElem?_append_left (List.getElem?_eq_some_iff.1 h3).1];exact h3⟩
theorem change_loop {A:List (Bool × List Blk)} {N:Nodes} (hN:GoodN N) (hK:∀ l,Lv N l→l.length≤16384) (hz:∀ o x,lk N o=some x→o≠0) {la b:Nat} (hR:∀ L,Rd ⟨A,false,L⟩ la (b+5) N) {rs:List Ro} (hrs:∀ r∈rs,RtOk N r) (hl:rs.length≤3) {t:Tr} (hv:VE N t) (hb:t.bytes≤65536) {b6:Blk} {k:List Fr} {Q:Post}
 (hQ:∀ G dv,DrOk A.length G dv (drAll N rs t)→Rk (S Tb) k Q .norm [(0,.ptr la (b+5) 0 0 0),(6,.ptr A.length 0 0 0 0),(8,.ptr A.length 1 0 0 0),(10,.ptr A.length 2 0 0 0),(11,.map A.length 3),(29,.lit (rs.map Ro.av)),(30,.int .i64 rs.length),(31,.int .i64 rs.length),(32,.bool false)] ⟨A,false,chL b6 t dv (drAll N rs t) G⟩) :
 Ru (S Tb) p_edit_change_21.loop (.blk 0::k) Q [(0,.ptr la (b+5) 0 0 0),(6,.ptr A.length 0 0 0 0),(8,.ptr A.length 1 0 0 0),(10,.ptr A.length 2 0 0 0),(11,.map A.length 3),(29,.lit (rs.map Ro.av)),(30,.int .i64 rs.length),(31,.int .i64 0)] ⟨A,false,chL b6 t .nils [] []⟩:=by
 refine ru_loopP (α:=Nat × AV × List Blk) (fun p=>[(0,.ptr la (b+5) 0 0 0),(6,.ptr A.length 0 0 0 0),(8,.ptr A.length 1 0 0 0),(10,.ptr A.length 2 0 0 0),(11,.map A.length 3),(29,.lit (rs.map Ro.av)),(30,.int .i64 rs.length),(31,.int .i64 p.1)])
  (fun p=>⟨A,false,chL b6 t p.2.1 (drAll N (rs.take p.1) t) p.2.2⟩) (fun p=>p.1≤rs.length∧DrOk A.length p.2.2 p.2.1 (drAll N (rs.take p.1) t)) (fun p=>rs.length-p.1) (0,.nils,[]) rfl rfl ⟨Nat.zero_le _,.inl ⟨rfl,rfl⟩⟩ ?_
 rintro ⟨i,dv,G⟩ ⟨hi,hD⟩
 simp only at hi hD ⊢
 rcases Nat.lt_or_ge i rs.length with hlt|hge
 ·obtain ⟨ro,hro⟩:∃ x,rs[i]?=some x:=⟨rs[i]'hlt,List.getElem?_eq_getElem _⟩
  have q:0≤((i:Nat):Int)∧rs[((i:Nat):Int).toNat]?=some ro:=⟨by omega,by rw [show ((i:Nat):Int).toNat=i by omega];exact hro⟩
  have hrt:=hrs ro (List.mem_of_getElem? hro)
  have hDp:=fun L=>Dropped_c hN hK hz (hR L) hrt hv hb
  have hdl:=dropV_len hN hK hrt t
  have hfl:=flat_len hN hK t (rs:=rs.take i) (fun z hz=>hrs z (List.mem_of_mem_take hz))
  rw [List.length_take,Nat.min_eq_left hi] at hfl
  have hwl:=onceF_len ((rs.take i).flatMap fun r=>dropV N r t) []
  change (drAll N (rs.take i) t).length≤_ at hwl
  simp only [List.length_nil] at hwl
  have hnx:drAll N (rs.take (i+1)) t=(dropV N ro t).foldl onceS (drAll N (rs.take i) t):=by
   unfold drAll
   rw [take_succ_get hro,List.flatMap_append,List.foldl_append];simp
  have hin:=fun k Q hQ=>ch_inner (A:=A) (b6:=b6) (t:=t) (dl:=dropV N ro t) (hD.app [.arr 5 0 [ro.av]]) (by omega) (v0:=.ptr la (b+5) 0 0 0) (v29:=.lit (rs.map Ro.av)) (v30:=.int .i64 rs.length) (v31:=.int .i64 i) (k:=k) (Q:=Q) hQ
  rw [← hnx] at hin
  generalize dropV N ro t=dl at *
  generalize drAll N (rs.take i) t=W at *
  have f13:∀ b0 b1 b2 b3:Blk,(b0::b1::b2::b3::G++[Blk.arr 5 0 [ro.av]])[(b0::b1::b2::b3::G).length]?=some (.arr 5 0 [ro.av]):=fun _ _ _ _=>List.getElem?_concat_length ..
  obtain ⟨ra,rh,rm⟩:=ro
  unfold chL Ro.av at *
  repeat' (first|refine hin _ _ (fun G' dv' hD'=>?_)|refine is_ixKn (f:=Ro.av) rfl rfl q (fun _=>rfl) ?_|refine len1L rfl ?_|refine ru_seq ?_|refine ru_reg ?_|refine is_mv rfl ?_|refine is_ext rfl rfl ?_|refine is_nil rfl ?_|refine rk_seq ?_|refine is_ldT rfl rfl rfl ?_|refine is_ldl rfl rfl ?_|(refine is_lss rfl rfl (fun _=>?_) (fun _=>?_)<;>try (exfalso;omega))|(refine is_neq rfl rfl (fun _=>?_) (fun _=>?_)<;>try (exfalso;omega))|refine ru_iteT rfl ?_|refine ru_iteF rfl ?_|refine is_addS rfl rfl (by omega) ?_|refine is_boxG rfl rfl rfl ?_|refine is_stT rfl rfl rfl rfl rfl rfl ?_|refine is_callE rfl rfl (by first|rfl|(simp only [lE,lN,lC,weaks,tr_weak,forceL];first|done|rfl)) (hDp _) ?_|refine is_ldc rfl rfl rfl (tr_part _) ?_|refine ru_skip ?_|refine ru_block ?_|refine rk_blk ?_|refine rk_inv ?_)
  all_goals try contradiction
  all_goals try (exfalso;omega)
  exact ⟨(i+1,dv',G'),⟨rfl,rfl⟩,⟨by simp only;omega,hD'⟩,by simp only;omega⟩
 ·obtain rfl:i=rs.length:=by omega
  rw [List.take_length] at hD ⊢
  repeat' (first|refine ru_seq ?_|refine ru_reg ?_|refine is_nil rfl ?_|refine rk_seq ?_|(refine is_lss rfl rfl (fun _=>?_) (fun _=>?_)<;>try (exfalso;omega))|refine ru_iteF rfl ?_|refine ru_exit ?_|refine rk_seq_ex ?_|refine rk_blk_eq rfl ?_|refine rk_inv_ex ?_)
  all_goals try (exfalso;omega)
  exact hQ G dv hD
end Go.Q15
