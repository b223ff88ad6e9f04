/- A part of the proof: RI, RJ, RK, M52, RL, S4, S5, S6, YX, W7, RN, RO, W8, RP, FY, SHJ, TYa, SA, RS, RQ, RT, RU, RV, M18, PO, RW, RX, W9, SB, SC, RY, RZ, SD, SE, SF, SG, SI, SJ, SK, SL, SN, SO, SPa, SSa, SSb, SSc, SSd, SSe. No condition. -/
import Derived.SliceStrings
import Derived.Deep.Slices
import Derived.Carry
import Derived.Shelf.Strings.OnBuilder
import Derived.Test.YtbmllhocajbcfaaProg
import Derived.Test.YtbmllhocajbcfaaEuT6
set_option linter.unusedVariables false
set_option linter.unusedSimpArgs false
namespace Go.Q15
open Go Go.QAbs
set_option maxRecDepth 100000
structure WrOk (N:ZP) (t:Tr) (r':AR) (ro:Ro):Prop where
 rm:ro.m=t.mea
 rh:ro.h=t.h
 live:∃ y,lk r'.nodes ro.at_=some y∧NdOk y∧y.h=t.h∧y.mea=t.mea
 txt:JG r'.nodes t.h ro.at_=t.txt N
def Exec (N:ZP) (t:Tr):Prop:=∀ (r:AR),AROk r→GoodN r.nodes→Ext N r.nodes→t.cnt≤r.n→∀ (rx:Nat) (its:List It) (R:List (Nat × Ro)) (ρ:Nat→Ro),AddT t rx its R→(∀ p∈R,ρ p.1=p.2)→(R.map Prod.fst).Nodup →
 ∃ ρ',RunOk its r ρ (t.wr r).1 ρ' (t.wr r).2.2∧ρ' rx=(t.wr r).2.1∧(∀ k,k∉R.map Prod.fst→ρ' k=ρ k)∧WrB r t.cnt (t.wr r).1 (t.wr r).2.2∧WrOk N t (t.wr r).1 (t.wr r).2.1
structure WrLs (N:ZP) (l:List Tr) (h:Nat) (r':AR) (ks:List Kid):Prop where
 len:ks.length=l.length
 m:ks.map Kid.m=l.map Tr.mea
 ok:∀ k∈ks,KidOk h k∧k.at_≠0∧∃ y,lk r'.nodes k.at_=some y∧NdOk y∧y.h=h∧y.mea=k.m
 txt:(ks.flatMap fun k=>JG r'.nodes h k.at_)=Tr.txtL N l
theorem Zm8 {N:ZP} (hN:GoodN N) {h:Nat}:∀ (l:List Tr),(∀ u∈l,Val N u∧u.h=h∧Big u)→(∀ u∈l,Exec N u)→∀ (r:AR),AROk r→GoodN r.nodes→Ext N r.nodes→Tr.cntL l≤r.n→∀ (rs:List Nat) (its:List It) (R:List (Nat × Ro)) (ρ:Nat→Ro),AddL l rs its R→(∀ p∈R,ρ p.1=p.2)→(R.map Prod.fst).Nodup →
 ∃ ρ',RunOk its r ρ (Tr.wrL l r).1 ρ' (Tr.wrL l r).2.2∧(rs.map fun k=>(ρ' k).kid)=(Tr.wrL l r).2.1∧(∀ k,k∉R.map Prod.fst→ρ' k=ρ k)∧WrB r (Tr.cntL l) (Tr.wrL l r).1 (Tr.wrL l r).2.2∧WrLs N l h (Tr.wrL l r).1 (Tr.wrL l r).2.1:=by
 intro l
 induction l with
 | nil =>
  intro _ _ r ho hg hE hc rs its R ρ ha hR hnd
  cases ha
  exact ⟨ρ,.nil,rfl,fun _ _=>rfl,.refl ho hg,⟨rfl,rfl,fun k hk=>by simp [Tr.wrL] at hk,rfl⟩⟩
 | cons t l ih =>
  intro hv hx r ho hg hE hc rs its R ρ ha hR hnd
  cases ha with
  | @cons _ _ rx rs i1 i2 R1 R2 ht hl =>
   rw [Tr.cntL] at hc
   rw [List.map_append,List.nodup_append] at hnd
   obtain ⟨nd1,nd2,nd3⟩:=hnd
   obtain ⟨ρ1,a1,a2,a3,a4,a5⟩:=hx t (by simp) r ho hg hE (by omega) rx i1 R1 ρ ht (fun p hp=>hR p (by simp [hp])) nd1
   have hn1:=a4.n
   have hd:∀ p∈R2,p.1∉R1.map Prod.fst:=fun p hp q=>nd3 _ q _ (List.mem_map.2 ⟨p,hp,rfl⟩) rfl
   obtain ⟨ρ2,b1,b2,b3,b4,b5⟩:=ih (fun u hu=>hv u (by simp [hu])) (fun u hu=>hx u (by simp [hu])) _ a4.ok a4.good (hE.trans a4.ext) (by omega) rs i2 R2 ρ1 hl (fun p hp=>by rw [a3 _ (hd p hp)];exact hR p (by simp [hp])) nd2
   obtain ⟨rr,hrr,_,_⟩:=ht.root
   have hrx:rx∉R2.map Prod.fst:=fun q=>nd3 rx (List.mem_map.2 ⟨_,hrr,rfl⟩) rx q rfl
   obtain ⟨v1,v2,v3⟩:=hv t (by simp)
   refine ⟨ρ2,a1.append b1,?_,?_,?_,?_⟩
   ·rw [List.map_cons,b3 rx hrx,a2,b2];rfl
   ·intro k hk
    rw [List.map_append,List.mem_append,not_or] at hk
    rw [b3 k hk.2,a3 k hk.1]
   ·rw [Tr.cntL];exact a4.trans b4
   ·obtain ⟨y,y1,y2,y3,y4⟩:=a5.live
    have hh:=a4.ok.hnd y1
    have hkm:((t.wr r).2.1.kid).m=t.mea:=a5.rm
    have hka:((t.wr r).2.1.kid).at_=(t.wr r).2.1.at_:=rfl
    refine ⟨by show _+1=_;rw [b5.len];rfl,?_,?_,?_⟩
    ·show ((t.wr r).2.1.kid).m::_=_
     rw [hkm,b5.m];rfl
    ·intro k hk
     rcases List.mem_cons.1 hk with rfl|q
     ·refine ⟨?_,hh.2,y,b4.ext _ _ y1,y2,by rw [y3,v2],by rw [y4];exact hkm.symm⟩
      have hs:=v1.size hN v3
      have hb:=v1.mea_ok.1
      have:=y2.kid (a:=(t.wr r).2.1.at_) (by rw [y3,y4,hb];exact hs) hh.1
      rw [y3,v2,y4,← a5.rm] at this
      exact this
     ·exact b5.ok k q
    ·show JG (Tr.wrL l (t.wr r).1).1.nodes h (t.wr r).2.1.at_++((Tr.wrL l (t.wr r).1).2.1.flatMap fun k=>JG (Tr.wrL l (t.wr r).1).1.nodes h k.at_)=_
     rw [b5.txt,Tr.txtL,← a5.txt,v2]
     congr 1
     exact ZHg a4.good b4.ext h _ y y1 (by rw [y3,v2])
theorem exec_ok {N:ZP} (hN:GoodN N) {t:Tr} (hv:Val N t):t.bytes≤65536→Exec N t:=by
 induction hv with
 | @kept o h m k x h0 hx hok hh hm hk =>
  intro _ r ho hg hE hc rx its R ρ ha hR hnd
  have e:(Tr.mk o h m [] k).wr r=(r,⟨o,h,m⟩,[]):=by rw [Tr.wr,if_pos h0]
  have ec:(Tr.mk o h m [] k).cnt=0:=by rw [Tr.cnt,Tr.cntO_getD,hk,if_neg h0];rfl
  rw [e,ec]
  cases ha with
  | kept _ =>
   refine ⟨ρ,.nil,hR (rx,⟨o,h,m⟩) (by simp),fun _ _=>rfl,.refl ho hg,⟨(ZL3 h0).symm,rfl,⟨x,hE _ _ hx,hok,hh,by rw [ZL3 h0];exact hm⟩,?_⟩⟩
   show JG r.nodes h o=_
   rw [ZHg hN hE h o x hx hh,Tr.txt,if_neg h0,Tr.txtO_getD,hk]
   simp [Tr.txtL]
  | leaf=>exact absurd rfl h0
  | inner=>exact absurd rfl h0
 | @leaf s k h1 h2 hk =>
  intro _ r ho hg hE hc rx its R ρ ha hR hnd
  have e:(Tr.mk 0 0 .zero s k).wr r=(r.add ⟨0,s,none⟩,⟨r.next,0,Y1 s⟩,[r.next]):=by rw [Tr.wr];simp
  have ec:(Tr.mk 0 0 .zero s k).cnt=1:=by rw [Tr.cnt,Tr.cntO_getD,hk];rfl
  rw [ec] at hc
  rw [e,ec]
  have hx:NdOk ⟨0,s,none⟩:=.inl ⟨rfl,h1,h2,rfl⟩
  cases ha with
  | kept h0=>exact absurd rfl h0
  | leaf =>
   have hρ:ρ rx=⟨0,0,Y1 s⟩:=hR (rx,⟨0,0,Y1 s⟩) (by simp)
   refine ⟨ZL4 ρ rx r.next,.cons (by omega) hx (fun k hk=>by simp [Qr,Nd.ks] at hk) .nil,?_,fun k hk=>?_,.one ho (by omega) hg hx (fun k hk=>by simp [Nd.ks] at hk) (fun k hk=>by simp [Nd.ks] at hk),⟨(ZL2 s k).symm,rfl,⟨(⟨0,s,none⟩:Nd).copy,?_,hx.copy,rfl,?_⟩,?_⟩⟩
   ·simp only [ZL4,if_true,hρ];rfl
   ·simp only [List.map_cons,List.map_nil,List.mem_singleton] at hk
    simp only [ZL4,if_neg hk]
   ·rw [ZHI ho (by omega),if_pos rfl]
   ·rw [ZL2];rfl
   ·show JG _ 0 r.next=_
    rw [JG,ZHI ho (by omega),if_pos rfl,Tr.txt,if_pos rfl,Tr.txtO_getD,hk]
    simp [Tr.txtL,Nd.copy]
 | @inner h l hh h2 h4 hl hb hv ih =>
  intro hb2 r ho hg hE hc rx its R ρ ha hR hnd
  have eb:(Tr.mk 0 (h+1) .zero [] (some l)).bytes=Tr.bytesL l:=by rw [Tr.bytes,Tr.bytesO];simp [Mea.zero]
  have hbs:∀ u∈l,u.bytes≤65536:=fun u hu=>by
   obtain ⟨i,hi,rfl⟩:=List.getElem_of_mem hu
   have h3:Tr.bytesL l=Tr.bytesL (l.take i)+(l[i].bytes+Tr.bytesL (l.drop (i+1))):=by
    conv=>lhs;rw [← List.take_append_drop (i+1) l,Zg (List.getElem?_eq_getElem hi),Tr.bytesL_append,Tr.bytesL_append]
    simp [Tr.bytesL];omega
   have n1:=Tr.bytesL_nonneg (l:=l.take i) (fun t ht=>by have:=(hv t (List.mem_of_mem_take ht)).pos.2;omega)
   have n2:=Tr.bytesL_nonneg (l:=l.drop (i+1)) (fun t ht=>by have:=(hv t (List.mem_of_mem_drop ht)).pos.2;omega)
   omega
  have ec:(Tr.mk 0 (h+1) .zero [] (some l)).cnt=Tr.cntL l+1:=by rw [Tr.cnt,Tr.cntO];simp;omega
  rw [ec] at hc
  have hbl:(QT (l.map Tr.mea)).b=Tr.bytesL l:=ZfK l fun u hu=>(hv u hu).mea_ok.1
  have e:(Tr.mk 0 (h+1) .zero [] (some l)).wr r=((Tr.wrL l r).1.add ⟨h+1,[],some (Tr.wrL l r).2.1⟩,⟨(Tr.wrL l r).1.next,h+1,QT ((Tr.wrL l r).2.1.map Kid.m)⟩,(Tr.wrL l r).2.2++[(Tr.wrL l r).1.next]):=by
   rw [Tr.wr];simp [Tr.wrO]
  rw [e,ec]
  cases ha with
  | kept h0=>exact absurd rfl h0
  | @inner _ _ _ rs i1 R1 hal hn1 hx1 =>
   obtain ⟨ρ1,a1,a2,a3,a4,a5⟩:=Zm8 hN l (fun u hu=>⟨hv u hu,hl u hu,fun q=>hb u hu (by rw [← hl u hu];exact q)⟩) (fun u hu=>ih u hu (hbs u hu)) r ho hg hE (by omega) rs i1 R1 ρ hal (fun p hp=>hR p (by simp [hp])) hn1
   have hρ:ρ1 rx=⟨0,h+1,QT (l.map Tr.mea)⟩:=by rw [a3 rx hx1];exact hR (rx,⟨0,h+1,QT (l.map Tr.mea)⟩) (by simp)
   have hn:0<(Tr.wrL l r).1.n:=by have:=a4.n;omega
   generalize hks:(Tr.wrL l r).2.1=ks at *
   generalize (Tr.wrL l r).1=r1 at *
   have hx:NdOk ⟨h+1,[],some ks⟩:=.inr ⟨h,ks,rfl,by omega,by have:=a5.len;omega,by have:=a5.len;omega,fun k hk=>(a5.ok k hk).1,by rw [a5.m,hbl];omega⟩
   have hki:ZOj r1.nodes ⟨h+1,[],some ks⟩:=fun k hk=>by
    obtain ⟨_,_,y,y1,y2,y3,y4⟩:=a5.ok k hk
    exact ⟨y,y1,y2,by show y.h+1=h+1;omega,y4⟩
   have hnd2:Qr ρ1 (.inn (h+1) rs)=⟨h+1,[],some ks⟩:=by rw [Qr,a2]
   have hrun:RunOk [⟨rx,.inn (h+1) rs⟩] r1 ρ1 (r1.add ⟨h+1,[],some ks⟩) (ZL4 ρ1 rx r1.next) [r1.next]:=by
    have:=RunOk.cons (it:=⟨rx,.inn (h+1) rs⟩) (ρ:=ρ1) hn (by rw [hnd2];exact hx) (by rw [hnd2];exact hki) .nil
    rw [hnd2] at this
    exact this
   refine ⟨ZL4 ρ1 rx r1.next,a1.append hrun,?_,fun k hk=>?_,a4.trans (.one a4.ok hn a4.good hx hki (fun k hk=>(a5.ok k hk).2.1)),⟨?_,rfl,⟨(⟨h+1,[],some ks⟩:Nd).copy,?_,hx.copy,rfl,?_⟩,?_⟩⟩
   ·simp only [ZL4,if_true,hρ,Ro.wr,a5.m]
   ·rw [List.map_append,List.mem_append,not_or] at hk
    have:k≠rx:=fun q=>hk.2 (by simp [q])
    simp only [ZL4,if_neg this]
    exact a3 k hk.1
   ·rw [Zb8]
    show QT (ks.map Kid.m)=_
    rw [a5.m]
   ·rw [ZHI a4.ok hn,if_pos rfl]
   ·rw [Zb8,← a5.m];rfl
   ·show JG _ (h+1) r1.next=_
    rw [JG,ZHI a4.ok hn,if_pos rfl,Tr.txt,if_pos rfl,Tr.txtO,← a5.txt]
    show (ks.flatMap fun k=>JG (r1.add _).nodes h k.at_)=_
    have key:∀ m:List Kid,(∀ k∈m,k∈ks)→(m.flatMap fun k=>JG (r1.add ⟨h+1,[],some ks⟩).nodes h k.at_)=m.flatMap fun k=>JG r1.nodes h k.at_:=by
     intro m
     induction m with
     | nil=>intro _;rfl
     | cons k m ih2 =>
      intro q
      obtain ⟨_,_,y,y1,y2,y3,y4⟩:=a5.ok k (q k (by simp))
      rw [List.flatMap_cons,List.flatMap_cons,ZHg a4.good (Zb9 a4.ok hn _) h k.at_ y y1 y3,ih2 (fun w hw=>q w (by simp [hw]))]
    exact key ks fun _ h=>h
end Go.Q15
namespace Go.Q15
open Go Go.QAbs
set_option maxRecDepth 100000
set_option maxHeartbeats 8000000
theorem ClsOk.get {n ip:Nat} {F:List (Nat × Blk)} {cs:List AV} {is:List It} (h:ClsOk n ip F cs is):∀ {j:Nat} {it:It},is[j]?=some it→∃ c,cs[j]?=some c∧ClOk n ip F c it:=by
 induction h with
 | nil=>intro j it hj;simp at hj
 | cons hc ht ih =>
  intro j it hj
  cases j with
  | zero =>
   simp only [List.getElem?_cons_zero,oJ] at hj
   subst hj
   exact ⟨_,rfl,hc⟩
  | succ j=>exact ih hj
def TdOk (st:St) (n tx ver j:Nat) (cls:List AV) (td:AV):Prop:=(cls=[]∧td=.nils)∨(cls≠[]∧td=.ref n tx ver j (cls.length-j)∧st.get n tx=some (.arr 1 ver cls))
structure PenS (st:St) (n ip tx ver la b:Nat) (cls:List AV) (its:List It) (F:List (Nat × Blk)) (keys:List Nat) (rx:Nat) (ρ:Nat→Ro) (j:Nat):Prop where
 wr:st.wr n
 pen:∃ td,st.get n ip=some (.arr 3 0 [.agg [.ptr la (b+5) 0 0 0,td,.ptr n rx 0 0 0]])∧TdOk st n tx ver j cls td
 cl:ClsOk n ip F cls its
 fx:∀ p∈F,st.get n p.1=some p.2
 rts:∀ k∈keys,st.get n k=some (.arr 5 0 [(ρ k).av])
 key:∀ it∈its,it.rx∈keys∧∀ k∈ZfL it.c,k∈keys
 rk:rx∈keys
 s1:∀ k∈keys,k≠ip∧k≠tx
 s2:tx≠ip
 s3:∀ p∈F,p.1∉keys∧p.1≠ip∧p.1≠tx
 ar:∀ i,i=ip∨(cls≠[]∧i=tx)∨i∈keys∨(∃ p∈F,i=p.1)→¬ (n=la∧b≤i∧i≤b+5)
 len:cls.length<1000000
 jl:j≤cls.length
theorem ZmW {st:St} {n ip tx ver la b:Nat} {cls:List AV} {its:List It} {F:List (Nat × Blk)} {keys:List Nat} {rx:Nat} {ρ:Nat→Ro} {j:Nat} (h:PenS st n ip tx ver la b cls its F keys rx ρ j) (hj:j=cls.length):S Tb ZAt [.ptr n ip 0 0 0] st=some (.tup [(ρ rx).av,.int .i64 0],st):=by
 obtain ⟨td,h1,h2⟩:=h.pen
 have h3:=h.rts rx h.rk
 refine QF rfl (fun A hA=>?_)
 have g1:=fun L=>ZQ hA (ro:=false) (L:=L) h1
 have g3:=fun L=>ZQ hA (ro:=false) (L:=L) h3
 unfold Ro.av at g3 ⊢
 rcases h2 with ⟨_,rfl⟩|⟨_,rfl,_⟩
 all_goals repeat' (first|refine ZE ?_|refine ZD ?_|refine ZG rfl ?_|refine ZJ rfl rfl ?_|refine ZB rfl ?_|refine ZC ?_|refine Zm rfl rfl ?_|refine JS rfl ?_|refine Jm rfl ?_|(refine Qv rfl rfl (fun _=>?_) (fun _=>?_)<;>try (exfalso;omega))|refine ZH rfl ?_|refine Qb rfl rfl rfl rfl ?_|refine Zi rfl rfl rfl ?_|refine Zu rfl rfl rfl rfl rfl rfl ?_|refine Z3 rfl (g1 _) rfl rfl ?_|refine Z3 rfl (g3 _) rfl rfl ?_|refine ZI ?_|refine ZS ?_|refine ZL ?_)
 all_goals try (exfalso;omega)
 all_goals refine Y4 hA (by first|exact .inl rfl|exact .inr rfl) rfl rfl rfl rfl rfl ?_
 all_goals rfl
def ZFT (st:St) (n ip tx ver la b:Nat) (len:Nat) (rx:Nat) (r':AR) (k:Nat) (ro:Ro) (j:Nat):St :=
 ((QJ st la b r').upd n k (.arr 5 0 [ro.av])).upd n ip (.arr 3 0 [.agg [.ptr la (b+5) 0 0 0,.ref n tx ver (j+1) (len-j-1),.ptr n rx 0 0 0]])
theorem PenS.step {st:St} {n ip tx ver la b:Nat} {cls:List AV} {its:List It} {F:List (Nat × Blk)} {keys:List Nat} {rx:Nat} {ρ:Nat→Ro} {j:Nat} (h:PenS st n ip tx ver la b cls its F keys rx ρ j) {r:AR} (hA:Has st la b r) (ho:AROk r) (hn:0<r.n) {it:It} (hj:its[j]?=some it)
 (hx:NdOk (Qr ρ it.c)) (hk:ZOj r.nodes (Qr ρ it.c)) :
 S Tb XC [.ptr n ip 0 0 0] st=some (.tup [.int .u64 r.next,.bool (decide (cls.length=j+1)),.int .i64 0],ZFT st n ip tx ver la b cls.length rx (r.add (Qr ρ it.c)) it.rx ((ρ it.rx).wr r.next) j) ∧
 PenS (ZFT st n ip tx ver la b cls.length rx (r.add (Qr ρ it.c)) it.rx ((ρ it.rx).wr r.next) j) n ip tx ver la b cls its F keys rx (ZL4 ρ it.rx r.next) (j+1) ∧
 Has (ZFT st n ip tx ver la b cls.length rx (r.add (Qr ρ it.c)) it.rx ((ρ it.rx).wr r.next) j) la b (r.add (Qr ρ it.c)):=by
 obtain ⟨td,h1,h2⟩:=h.pen
 obtain ⟨cl,c1,c2⟩:=h.cl.get hj
 have hjl:=(List.getElem?_eq_some_iff.1 c1).1
 have hm:=List.mem_of_getElem? hj
 obtain ⟨k1,k2⟩:=h.key it hm
 have hrx:=h.rts it.rx k1
 have hrp:=h.s1 it.rx k1
 have hne:cls≠[]:=fun q=>by rw [q] at c1;simp at c1
 rcases h2 with ⟨q,_⟩|⟨_,rfl,h3⟩
 ·exact absurd q hne
 have hS:=ZmV (it:=it) (ρ:=ρ) (b0:=0) (b1:=0) (b2:=0) (cv:=.nils) h3 c1 c2 h.len h1 h.fx (fun k hk=>h.rts k (k2 k hk)) hrx hA ho hn hx hk h.wr (fun i hi=>h.ar i (by
  rcases hi with rfl|rfl|rfl|q
  ·exact .inr (.inr (.inl k1))
  ·exact .inl rfl
  ·exact .inr (.inl ⟨hne,rfl⟩)
  ·exact .inr (.inr (.inr q)))) ⟨hrp.1,hrp.2,h.s2⟩
 have a1:∀ i,¬ (n=la∧b≤i∧i≤b+5)→(QJ st la b (r.add (Qr ρ it.c))).get n i=st.get n i:=fun i hi=>hA.out _ hi
 have g1:∀ l' i',((QJ st la b (r.add (Qr ρ it.c))).upd n it.rx (.arr 5 0 [((ρ it.rx).wr r.next).av])).get l' i'=if l'=n∧i'=it.rx then some (.arr 5 0 [((ρ it.rx).wr r.next).av]) else (QJ st la b (r.add (Qr ρ it.c))).get l' i' :=
  fun l' i'=>St.get_upd ((a1 _ (h.ar _ (.inr (.inr (.inl k1))))).trans hrx) rfl
 have hp0:((QJ st la b (r.add (Qr ρ it.c))).upd n it.rx (.arr 5 0 [((ρ it.rx).wr r.next).av])).get n ip=_:=(g1 n ip).trans ((if_neg (fun q=>hrp.1 q.2.symm)).trans ((a1 _ (h.ar _ (.inl rfl))).trans h1))
 have g2:∀ l' i',(ZFT st n ip tx ver la b cls.length rx (r.add (Qr ρ it.c)) it.rx ((ρ it.rx).wr r.next) j).get l' i'=if l'=n∧i'=ip then some (.arr 3 0 [.agg [.ptr la (b+5) 0 0 0,.ref n tx ver (j+1) (cls.length-j-1),.ptr n rx 0 0 0]]) else if l'=n∧i'=it.rx then some (.arr 5 0 [((ρ it.rx).wr r.next).av]) else (QJ st la b (r.add (Qr ρ it.c))).get l' i':=fun l' i'=>by
  rw [ZFT,St.get_upd hp0 rfl,g1]
 have hw1:(QJ st la b (r.add (Qr ρ it.c))).wr n:=ZLn hA.cl.wr h.wr
 have hwl:(QJ st la b (r.add (Qr ρ it.c))).wr la:=(hA.put _).wr
 have hw2:∀ {l:Nat},(QJ st la b (r.add (Qr ρ it.c))).wr l→(ZFT st n ip tx ver la b cls.length rx (r.add (Qr ρ it.c)) it.rx ((ρ it.rx).wr r.next) j).wr l:=fun w=>St.wr_upd (St.wr_upd hw1 hw1) (St.wr_upd hw1 w)
 refine ⟨hS,⟨hw2 hw1,⟨_,by rw [g2,if_pos ⟨rfl,rfl⟩,Nat.sub_sub],.inr ⟨hne,rfl,?_⟩⟩,h.cl,fun p hp=>?_,fun k hk=>?_,h.key,h.rk,h.s1,h.s2,h.s3,h.ar,h.len,hjl⟩,?_⟩
 ·rw [g2,if_neg (fun q=>h.s2 q.2),if_neg (fun q=>hrp.2 q.2.symm),a1 _ (h.ar _ (.inr (.inl ⟨hne,rfl⟩)))];exact h3
 ·obtain ⟨q1,q2,q3⟩:=h.s3 p hp
  rw [g2,if_neg (fun q=>q2 q.2),if_neg (fun q=>q1 (by rw [q.2];exact k1)),a1 _ (h.ar _ (.inr (.inr (.inr ⟨p,hp,rfl⟩))))];exact h.fx p hp
 ·obtain ⟨q1,q2⟩:=h.s1 k hk
  rw [g2,if_neg (fun q=>q1 q.2)]
  unfold ZL4
  by_cases e:k=it.rx
  ·subst e;rw [if_pos ⟨rfl,rfl⟩,if_pos rfl]
  ·rw [if_neg (fun q=>e q.2),if_neg e,a1 _ (h.ar _ (.inr (.inr (.inl hk))))];exact h.rts k hk
 ·have hP:=hA.put (r.add (Qr ρ it.c))
  have n1:∀ i,b≤i→i≤b+5→¬ (la=n∧i=ip)∧¬ (la=n∧i=it.rx):=fun i i1 i2=>⟨fun q=>h.ar ip (.inl rfl) ⟨q.1.symm,by omega,by omega⟩,fun q=>h.ar it.rx (.inr (.inr (.inl k1))) ⟨q.1.symm,by omega,by omega⟩⟩
  have gg:∀ i,b≤i→i≤b+5→(ZFT st n ip tx ver la b cls.length rx (r.add (Qr ρ it.c)) it.rx ((ρ it.rx).wr r.next) j).get la i=(QJ st la b (r.add (Qr ρ it.c))).get la i:=fun i i1 i2=>by
   rw [g2,if_neg (n1 i i1 i2).1,if_neg (n1 i i1 i2).2]
  exact ⟨hw2 hwl,(gg _ (by omega) (by omega)).trans hP.h0,(gg _ (by omega) (by omega)).trans hP.h1,(gg _ (by omega) (by omega)).trans hP.h2,(gg _ (by omega) (by omega)).trans hP.h3,(gg _ (by omega) (by omega)).trans hP.h4,(gg _ (by omega) (by omega)).trans hP.h5⟩
end Go.Q15
namespace Go.Q15
open Go Go.QAbs
set_option maxRecDepth 100000
set_option maxHeartbeats 8000000
theorem ZD3 {A:List (Bool × List Blk)} {ro:Bool} {L:List Blk} {lv ix:Nat} {b:Blk} (T:List Blk) (h:St.get ⟨A,ro,L⟩ lv ix=some b):St.get ⟨A,ro,L++T⟩ lv ix=some b:=by
 unfold St.get at h ⊢
 simp only at h ⊢
 split
 ·rename_i q
  rw [if_pos q] at h
  have h2:=(ZBC h).1
  rw [List.getElem?_append_left (List.getElem?_eq_some_iff.1 h2).1];exact h
 ·rename_i q
  rw [if_neg q] at h;exact h
theorem HasR.app {A:List (Bool × List Blk)} {ro:Bool} {L:List Blk} {la b:Nat} {r:AR} (h:HasR ⟨A,ro,L⟩ la b r) (T:List Blk):HasR ⟨A,ro,L++T⟩ la b r :=
 ⟨ZD3 T h.h0,ZD3 T h.h1,ZD3 T h.h2,ZD3 T h.h3,ZD3 T h.h4,ZD3 T h.h5⟩
mutual
theorem AddT.keys:∀ {t:Tr} {rx:Nat} {its:List It} {R:List (Nat × Ro)},AddT t rx its R→rx∈R.map Prod.fst∧∀ it∈its,it.rx∈R.map Prod.fst∧∀ k∈ZfL it.c,k∈R.map Prod.fst
 | _,_,_,_,.kept h0=>⟨by simp,fun it h=>by simp at h⟩
 | _,_,_,_,.leaf=>⟨by simp,fun it h=>by simp only [List.mem_singleton] at h;subst h;exact ⟨by simp,fun k hk=>by simp [ZfL] at hk⟩⟩
 | _,_,_,_,.inner hl hn hx=>by
  obtain ⟨h1,h2⟩:=AddL.keys hl
  refine ⟨by simp,fun it h=>?_⟩
  rcases List.mem_append.1 h with q|q
  ·obtain ⟨a1,a2⟩:=h2 it q
   exact ⟨by rw [List.map_append];exact List.mem_append_left _ a1,fun k hk=>by rw [List.map_append];exact List.mem_append_left _ (a2 k hk)⟩
  ·simp only [List.mem_singleton] at q
   subst q
   exact ⟨by simp,fun k hk=>by rw [List.map_append];exact List.mem_append_left _ (h1 k hk)⟩
theorem AddL.keys:∀ {l:List Tr} {rs:List Nat} {its:List It} {R:List (Nat × Ro)},AddL l rs its R→(∀ r∈rs,r∈R.map Prod.fst)∧∀ it∈its,it.rx∈R.map Prod.fst∧∀ k∈ZfL it.c,k∈R.map Prod.fst
 | _,_,_,_,.nil=>⟨fun r h=>by simp at h,fun it h=>by simp at h⟩
 | _,_,_,_,.cons ht hl=>by
  obtain ⟨a1,a2⟩:=ht.keys
  obtain ⟨b1,b2⟩:=hl.keys
  refine ⟨fun r h=>?_,fun it h=>?_⟩
  ·rw [List.map_append]
   rcases List.mem_cons.1 h with rfl|q
   ·exact List.mem_append_left _ a1
   ·exact List.mem_append_right _ (b1 r q)
  ·rw [List.map_append]
   rcases List.mem_append.1 h with q|q
   ·exact ⟨List.mem_append_left _ (a2 it q).1,fun k hk=>List.mem_append_left _ ((a2 it q).2 k hk)⟩
   ·exact ⟨List.mem_append_right _ (b2 it q).1,fun k hk=>List.mem_append_right _ ((b2 it q).2 k hk)⟩
end
def ZmX (R:List (Nat × Ro)) (k:Nat):Ro:=((R.find? fun p=>p.1 == k).map Prod.snd).getD .zero
theorem ZcA:∀ {R:List (Nat × Ro)},(R.map Prod.fst).Nodup→∀ p∈R,ZmX R p.1=p.2
 | [],_,p,hp=>by simp at hp
 | q::R,hn,p,hp=>by
  rw [List.map_cons,List.nodup_cons] at hn
  unfold ZmX
  rw [List.find?_cons]
  rcases List.mem_cons.1 hp with rfl|w
  ·simp
  ·have:q.1≠p.1:=fun e=>hn.1 (by rw [e];exact List.mem_map.2 ⟨p,w,rfl⟩)
   rw [show (q.1 == p.1)=false by simp [this]]
   exact ZcA hn.2 p w
def PI (t:Tr) (its:List It) (rx:Nat) (ρ:Nat→Ro):Prop:=(IsEmpty t∧its=[]∧ρ rx=.zero)∨(∃ N,Val N t)∧∃ R,AddT t rx its R∧(∀ p∈R,ρ p.1=p.2)∧(R.map Prod.fst).Nodup
def nw (t:Tr):Nat:=if t.old=0∧t.h=0∧t.text=[] then 0 else t.cnt
theorem ZJf {N:ZP} {t:Tr} (hv:Val N t):nw t=t.cnt:=by
 unfold nw
 cases hv with
 | kept h0=>rw [if_neg];simp [Tr.old,h0]
 | leaf h1=>rw [if_neg];rintro ⟨_,_,q⟩;simp only [Tr.text] at q;rw [q] at h1;simp at h1
 | inner=>rw [if_neg];simp [Tr.h]
theorem Zdj {t:Tr} (h:IsEmpty t):nw t=0:=by
 unfold nw;rw [if_pos ⟨h.old,h.h,h.text⟩]
structure Begun (A:List (Bool × List Blk)) (L L2:List Blk) (la b:Nat) (t:Tr) (tx ver:Nat) (cs:List AV) (its:List It) (F:List (Nat × Blk)) (keys:List Nat) (rx:Nat) (ρ:Nat→Ro):Prop where
 ps:PenS ⟨A,false,L2⟩ A.length (L.length+1) tx ver la b cs its F keys rx ρ 0
 len:L.length+2≤L2.length
 old:∀ i,i<L.length→L2[i]?=L[i]?
 klo:∀ k∈keys,L.length+2≤k
 flo:∀ p∈F,L.length+2≤p.1
 tlo:cs≠[]→L.length+2≤tx
 pi:PI t its rx ρ
theorem ZhX {N:ZP} {A:List (Bool × List Blk)} {L:List Blk} {la b:Nat} {r:AR} (hA:HasR ⟨A,false,L⟩ la b r) (hN:r.n≤r.blk.length) (h16:r.states.length≤16384) (h6:r.n<65536) {t:Tr} (hv:Val r.nodes t) (hb:t.bytes≤65536) (hn:t.cnt≤r.n) :
 ∃ L2 tx ver cs its F keys rx ρ,S Tb Xf [.ptr la (b+5) 0 0 0,t.av] ⟨A,false,L⟩=some (.tup [.ptr A.length (L.length+1) 0 0 0,.int .i64 0],⟨A,false,L2⟩)∧Begun A L L2 la b t tx ver cs its F keys rx ρ:=by
 have hCk:=fun T=>ZZk (hA.app T).rd hv hb
 have hNw:=fun st=>Zm5 hv (by omega) st
 have hSt:=fun T=>Zb7 (hA.app T) hN h16 h6
 unfold AR.statsAV at hSt
 obtain ⟨T,hT⟩:∃ T:List Blk,T=[.arr 7 0 [t.av],.arr 3 0 [.agg [.ptr la (b+5) 0 0 0,.nils,.nilptr]]]:=⟨_,rfl⟩
 have hTl:T.length=2:=by rw [hT];rfl
 have hip:(L++T)[L.length+1]?=some (.arr 3 0 [.agg [.ptr la (b+5) 0 0 0,.nils,.nilptr]]):=by rw [Qo,hT];rfl
 have hP:Pen A (L++T) (L.length+1) (.ptr la (b+5) 0 0 0) .nils []:=⟨⟨_,hip⟩,.inl ⟨rfl,rfl⟩⟩
 obtain ⟨L1,td1,rx,its,cs,R,F,hS,ha⟩:=Zm7 hv hb hP (by simp;omega)
 obtain ⟨⟨rp,p1⟩,p2⟩:=ha.pen
 rw [lE] at p2
 have hl1:=ha.frm.len
 rw [lL,hTl] at hl1
 have hlt1:L.length+1<L1.length:=(List.getElem?_eq_some_iff.1 p1).1
 have hkl:∀ k∈R.map Prod.fst,L.length+2≤k:=fun k hk=>by
  obtain ⟨p,hp,rfl⟩:=List.mem_map.1 hk
  have:=ha.rlo p hp
  rwa [lL,hTl] at this
 have hfl:∀ p∈F,L.length+2≤p.1:=fun p hp=>by
  have:=ha.flo p hp
  rwa [lL,hTl] at this
 have hg:∀ i,i≠L.length+1→∀ B,(L1.set (L.length+1) B)[i]?=L1[i]?:=fun i hi B=>List.getElem?_set_ne (fun q=>hi q.symm)
 obtain ⟨q1,q2⟩:=ha.tr.keys
 have hbl:la=A.length→b+5<L.length:=fun e=>by
  have:=hA.h5
  subst e
  rw [St.get_cur] at this
  exact (List.getElem?_eq_some_iff.1 (ZBC this).1).1
 -- where the list lies
 obtain ⟨tx,ver,t1,t2,t3⟩:∃ tx ver,(cs=[]∧td1=.nils∧tx=L.length∨cs≠[]∧td1=.ref A.length tx ver 0 cs.length∧L1[tx]?=some (.arr 1 ver cs)∧L.length+2≤tx∧YD (L.length+1) td1 tx)∧tx≠L.length+1∧(∀ k,L.length+2≤k→¬ YD (L.length+1) td1 k→k≠tx):=by
  rcases p2 with ⟨e1,e2⟩|⟨tx,ver,e1,e2,e3,e4⟩
  ·exact ⟨L.length,0,.inl ⟨e2,e1,rfl⟩,by omega,fun k hk _=>by omega⟩
  ·have hX:YD (L.length+1) td1 tx:=.inr ⟨_,_,_,_,e1⟩
   refine ⟨tx,ver,.inr ⟨e4,e1,e2,?_,hX⟩,e3,fun k hk hn q=>hn (by rw [q];exact hX)⟩
   rcases ha.frm.own tx hX with w|w
   ·rcases w with w|⟨_,_,_,_,w⟩
    ·exact absurd w e3
    ·simp at w
   ·rwa [lL,hTl] at w
 refine ⟨L1.set (L.length+1) (.arr 3 0 [.agg [.ptr la (b+5) 0 0 0,td1,.ptr A.length rx 0 0 0]]),tx,ver,cs,its,F,R.map Prod.fst,rx,ZmX R,ZBZ rfl ?_,⟨⟨by simp [St.wr],⟨td1,by rw [St.get_cur,List.getElem?_set_self hlt1];rfl,?_⟩,ha.cl,?_,?_,q2,q1,?_,t2,?_,?_,?_,Nat.zero_le _⟩,by rw [List.length_set];omega,?_,hkl,hfl,fun hc=>(by
  rcases t1 with ⟨w,_⟩|⟨_,_,_,w,_⟩
  ·exact absurd w hc
  ·exact w),.inr ⟨⟨_,hv⟩,R,ha.tr,ZcA ha.nd,ha.nd⟩⟩⟩
 ·have e0:(⟨A,false,L⟩:St)=⟨A,false,L++[]⟩:=by rw [lN]
  rw [e0]
  rw [hT] at hS
  repeat' (first|refine Xu rfl (Z9 _) (QN _) rfl rfl ?_|refine Xu rfl rfl rfl rfl rfl ?_|refine ZDA rfl rfl rfl (Zw _) ?_|refine ZE ?_|refine ZD ?_|refine ZG rfl ?_|refine ZJ rfl rfl ?_|refine ZB rfl ?_|refine ZC ?_|refine ZS3 (agg:=false) rfl rfl ?_|refine Zm rfl rfl ?_|(refine Qv rfl rfl (fun _=>?_) (fun _=>?_)<;>try (exfalso;omega))|(refine Zj rfl rfl (fun _=>?_) (fun _=>?_)<;>try (exfalso;omega))|refine ZH rfl ?_|refine Zs rfl rfl rfl ?_|refine ZA rfl rfl (by first|rfl|(simp only [lE,lN,lC,Zf,ZY,ZX];first|done|rfl)) (hCk _) ?_|refine ZA rfl rfl (by first|rfl|(simp only [lE,lN,lC,Zf,ZY,ZX];first|done|rfl)) (hNw _) ?_|refine ZA rfl rfl (by first|rfl|(simp only [lE,lN,lC,Zf,ZY,ZX];first|done|rfl)) (hSt _) ?_|refine ZA rfl rfl (by first|rfl|(simp only [lE,lN,lC,Zf,ZY,ZX];first|done|rfl)) (hS) ?_|refine ZI ?_)
  all_goals try (exfalso;omega)
  refine Q0 p1 rfl rfl rfl ?_ rfl ?_
  ·simp only [ZW,QA,if_pos (Nat.lt_succ_self _)]
  repeat' (first|refine ZE ?_|refine ZD ?_|refine ZG rfl ?_|refine ZB rfl ?_|refine ZC ?_|refine ZS ?_|refine ZL ?_)
  refine (Xc (.inr rfl) rfl rfl rfl rfl).trans ?_
  rfl
 ·rcases t1 with ⟨e1,e2,e3⟩|⟨e0,e1,e2,e3⟩
  ·exact .inl ⟨e1,e2⟩
  ·exact .inr ⟨e0,e1,by rw [St.get_cur,hg _ t2,e2];rfl⟩
 ·intro p hp
  obtain ⟨f1,f2⟩:=ha.fx p hp
  obtain ⟨w,v,es,f3,f4⟩:=ha.fw p hp
  have:p.1≠L.length+1:=fun q=>f2 (.inl q)
  rw [St.get_cur,hg _ this,f1,f3];rfl
 ·intro k hk
  obtain ⟨p,hp,rfl⟩:=List.mem_map.1 hk
  obtain ⟨f1,f2⟩:=ha.rts.get hp
  have:p.1≠L.length+1:=fun q=>f2 (.inl q)
  rw [St.get_cur,hg _ this,f1,ZcA ha.nd p hp];rfl
 ·intro k hk
  have h1:=hkl k hk
  obtain ⟨p,hp,rfl⟩:=List.mem_map.1 hk
  exact ⟨by omega,t3 _ h1 (ha.rts.get hp).2⟩
 ·intro p hp
  obtain ⟨f1,f2⟩:=ha.fx p hp
  obtain ⟨w,v,es,f3,f4⟩:=ha.fw p hp
  have h1:=hfl p hp
  refine ⟨fun q=>?_,by omega,t3 _ h1 f2⟩
  obtain ⟨u,hu,e⟩:=List.mem_map.1 q
  have f5:=(ha.rts.get hu).1
  rw [e,f1,f3] at f5
  simp only [oJ,Blk.arr.injEq] at f5
  exact f4 f5.1
 ·intro i hi ⟨e1,e2,e3⟩
  have:=hbl e1.symm
  rcases hi with rfl|⟨c1,rfl⟩|q|⟨p,hp,rfl⟩
  ·omega
  ·rcases t1 with ⟨w,_⟩|⟨_,_,_,w,_⟩
   ·exact c1 w
   ·omega
  ·have:=hkl i q;omega
  ·have:=hfl p hp;omega
 ·have h1:=ha.cl.len
  have h2:=ha.tr.cnt
  omega
 ·intro i hi
  rw [hg i (by omega),ha.frm.old i (by rw [lL];omega) (fun q=>?_),List.getElem?_append_left hi]
  rcases q with q|⟨_,_,_,_,q⟩
  ·omega
  ·simp at q
theorem ZgI {A:List (Bool × List Blk)} {ro:Bool} {L:List Blk} {i:Nat} {b:Blk} (h:L[i]?=some b) (hv:vis (some b)=some b):St.get ⟨A,ro,L⟩ A.length i=some b:=by rw [St.get_cur,h,hv]
theorem ZhY {t:Tr} (ht:IsEmpty t) (st:St):S Tb ZAL [t.av] st=some (.int .i64 (0:Nat),st) :=
 ZOi (c:=1) ht.ks (fun st=>ZFH t ht st) st
theorem Zdk {A:List (Bool × List Blk)} {L:List Blk} {la b:Nat} {r:AR} (hA:HasR ⟨A,false,L⟩ la b r) (hN:r.n≤r.blk.length) (h16:r.states.length≤16384) (h6:r.n<65536) {t:Tr} (ht:IsEmpty t) :
 ∃ L2 tx ver cs its F keys rx ρ,S Tb Xf [.ptr la (b+5) 0 0 0,t.av] ⟨A,false,L⟩=some (.tup [.ptr A.length (L.length+1) 0 0 0,.int .i64 0],⟨A,false,L2⟩)∧Begun A L L2 la b t tx ver cs its F keys rx ρ:=by
 have hCk:=fun T=>ZPG (st:=⟨A,false,L++T⟩) (lv:=la) (ix:=b+5) ht
 have hNw:=fun st=>ZhY ht st
 have hSt:=fun T=>Zb7 (hA.app T) hN h16 h6
 unfold AR.statsAV at hSt
 have hbl:la=A.length→b+5<L.length:=fun e=>by
  have:=hA.h5
  subst e
  rw [St.get_cur] at this
  exact (List.getElem?_eq_some_iff.1 (ZBC this).1).1
 obtain ⟨T,hT⟩:∃ T:List Blk,T=[.arr 7 0 [t.av],.arr 3 0 [.agg [.ptr la (b+5) 0 0 0,.nils,.nilptr]]]:=⟨_,rfl⟩
 have hadd:S Tb Qc [.ptr A.length (L.length+1) 0 0 0,t.av] ⟨A,false,L++T⟩=some (.ptr A.length ((L++T).length+1) 0 0 0,⟨A,false,(L++T)++[.arr 7 0 [t.av],.arr 5 0 [Ro.zero.av]]⟩):=by
  refine ZBZ rfl ?_
  have e0:(⟨A,false,L++T⟩:St)=⟨A,false,(L++T)++[]⟩:=by rw [lN]
  rw [e0]
  generalize L++T=L0
  obtain ⟨o,h,m,s,k⟩:=t
  obtain ⟨h1,h2,h3,h4,h5⟩:=ht
  simp only [Tr.old,Tr.h,Tr.m,Tr.text,Tr.ks] at h1 h2 h3 h4 h5
  subst h1 h2 h3 h4
  obtain ⟨ka,hka,hka2⟩:∃ ka,Tr.avO k=ka∧(ka=.nils∨ka=.lit []):=by
   cases k with
   | none=>exact ⟨_,rfl,.inl rfl⟩
   | some l=>have:l=[]:=h5;subst this;exact ⟨_,rfl,.inr rfl⟩
  simp only [Tr.av,Mea.zero,hka] at *
  rcases hka2 with rfl|rfl
  all_goals repeat' (first|refine Xu rfl rfl rfl rfl rfl ?_|refine ZDA rfl rfl rfl rfl ?_|refine ZE ?_|refine ZD ?_|refine ZG rfl ?_|refine ZJ rfl rfl ?_|refine QE rfl ?_|refine Zn rfl rfl rfl rfl ?_|refine ZB rfl ?_|refine ZC ?_|refine ZEL rfl rfl ?_|refine Jm rfl ?_|(refine Zp rfl rfl (fun _=>?_) (fun _=>?_)<;>try (exfalso;omega))|(refine Zj rfl rfl (fun _=>?_) (fun _=>?_)<;>try (exfalso;omega))|(refine YZ rfl rfl (fun _=>?_) (fun _=>?_)<;>try contradiction)|refine ZV rfl ?_|refine Zs rfl rfl rfl ?_|refine ZI ?_|refine ZS ?_|refine ZO ?_|refine ZL ?_|refine Z5 ?_)
  all_goals try contradiction
  all_goals try (exfalso;omega)
  all_goals refine (Xc (.inr rfl) rfl rfl rfl rfl).trans ?_
  all_goals rfl
 have hTl:T.length=2:=by rw [hT];rfl
 have hl2:(L++T).length=L.length+2:=by rw [lL,hTl]
 rw [hl2] at hadd
 have p1:((L++T)++[Blk.arr 7 0 [t.av],Blk.arr 5 0 [Ro.zero.av]])[L.length+1]?=some (.arr 3 0 [.agg [.ptr la (b+5) 0 0 0,.nils,.nilptr]]):=by
  rw [List.append_assoc,Qo,hT];rfl
 refine ⟨((L++T)++[Blk.arr 7 0 [t.av],Blk.arr 5 0 [Ro.zero.av]]).set (L.length+1) (Blk.arr 3 0 [.agg [.ptr la (b+5) 0 0 0,.nils,.ptr A.length (L.length+3) 0 0 0]]),L.length,0,[],[],[],[L.length+3],L.length+3,fun _=>.zero,ZBZ rfl ?_,⟨⟨by simp [St.wr],⟨.nils,?_,.inl ⟨rfl,rfl⟩⟩,.nil,fun p hp=>by simp at hp,fun k hk=>?_,fun it hi=>by simp at hi,by simp,fun k hk=>?_,by omega,fun p hp=>by simp at hp,fun i hi=>?_,by simp,Nat.zero_le _⟩,by simp,fun i hi=>?_,fun k hk=>?_,fun p hp=>by simp at hp,fun hc=>absurd rfl hc,.inl ⟨ht,rfl,rfl⟩⟩⟩
 ·have e0:(⟨A,false,L⟩:St)=⟨A,false,L++[]⟩:=by rw [lN]
  rw [e0]
  rw [hT] at hadd p1 ⊢
  repeat' (first|refine Xu rfl (Z9 _) (QN _) rfl rfl ?_|refine Xu rfl rfl rfl rfl rfl ?_|refine ZDA rfl rfl rfl (Zw _) ?_|refine ZE ?_|refine ZD ?_|refine ZG rfl ?_|refine ZJ rfl rfl ?_|refine ZB rfl ?_|refine ZC ?_|refine ZS3 (agg:=false) rfl rfl ?_|refine Zm rfl rfl ?_|(refine Qv rfl rfl (fun _=>?_) (fun _=>?_)<;>try (exfalso;omega))|(refine Zj rfl rfl (fun _=>?_) (fun _=>?_)<;>try (exfalso;omega))|refine ZH rfl ?_|refine Zs rfl rfl rfl ?_|refine ZA rfl rfl (by first|rfl|(simp only [lE,lN,lC,Zf,ZY,ZX];first|done|rfl)) (hCk _) ?_|refine ZA rfl rfl (by first|rfl|(simp only [lE,lN,lC,Zf,ZY,ZX];first|done|rfl)) (hNw _) ?_|refine ZA rfl rfl (by first|rfl|(simp only [lE,lN,lC,Zf,ZY,ZX];first|done|rfl)) (hSt _) ?_|refine ZA rfl rfl (by first|rfl|(simp only [lE,lN,lC,Zf,ZY,ZX];first|done|rfl)) (hadd) ?_|refine ZI ?_)
  all_goals try (exfalso;omega)
  refine Q0 p1 rfl rfl rfl ?_ rfl ?_
  ·simp only [ZW,QA,if_pos (Nat.lt_succ_self _)]
  repeat' (first|refine ZE ?_|refine ZD ?_|refine ZG rfl ?_|refine ZB rfl ?_|refine ZC ?_|refine ZS ?_|refine ZL ?_)
  refine (Xc (.inr rfl) rfl rfl rfl rfl).trans ?_
  rfl
 ·exact ZgI (List.getElem?_set_self (by simp)) rfl
 ·simp only [List.mem_singleton] at hk
  subst hk
  refine ZgI ?_ rfl
  rw [List.getElem?_set_ne (by omega),show L.length+3=(L++T).length+1 by rw [hl2],Qo];rfl
 ·simp only [List.mem_singleton] at hk
  omega
 ·rintro ⟨e1,e2,e3⟩
  have:=hbl e1.symm
  rcases hi with rfl|⟨c1,rfl⟩|q|⟨p,hp,rfl⟩
  ·omega
  ·exact c1 rfl
  ·simp only [List.mem_singleton] at q;omega
  ·simp at hp
 ·rw [List.getElem?_set_ne (by omega),List.append_assoc,List.getElem?_append_left hi]
 ·simp only [List.mem_singleton] at hk
  omega
end Go.Q15
namespace Go.Q15
open Go Go.QAbs
set_option maxRecDepth 100000
set_option maxHeartbeats 8000000
theorem ZhZ {b lv ix:Nat} (st:St) (h:lv<b):ZW QA b st (.map lv ix)=some (.map lv ix,st):=by
 simp only [ZW,QA,if_pos h]
def JP (l:List Nat):List (AV × AV):=l.map fun (h:Nat)=>(AV.int .u64 h,AV.bool true)
theorem Zdl (o:Nat):∀ l:List Nat,ZAW (.int .u64 o) (JP l)=some (if o∈l then some (.bool true) else none)
 | []=>rfl
 | p::l=>by
  rw [JP,List.map_cons,ZAW]
  show (Option.bind (if IntKind.u64=IntKind.u64 then some ((o:Int) == (p:Int)) else none) fun b=>if b=true then some (some (AV.bool true)) else ZAW (.int .u64 o) (JP l))=_
  rw [if_pos rfl,oS,Zdl o l]
  by_cases q:o=p
  ·subst q;simp
  ·rw [if_neg (by simp;omega)]
   simp [q]
theorem ZHh (o:Nat):∀ l:List Nat,o∉l→ZFl (.int .u64 o) (.bool true) (JP l)=some (JP (l++[o]))
 | [],_=>rfl
 | p::l,h=>by
  simp only [List.mem_cons,not_or] at h
  rw [JP,List.map_cons,ZFl]
  show (Option.bind (if IntKind.u64=IntKind.u64 then some ((o:Int) == (p:Int)) else none) fun b=>if b=true then some ((AV.int .u64 o,AV.bool true)::JP l) else (ZFl (.int .u64 o) (.bool true) (JP l)).map ((AV.int .u64 p,AV.bool true)::·))=_
  rw [if_pos rfl,oS,if_neg (by simp;omega),ZHh o l h.2]
  rfl
theorem ZCj {st:St} {lv mx:Nat} {l:List Nat} (hg:st.get lv mx=some (.map (JP l))) (o:Nat):lookV st 0 (.bool false) false (.int .u64 o) (.map lv mx)=some (.bool (decide (o∈l))):=by
 simp only [lookV,ZcJ,hg,ZJi,oS,YO,if_true,Zdl]
 by_cases q:o∈l
 ·simp [q,ZY5]
 ·simp [q,ZY5]
def QB (h:Nat):AV:=.int .u64 h
section
variable {O:Orc} {k:List Fr} {Q:Yg} {e:Env} {A:List (Bool × List Blk)} {L:List Blk} {keep:List Nat} {is:List QAbs.PI} {d:Nat}
theorem ZlX {st:St} {s x:Opd} {lv jx ver w bytes:Nat} {es ys:List AV} (hA:A=st.A++[(st.ro,st.L)]) (hwr:st.wr lv) (hg:st.get lv jx=some (.arr w ver es)) (hs:Za e s=some (.ref lv jx ver 0 es.length)) (hx:Za e x=some (.lit ys))
 (hw:JA w ys=true) (hsl:mapSt (ZW QA (lv+1)) ⟨A,false,L⟩ ys=some (ys,⟨A,false,L⟩)) (hl:es.length+ys.length<4294967296) (hb:bytes≤4096)
 (h:∀ A',A'=(st.upd lv jx (.arr w (ver+1) (es++ys))).A++[((st.upd lv jx (.arr w (ver+1) (es++ys))).ro,(st.upd lv jx (.arr w (ver+1) (es++ys))).L)]→Is O is keep k Q ((d,.ref lv jx (ver+1) 0 (es.length+ys.length))::e) ⟨A',false,L⟩) :
 Is O (⟨some d,none,false,.app w bytes s x⟩::is) keep k Q e ⟨A,false,L⟩:=by
 have hlv:=St.get_le hg
 refine Z2 (v:=.ref lv jx (ver+1) 0 (es.length+ys.length)) (st':=St.upd ⟨A,false,L⟩ lv jx (.arr w (ver+1) (es++ys))) ?_ ?_
 ·have hg':=ZQ hA (ro:=false) (L:=L) hg
  have hw':=Yq hA hlv hwr (ro:=false) (L:=L)
  simp only [Zb,evalPO,ZF hs,ZF hx,elems,oS,JB,hw,if_true,hsl,ZaA,hg',ZIU,true_and,if_pos (show 0+es.length≤es.length∧es.length+ys.length<4294967296∧bytes≤4096 by omega),List.drop_zero]
  rw [List.take_of_length_le (by omega),St.put_upd hw' hg']
  rfl
 ·rw [Jn hA hlv]
  exact h _ rfl
end
namespace Tr
mutual
def kwT:Tr→List Nat→List Nat
 | .mk o _ _ _ k,out=>kwO k (if o≠0∧o∉out then out++[o] else out)
def kwO:Option (List Tr)→List Nat→List Nat
 | none,out=>out
 | some l,out=>kwL l out
def kwL:List Tr→List Nat→List Nat
 | [],out=>out
 | t::l,out=>kwL l (kwT t out)
end
mutual
def siz:Tr→Nat
 | .mk _ _ _ _ k=>1+sizO k
def sizO:Option (List Tr)→Nat
 | none=>0
 | some l=>sizL l
def sizL:List Tr→Nat
 | []=>0
 | t::l=>siz t+sizL l
end
theorem kwL_append:∀ (a b:List Tr) (out:List Nat),kwL (a++b) out=kwL b (kwL a out)
 | [],b,out=>rfl
 | t::a,b,out=>by rw [lC,kwL,kwL,kwL_append a b]
theorem sizL_append:∀ a b,sizL (a++b)=sizL a+sizL b
 | [],b=>by simp [sizL]
 | t::a,b=>by rw [lC,sizL,sizL,sizL_append a b];omega
theorem kwO_getD (k:Option (List Tr)) (out:List Nat):kwO k out=kwL (k.getD []) out:=by cases k<;>rfl
theorem sizO_getD (k:Option (List Tr)):sizO k=sizL (k.getD []):=by cases k<;>rfl
theorem kwT_len (t:Tr):∀ out,(kwT t out).length≤out.length+t.siz:=by
 induction t using Tr.ind with
 | step o h m s k ih =>
  intro out
  rw [kwT,siz,kwO_getD,sizO_getD]
  have key:∀ (l:List Tr),(∀ t∈l,∀ out,(kwT t out).length≤out.length+t.siz)→∀ out,(kwL l out).length≤out.length+sizL l:=by
   intro l
   induction l with
   | nil=>intro _ out;simp [kwL,sizL]
   | cons a l ih2 =>
    intro hl out
    rw [kwL,sizL]
    have h1:=ih2 (fun t ht=>hl t (by simp [ht])) (kwT a out)
    have h2:=hl a (by simp) out
    omega
  have:=key (k.getD []) ih (if o≠0∧o∉out then out++[o] else out)
  split at this
  ·rename_i q;rw [if_pos q];rw [lL,List.length_singleton] at this;omega
  ·rename_i q;rw [if_neg q];omega
theorem kwL_len:∀ (l:List Tr) (out:List Nat),(kwL l out).length≤out.length+sizL l
 | [],out=>by simp [kwL,sizL]
 | t::l,out=>by
  rw [kwL,sizL]
  have h1:=kwL_len l (kwT t out)
  have h2:=kwT_len t out
  omega
end Tr
structure KS (st:St) (lv mb mx ob ox wb ver:Nat) (out:List Nat):Prop where
 wr:st.wr lv
 hm:st.get lv mb=some (.arr 1 0 [.map lv mx])
 hmx:st.get lv mx=some (.map (JP out))
 ho:st.get lv ob=some (.arr 1 0 [.ref lv ox ver 0 out.length])
 hox:st.get lv ox=some (.arr 1 ver (out.map QB))
 hw:st.get lv wb=some (.arr 1 0 [.func (.func YU) [] [.ptr lv mb 0 0 0,.ptr lv ob 0 0 0,.ptr lv wb 0 0 0]])
 n1:mx≠ox
 n2:mx≠ob
 n3:ox≠ob
 n4:mb≠mx∧mb≠ox∧mb≠ob
 n5:wb≠mx∧wb≠ox∧wb≠ob
def JI (st:St) (lv mx ob ox ver:Nat) (out:List Nat):St:=((st.upd lv mx (.map (JP out))).upd lv ox (.arr 1 ver (out.map QB))).upd lv ob (.arr 1 0 [.ref lv ox ver 0 out.length])
theorem KS.get {st:St} {lv mb mx ob ox wb ver:Nat} {out:List Nat} (h:KS st lv mb mx ob ox wb ver out) (v:Nat) (t:List Nat) (l' i':Nat) :
 (JI st lv mx ob ox v t).get l' i'=if l'=lv∧i'=ob then some (.arr 1 0 [.ref lv ox v 0 t.length]) else if l'=lv∧i'=ox then some (.arr 1 v (t.map QB)) else if l'=lv∧i'=mx then some (.map (JP t)) else st.get l' i':=by
 have g1:∀ l' i',(st.upd lv mx (.map (JP t))).get l' i'=if l'=lv∧i'=mx then some (.map (JP t)) else st.get l' i':=fun l' i'=>St.get_upd h.hmx rfl
 have b1:(st.upd lv mx (.map (JP t))).get lv ox=some (.arr 1 ver (out.map QB)):=by rw [g1,if_neg (fun q=>h.n1 q.2.symm)];exact h.hox
 have g2:∀ l' i',((st.upd lv mx (.map (JP t))).upd lv ox (.arr 1 v (t.map QB))).get l' i'=if l'=lv∧i'=ox then some (.arr 1 v (t.map QB)) else (st.upd lv mx (.map (JP t))).get l' i':=fun l' i'=>St.get_upd b1 rfl
 have b2:((st.upd lv mx (.map (JP t))).upd lv ox (.arr 1 v (t.map QB))).get lv ob=some (.arr 1 0 [.ref lv ox ver 0 out.length]):=by rw [g2,if_neg (fun q=>h.n3 q.2.symm),g1,if_neg (fun q=>h.n2 q.2.symm)];exact h.ho
 rw [JI,St.get_upd b2 rfl,g2,g1]
theorem KS.put {st:St} {lv mb mx ob ox wb ver:Nat} {out:List Nat} (h:KS st lv mb mx ob ox wb ver out) (v:Nat) (t:List Nat):KS (JI st lv mx ob ox v t) lv mb mx ob ox wb v t:=by
 refine ⟨St.wr_upd (St.wr_upd (St.wr_upd h.wr h.wr) (St.wr_upd h.wr h.wr)) (St.wr_upd (St.wr_upd h.wr h.wr) (St.wr_upd h.wr h.wr)),?_,?_,?_,?_,?_,h.n1,h.n2,h.n3,h.n4,h.n5⟩
 ·rw [h.get,if_neg (fun q=>h.n4.2.2 q.2),if_neg (fun q=>h.n4.2.1 q.2),if_neg (fun q=>h.n4.1 q.2)];exact h.hm
 ·rw [h.get,if_neg (fun q=>h.n2 q.2),if_neg (fun q=>h.n1 q.2),if_pos ⟨rfl,rfl⟩]
 ·rw [h.get,if_pos ⟨rfl,rfl⟩]
 ·rw [h.get,if_neg (fun q=>h.n3 q.2),if_pos ⟨rfl,rfl⟩]
 ·rw [h.get,if_neg (fun q=>h.n5.2.2 q.2),if_neg (fun q=>h.n5.2.1 q.2),if_neg (fun q=>h.n5.1 q.2)];exact h.hw
theorem KS.same {st:St} {lv mb mx ob ox wb ver:Nat} {out:List Nat} (h:KS st lv mb mx ob ox wb ver out):JI st lv mx ob ox ver out=st:=by
 rw [JI,upd_same h.hmx,upd_same h.hox,upd_same h.ho]
theorem Zha {st:St} {lv mx ob ox v1 v2:Nat} {s t:List Nat} (h1:mx≠ox) (h2:mx≠ob) (h3:ox≠ob):JI (JI st lv mx ob ox v1 s) lv mx ob ox v2 t=JI st lv mx ob ox v2 t:=by
 unfold JI
 generalize Blk.map (JP s)=a1
 generalize Blk.map (JP t)=a2
 generalize Blk.arr 1 v1 (s.map QB)=b1
 generalize Blk.arr 1 v2 (t.map QB)=b2
 generalize Blk.arr 1 0 [AV.ref lv ox v1 0 s.length]=c1
 generalize Blk.arr 1 0 [AV.ref lv ox v2 0 t.length]=c2
 rw [ZWQ (st:=(st.upd lv mx a1).upd lv ox b1) (fun q=>h2 q.symm),ZWQ (st:=st.upd lv mx a1) (fun q=>h1 q.symm),Zb5,ZWQ (st:=(st.upd lv mx a2).upd lv ox b1) (fun q=>h3 q.symm),Zb5,Zb5]
theorem ZfM {st:St} {A:List (Bool × List Blk)} {ro:Bool} {L:List Blk} (hA:A=st.A++[(st.ro,st.L)]) {lv mx ob ox ver:Nat} {t:List Nat} (hl:lv≤st.A.length) :
 JI ⟨A,ro,L⟩ lv mx ob ox ver t=⟨(JI st lv mx ob ox ver t).A++[((JI st lv mx ob ox ver t).ro,(JI st lv mx ob ox ver t).L)],ro,L⟩:=by
 unfold JI
 rw [Jn hA hl]
 have e2:=fun (b:Blk)=>Jn (st:=st.upd lv mx (.map (JP t))) (A:=(st.upd lv mx (.map (JP t))).A++[((st.upd lv mx (.map (JP t))).ro,(st.upd lv mx (.map (JP t))).L)]) (ro:=ro) (L:=L) (lv:=lv) (ix:=ox) (b:=b) rfl (by rw [St.upd_A];exact hl)
 rw [e2]
 exact Jn rfl (by rw [St.upd_A,St.upd_A];exact hl)
theorem KS.push {st:St} {A:List (Bool × List Blk)} {ro:Bool} {L:List Blk} (hA:A=st.A++[(st.ro,st.L)]) {lv mb mx ob ox wb ver:Nat} {out:List Nat} (h:KS st lv mb mx ob ox wb ver out):KS ⟨A,ro,L⟩ lv mb mx ob ox wb ver out :=
 ⟨Yq hA (St.get_le h.hm) h.wr,ZQ hA h.hm,ZQ hA h.hmx,ZQ hA h.ho,ZQ hA h.hox,ZQ hA h.hw,h.n1,h.n2,h.n3,h.n4,h.n5⟩
theorem ZlY (st:St) (lv mx ob ox ver:Nat) (out:List Nat):(JI st lv mx ob ox ver out).A.length=st.A.length:=by
 unfold JI;rw [St.upd_A,St.upd_A,St.upd_A]
theorem ZlZ (t:Tr):t.Pos→∀ {st:St} {lv mb mx ob ox wb ver:Nat} {out:List Nat},KS st lv mb mx ob ox wb ver out→out.length+t.siz<4294967296 →
 Sp Tb YU [t.av,.ptr lv mb 0 0 0,.ptr lv ob 0 0 0,.ptr lv wb 0 0 0] st fun v st'=>v=.tup []∧∃ ver',st'=JI st lv mx ob ox ver' (t.kwT out):=by
 induction t using Tr.ind with
 | step o h m s k ih =>
  intro hp st lv mb mx ob ox wb ver out hs hl
  cases hp with
  | mk h0 h4 hk2 =>
  have e1:(Tr.mk o h m s k).kwT out=Tr.kwL (k.getD []) (if o≠0∧o∉out then out++[o] else out):=by rw [Tr.kwT,Tr.kwO_getD]
  have e2:(Tr.mk o h m s k).siz=1+Tr.sizL (k.getD []):=by rw [Tr.siz,Tr.sizO_getD]
  rw [e1]
  rw [e2] at hl
  refine Zmy rfl ?_
  obtain ⟨A,hA⟩:∃ A,A=st.A++[(st.ro,st.L)]:=⟨_,rfl⟩
  rw [← hA]
  have hlv:=St.get_le hs.hm
  have hav:(Tr.mk o h m s k).av=.agg [.int .u64 o,.int .i64 h,.int .i64 m.b,.int .i64 m.r,.int .i64 m.l,.str s,slV Tr.av k]:=by rw [Tr.av,Tr.avO_sl]
  -- the loop over the children
  have key:∀ (ver1:Nat) (out1:List Nat) (A1:List (Bool × List Blk)),A1=(JI st lv mx ob ox ver1 out1).A++[((JI st lv mx ob ox ver1 out1).ro,(JI st lv mx ob ox ver1 out1).L)]→out1.length≤out.length+1→∀ e:Env,e=[(3,.ptr lv wb 0 0 0),(4,.ptr A.length 0 0 0 0)]∨e=[(1,.ptr lv mb 0 0 0),(2,.ptr lv ob 0 0 0),(3,.ptr lv wb 0 0 0),(4,.ptr A.length 0 0 0 0),(16,.bool false)] →
   Ru (S Tb) (.seq ZFf (.block 0 (.loop ZAv))) [] (fun x e st''=>∃ v st',JK false ([]:List RV) (x,e,st'')=some (v,st')∧v=.tup []∧∃ ver',st'=JI st lv mx ob ox ver' (Tr.kwL (k.getD []) out1)) e ⟨A1,false,[.arr 7 0 [(Tr.mk o h m s k).av]]⟩:=by
   intro ver1 out1 A1 hA1 hl1 e he
   have hAl:A.length=A1.length:=by rw [hA,hA1];simp [ZlY]
   rw [hAl] at he
   rw [hav]
   cases k with
   | none =>
    simp only [slV]
    rcases he with rfl|rfl
    all_goals repeat' (first|refine ZE ?_|refine ZD ?_|refine ZG rfl ?_|refine ZJ rfl rfl ?_|refine ZU rfl rfl rfl rfl ?_|refine ZB rfl ?_|refine ZC ?_|refine Jm rfl ?_|(refine Zk rfl rfl (fun _=>?_) (fun _=>?_)<;>try (exfalso;omega))|refine ZH rfl ?_|refine J5 ?_|refine Zx ?_|refine ZO ?_|refine ZL ?_|refine Zh ?_|refine Zd rfl ?_)
    all_goals try (exfalso;omega)
    all_goals exact ⟨_,_,Zc hA1 (.inl rfl) rfl rfl rfl rfl rfl,rfl,ver1,rfl⟩
   | some l =>
    simp only [Option.getD] at h4 hk2 ih hl ⊢
    simp only [slV]
    have hloop:Ru (S Tb) (.loop ZAv) [.blk 0] (fun x e st''=>∃ v st',JK false ([]:List RV) (x,e,st'')=some (v,st')∧v=.tup []∧∃ ver',st'=JI st lv mx ob ox ver' (Tr.kwL l out1)) [(3,.ptr lv wb 0 0 0),(26,.lit (l.map Tr.av)),(27,.int .i64 l.length),(28,.int .i64 0)] ⟨A1,false,[.arr 7 0 [.agg [.int .u64 o,.int .i64 h,.int .i64 m.b,.int .i64 m.r,.int .i64 m.l,.str s,.lit (l.map Tr.av)]]]⟩:=by
     refine Z0 (α:=Nat × List Blk × Nat) (fun p=>[(3,.ptr lv wb 0 0 0),(26,.lit (l.map Tr.av)),(27,.int .i64 l.length),(28,.int .i64 p.1)])
      (fun p=>⟨(JI st lv mx ob ox p.2.2 (Tr.kwL (l.take p.1) out1)).A++[((JI st lv mx ob ox p.2.2 (Tr.kwL (l.take p.1) out1)).ro,(JI st lv mx ob ox p.2.2 (Tr.kwL (l.take p.1) out1)).L)],false,.arr 7 0 [.agg [.int .u64 o,.int .i64 h,.int .i64 m.b,.int .i64 m.r,.int .i64 m.l,.str s,.lit (l.map Tr.av)]]::p.2.1⟩)
      (fun p=>p.1≤l.length) (fun p=>l.length-p.1) (0,[],ver1) rfl ?_ (by simp) ?_
     ·simp only [List.take_zero,Tr.kwL,← hA1]
     rintro ⟨i,G,ver2⟩ hi
     simp only at hi ⊢
     have hk3:=hs.put ver2 (Tr.kwL (l.take i) out1)
     have hpp:∀ v3 t3,JI (JI st lv mx ob ox ver2 (Tr.kwL (l.take i) out1)) lv mx ob ox v3 t3=JI st lv mx ob ox v3 t3:=fun v3 t3=>Zha hs.n1 hs.n2 hs.n3
     generalize hs1:JI st lv mx ob ox ver2 (Tr.kwL (l.take i) out1)=st1 at *
     obtain ⟨A2,hA2⟩:∃ A2,A2=st1.A++[(st1.ro,st1.L)]:=⟨_,rfl⟩
     rw [← hA2]
     have hgw:=fun L=>ZQ hA2 (ro:=false) (L:=L) hk3.hw
     repeat' (first|refine ZE ?_|refine ZD ?_|refine ZB rfl ?_|refine ZC ?_|(refine Zk rfl rfl (fun _=>?_) (fun _=>?_)<;>try (exfalso;omega))|refine ZV rfl ?_|refine ZH rfl ?_|refine Z4 rfl rfl rfl ?_|refine YJ rfl rfl (by omega) Z9 (fun _ _=>?_)|refine QS rfl (Zw _) ?_|refine Xd rfl rfl rfl (QO _ _ _) (Q1 _ _) rfl ?_|refine ZI ?_|refine Zx ?_|refine ZO ?_|refine ZL ?_|refine Zh ?_|refine Zd rfl ?_|refine Zq ?_)
     ·rename_i u hu
      have hu2:l[i]?=some u:=hu
      have hum:=List.mem_of_getElem? hu2
      have hle:lv≤st1.A.length:=St.get_le hk3.hm
      have hsum:Tr.sizL l=Tr.sizL (l.take i)+(u.siz+Tr.sizL (l.drop (i+1))):=by
       conv=>lhs;rw [← List.take_append_drop (i+1) l,Zg hu2,Tr.sizL_append,Tr.sizL_append]
       simp [Tr.sizL];omega
      have hlen:=Tr.kwL_len (l.take i) out1
      have ihu:=fun L=>ih u hum (hk2 u hum) (hk3.push hA2 (ro:=false) (L:=L)) (by omega)
      have hkw:Tr.kwL (l.take (i+1)) out1=u.kwT (Tr.kwL (l.take i) out1):=by
       rw [Zg hu2,Tr.kwL_append];rfl
      refine Z3 rfl (hgw _) rfl rfl ?_
      repeat' (refine JT rfl rfl (Zw _) ?_)
      refine Zfz rfl rfl (wk4 _ _ _ _ rfl rfl rfl) (ihu _) ?_
      rintro v st' ⟨rfl,v3,rfl⟩
      rw [ZfM hA2 hle,hpp,← hkw]
      repeat' (first|refine ZD ?_|refine ZG rfl ?_|refine ZB rfl ?_|refine ZC ?_|refine Zo rfl rfl (by omega) ?_|refine Z5 ?_|refine QC ?_)
      exact ⟨(i+1,_,v3),⟨rfl,rfl⟩,by simp only;omega,by simp only;omega⟩
     ·have hi':i=l.length:=by omega
      subst hi'
      rw [List.take_length] at *
      exact ⟨_,_,Zc hA2 (.inl rfl) rfl rfl rfl rfl rfl,rfl,ver2,hs1.symm⟩
    rcases he with rfl|rfl
    all_goals repeat' (first|exact hloop|refine ZE ?_|refine ZD ?_|refine ZG rfl ?_|refine ZJ rfl rfl ?_|refine ZU rfl rfl rfl rfl ?_|refine ZB rfl ?_|refine ZC ?_|refine QR rfl ?_|refine ZO ?_)
  have hg1:=fun L=>ZQ hA (ro:=false) (L:=L) hs.hm
  have hg2:=fun L=>ZQ hA (ro:=false) (L:=L) hs.hmx
  have hlk:=fun L=>ZCj (hg2 L) o
  have hkey0:=key ver out A (by rw [hs.same];exact hA) (by omega) _ (.inr rfl)
  have hwide:=Z9 (Tr.mk o h m s k)
  have hforce:=QN (Tr.mk o h m s k)
  rw [hav] at hwide hforce
  by_cases ho:o=0
  ·subst ho
   rw [if_neg (by simp)]
   rw [hav] at hkey0 ⊢
   repeat' (first|refine Z4 rfl hwide hforce ?_|exact hkey0|refine ZE ?_|refine ZD ?_|refine ZG rfl ?_|refine ZJ rfl rfl ?_|refine ZU rfl rfl rfl rfl ?_|refine Ji rfl rfl ?_|refine Zn rfl rfl rfl rfl ?_|refine ZB rfl ?_|refine ZC ?_|(refine Zj rfl rfl (fun _=>?_) (fun _=>?_)<;>try (exfalso;omega))|refine ZH rfl ?_|refine ZI ?_)
   all_goals contradiction
  ·by_cases hm:o∈out
   ·rw [if_neg (by simp [hm])]
    rw [hav] at hkey0 ⊢
    rw [decide_eq_true hm] at hlk
    repeat' (first|refine Z4 rfl hwide hforce ?_|exact hkey0|refine ZE ?_|refine ZD ?_|refine ZG rfl ?_|refine ZJ rfl rfl ?_|refine ZU rfl rfl rfl rfl ?_|refine QE rfl ?_|refine Zn rfl rfl rfl rfl ?_|refine ZB rfl ?_|refine ZC ?_|(refine Zj rfl rfl (fun _=>?_) (fun _=>?_)<;>try (exfalso;omega))|refine ZH rfl ?_|refine Jd rfl rfl ?_|refine Z3 rfl (hg1 _) rfl rfl ?_|refine Yr rfl rfl (hlk _) ?_|refine ZI ?_)
    all_goals contradiction
   ·rw [if_pos ⟨ho,hm⟩]
    have hkey:=key (ver+1) (out++[o])
    rw [hav] at hkey ⊢
    rw [decide_eq_false hm] at hlk
    repeat' (first|refine Z4 rfl hwide hforce ?_|refine ZE ?_|refine ZD ?_|refine ZG rfl ?_|refine ZJ rfl rfl ?_|refine ZU rfl rfl rfl rfl ?_|refine QE rfl ?_|refine Zn rfl rfl rfl rfl ?_|refine ZB rfl ?_|refine ZC ?_|(refine Zj rfl rfl (fun _=>?_) (fun _=>?_)<;>try (exfalso;omega))|refine ZV rfl ?_|refine Jd rfl rfl ?_|refine Z3 rfl (hg1 _) rfl rfl ?_|refine Yr rfl rfl (hlk _) ?_)
    all_goals try contradiction
    refine Zdd hA rfl rfl rfl hs.wr hs.hmx rfl (ZHh o out hm) (fun A' hA'=>?_)
    have q1:∀ l' i',(st.upd lv mx (.map (JP (out++[o])))).get l' i'=if l'=lv∧i'=mx then some (.map (JP (out++[o]))) else st.get l' i':=fun l' i'=>St.get_upd hs.hmx rfl
    have ka:(st.upd lv mx (.map (JP (out++[o])))).get lv ob=some (.arr 1 0 [.ref lv ox ver 0 out.length]):=by rw [q1,if_neg (fun q=>hs.n2 q.2.symm)];exact hs.ho
    have kb:(st.upd lv mx (.map (JP (out++[o])))).get lv ox=some (.arr 1 ver (out.map QB)):=by rw [q1,if_neg (fun q=>hs.n1 q.2.symm)];exact hs.hox
    have hw1:=St.wr_upd (b:=.map (JP (out++[o]))) (ix:=mx) hs.wr hs.wr
    have hAl:A.length=A'.length:=by rw [hA,hA'];simp [St.upd_A]
    rw [hAl] at hkey ⊢
    have hput:JI st lv mx ob ox (ver+1) (out++[o])=((st.upd lv mx (.map (JP (out++[o])))).upd lv ox (.arr 1 (ver+1) (out.map QB++[.int .u64 o]))).upd lv ob (.arr 1 0 [.ref lv ox (ver+1) 0 (out.length+1)]):=by
     unfold JI
     rw [List.map_append,lL];rfl
    rw [hput] at hkey
    clear hput q1
    generalize st.upd lv mx (.map (JP (out++[o])))=st1 at *
    have hg3:=fun L=>ZQ hA' (ro:=false) (L:=L) ka
    repeat' (first|refine ZD ?_|refine ZJ rfl rfl ?_|refine ZU rfl rfl rfl rfl ?_|refine ZB rfl ?_|refine ZC ?_|refine Qw rfl rfl rfl rfl ?_|refine Z3 rfl (hg3 _) rfl rfl ?_)
    refine ZlX hA' hw1 kb (by rw [List.length_map];rfl) rfl rfl rfl (by simp;omega) (by decide) (fun A2 hA2=>?_)
    have q2:∀ l' i',(st1.upd lv ox (.arr 1 (ver+1) (out.map QB++[.int .u64 o]))).get l' i'=if l'=lv∧i'=ox then some (.arr 1 (ver+1) (out.map QB++[.int .u64 o])) else st1.get l' i':=fun l' i'=>St.get_upd kb rfl
    have kc:(st1.upd lv ox (.arr 1 (ver+1) (out.map QB++[.int .u64 o]))).get lv ob=some (.arr 1 0 [.ref lv ox ver 0 out.length]):=by rw [q2,if_neg (fun q=>hs.n3 q.2.symm)];exact ka
    have hw2:=St.wr_upd (b:=.arr 1 (ver+1) (out.map QB++[.int .u64 o])) (ix:=ox) hw1 hw1
    have hAl2:A'.length=A2.length:=by rw [hA',hA2];simp [St.upd_A]
    rw [hAl2] at hkey ⊢
    generalize st1.upd lv ox (.arr 1 (ver+1) (out.map QB++[.int .u64 o]))=st2 at *
    refine ZIn hA2 rfl rfl hw2 kc rfl (JF _ (Nat.lt_succ_self _)) rfl (fun A3 hA3=>?_)
    have hAl3:A2.length=A3.length:=by rw [hA2,hA3];simp [St.upd_A]
    rw [hAl3] at hkey ⊢
    have hk:=hkey A3 (by rw [hA3];simp) (by simp) _ (.inl rfl)
    repeat' (first|exact hk|refine ZB rfl ?_|refine ZC ?_)
theorem ZmY {t:Tr} (hp:t.Pos) (hsz:t.siz<4294967296) (st:St):S Tb ZGW [t.av] st=some (.lit ((t.kwT []).map QB),st):=by
 refine QF rfl (fun A hA=>?_)
 have hW:∀ L,L=[.arr 7 0 [t.av],.arr 1 0 [],.arr 1 0 [.ref A.length 1 0 0 0],.map [],.arr 1 0 [.map A.length 3],.arr 1 0 [.func (.func YU) [] [.ptr A.length 4 0 0 0,.ptr A.length 2 0 0 0,.ptr A.length 5 0 0 0]]] →
  Sp Tb YU [t.av,.ptr A.length 4 0 0 0,.ptr A.length 2 0 0 0,.ptr A.length 5 0 0 0] ⟨A,false,L⟩ fun v st'=>v=.tup []∧∃ ver',st'=JI ⟨A,false,L⟩ A.length 3 2 1 ver' (t.kwT []):=by
  rintro L rfl
  refine ZlZ t hp (ver:=0) (mb:=4) (mx:=3) (ob:=2) (ox:=1) (wb:=5) ⟨by simp [St.wr],by rw [St.get_cur];rfl,by rw [St.get_cur];rfl,by rw [St.get_cur];rfl,by rw [St.get_cur];rfl,by rw [St.get_cur];rfl,by decide,by decide,by decide,by decide,by decide⟩ (by simp;omega)
 repeat' (first|refine ZE ?_|refine ZD ?_|refine ZG rfl ?_|refine ZU rfl rfl rfl rfl ?_|refine ZB rfl ?_|refine ZC ?_|refine ZAJ rfl rfl ?_|refine Zi rfl rfl rfl ?_|refine ZMa rfl ?_|refine ZBY rfl ?_|refine ZU rfl rfl rfl (Zw _) ?_|refine Z4 rfl (Z9 _) (QN _) ?_|refine Zu rfl rfl rfl (ZhZ _ (Nat.lt_succ_self _)) rfl rfl ?_|refine Zu rfl rfl rfl (Zdg _ (Nat.lt_succ_self _)) rfl rfl ?_)
 refine Zfz rfl rfl (wk4 _ _ _ _ rfl rfl rfl) (hW _ rfl) ?_
 rintro v st' ⟨rfl,v2,rfl⟩
 have hpc:∀ b0 b1 b2 b3 b4 b5 w,JI ⟨A,false,[b0,b1,b2,b3,b4,b5]⟩ A.length 3 2 1 v2 w=⟨A,false,[b0,.arr 1 v2 (w.map QB),.arr 1 0 [.ref A.length 1 v2 0 w.length],.map (JP w),b4,b5]⟩:=by
  intro b0 b1 b2 b3 b4 b5 w
  simp [JI,St.upd]
 rw [hpc]
 generalize t.kwT []=w at *
 repeat' (first|refine ZE ?_|refine ZD ?_|refine ZG rfl ?_|refine ZU rfl rfl rfl rfl ?_|refine ZB rfl ?_|refine ZC ?_|refine ZS ?_|refine ZL ?_)
 refine ZCY (es:=w.map QB) hA (by first|exact .inl rfl|exact .inr rfl) rfl rfl (by simp) (by intro v hv;obtain ⟨x,_,rfl⟩:=List.mem_map.1 hv;rfl) ?_
 rfl
end Go.Q15
namespace Go.Q15
open Go Go.QAbs
set_option maxRecDepth 100000
set_option maxHeartbeats 8000000
def wrV (t:Tr) (r:AR):AR × Ro × List Nat:=if t.old=0∧t.h=0∧t.text=[] then (r,.zero,[]) else t.wr r
theorem ZgJ {N:ZP} {t:Tr} (hv:Val N t) (r:AR):wrV t r=t.wr r:=by
 unfold wrV
 cases hv with
 | kept h0=>rw [if_neg];simp [Tr.old,h0]
 | leaf h1=>rw [if_neg];rintro ⟨_,_,q⟩;simp only [Tr.text] at q;rw [q] at h1;simp at h1
 | inner=>rw [if_neg];simp [Tr.h]
theorem ZZt {t:Tr} (h:IsEmpty t) (r:AR):wrV t r=(r,.zero,[]):=by
 unfold wrV;rw [if_pos ⟨h.old,h.h,h.text⟩]
theorem Val.not_empty {N:ZP} {t:Tr} (hv:Val N t):¬ IsEmpty t:=fun h=>by
 have:=hv.pos.2
 have:=h.bytes
 omega
theorem PI.run {r:AR} (ho:AROk r) (hg:GoodN r.nodes) {t:Tr} (hv:VE r.nodes t) (hb:t.bytes≤65536) (hn:nw t≤r.n) {its:List It} {rx:Nat} {ρ:Nat→Ro} (h:PI t its rx ρ) :
 ∃ ρ',RunOk its r ρ (wrV t r).1 ρ' (wrV t r).2.2∧ρ' rx=(wrV t r).2.1:=by
 rcases h with ⟨h1,rfl,h2⟩|⟨⟨M,hM⟩,R,h1,h2,h3⟩
 ·rw [ZZt h1];exact ⟨ρ,.nil,h2⟩
 ·rcases hv with hv|hv
  ·exact absurd hv hM.not_empty
  ·rw [ZgJ hv]
   rw [ZJf hv] at hn
   obtain ⟨ρ',a1,a2,_⟩:=exec_ok hg hv hb r ho hg (.refl _) hn rx its R ρ h1 h2 h3
   exact ⟨ρ',a1,a2⟩
theorem ZgK {A:List (Bool × List Blk)} {L:List Blk} {la b:Nat} {r:AR} (hA:HasR ⟨A,false,L⟩ la b r) (hN:r.n≤r.blk.length) (h16:r.states.length≤16384) (h6:r.n<65536) {t:Tr} (hv:VE r.nodes t) (hb:t.bytes≤65536) (hn:nw t≤r.n) :
 ∃ L2 tx ver cs its F keys rx ρ,S Tb Xf [.ptr la (b+5) 0 0 0,t.av] ⟨A,false,L⟩=some (.tup [.ptr A.length (L.length+1) 0 0 0,.int .i64 0],⟨A,false,L2⟩)∧Begun A L L2 la b t tx ver cs its F keys rx ρ:=by
 rcases hv with hv|hv
 ·exact Zdk hA hN h16 h6 hv
 ·rw [ZJf hv] at hn
  exact ZhX (N:=r.nodes) hA hN h16 h6 hv hb hn
theorem Zla {A:List (Bool × List Blk)} {L:List Blk} {ix ver n:Nat} {l:List Nat} {ro:Ro} {e:Int} (hg:L[ix]?=some (.arr 1 ver (l.map QB))) (hn:n=l.length) :
 ZW QA A.length ⟨A,false,L⟩ (.tup [ro.av,.ref A.length ix ver 0 n,.int .i64 e])=some (.tup [ro.av,.lit (l.map QB),.int .i64 e],⟨A,false,L.set ix .dead⟩):=by
 subst hn
 have h1:=ZHW (n:=4) (A:=A) (s:=0) (m:=l.length) hg (by simp) (es':=l.map QB) (by
  rw [List.drop_zero,List.take_of_length_le (by simp)]
  exact ZOh (k:=.u64) (fun n:Nat=>(n:Int)) 3 0 _ l)
 show (mapSt (ZW 5 A.length) _ _).bind ZZ8=_
 have h2:ZW 5 A.length ⟨A,false,L⟩ ro.av=some (ro.av,⟨A,false,L⟩):=rfl
 simp only [mapSt,h2,oS,h1]
 rfl
theorem RunOk.len {its:List It} {r r':AR} {ρ ρ':Nat→Ro} {hs:List Nat} (h:RunOk its r ρ r' ρ' hs):hs.length=its.length:=by
 induction h with
 | nil=>rfl
 | cons hn hx hk h ih=>simp [ih]
theorem RunOk.inv {it:It} {its:List It} {r r':AR} {ρ ρ':Nat→Ro} {l:List Nat} (h:RunOk (it::its) r ρ r' ρ' l) :
 ∃ hs,l=r.next::hs∧0<r.n∧NdOk (Qr ρ it.c)∧ZOj r.nodes (Qr ρ it.c)∧RunOk its (r.add (Qr ρ it.c)) (ZL4 ρ it.rx r.next) r' ρ' hs:=by
 cases h with
 | cons hn hx hk h=>exact ⟨_,rfl,hn,hx,hk,h⟩
theorem RunOk.nil_inv {r r':AR} {ρ ρ':Nat→Ro} {l:List Nat} (h:RunOk [] r ρ r' ρ' l):l=[]∧r'=r∧ρ'=ρ:=by
 cases h;exact ⟨rfl,rfl,rfl⟩
theorem ZjG {st:St} {la b:Nat} (hl:la≤st.A.length) (rj r2:AR) {n:Nat} (hn:n=st.A.length+1) (L:List Blk) (ip tx ver len rx k:Nat) (ro:Ro) (j:Nat) :
 ZFT ⟨(QJ st la b rj).ps,false,L⟩ n ip tx ver la b len rx r2 k ro j=⟨(QJ st la b r2).ps,false,(L.set k (.arr 5 0 [ro.av])).set ip (.arr 3 0 [.agg [.ptr la (b+5) 0 0 0,.ref n tx ver (j+1) (len-j-1),.ptr n rx 0 0 0]])⟩:=by
 have e1:QJ ⟨(QJ st la b rj).ps,false,L⟩ la b r2=⟨(QJ st la b r2).ps,false,L⟩:=by
  rw [Yw rfl (by rw [ZDB];exact hl),ZOg]
 have e2:((QJ st la b r2).ps).length=n:=by rw [hn];simp [ZDB]
 rw [ZFT,e1]
 unfold St.upd
 simp only [e2,if_true]
theorem PenS.frm {A:List (Bool × List Blk)} {L L':List Blk} {n ip tx ver la b:Nat} {cls:List AV} {its:List It} {F:List (Nat × Blk)} {keys:List Nat} {rx:Nat} {ρ:Nat→Ro} {j:Nat} (h:PenS ⟨A,false,L⟩ n ip tx ver la b cls its F keys rx ρ j) (hn:n=A.length)
 (hg:∀ i,i=ip∨(cls≠[]∧i=tx)∨i∈keys∨(∃ p∈F,i=p.1)→L'[i]?=L[i]?):PenS ⟨A,false,L'⟩ n ip tx ver la b cls its F keys rx ρ j:=by
 subst hn
 obtain ⟨td,h1,h2⟩:=h.pen
 have hget:∀ i,(i=ip∨(cls≠[]∧i=tx)∨i∈keys∨(∃ p∈F,i=p.1))→St.get ⟨A,false,L'⟩ A.length i=St.get ⟨A,false,L⟩ A.length i:=fun i hi=>by rw [St.get_cur,St.get_cur,hg i hi]
 refine ⟨by simp [St.wr],⟨td,by rw [hget _ (.inl rfl)];exact h1,?_⟩,h.cl,fun p hp=>by rw [hget _ (.inr (.inr (.inr ⟨p,hp,rfl⟩)))];exact h.fx p hp,fun k hk=>by rw [hget _ (.inr (.inr (.inl hk)))];exact h.rts k hk,h.key,h.rk,h.s1,h.s2,h.s3,h.ar,h.len,h.jl⟩
 rcases h2 with q|⟨hc,q1,q2⟩
 ·exact .inl q
 ·exact .inr ⟨hc,q1,by rw [hget _ (.inr (.inl ⟨hc,rfl⟩))];exact q2⟩
theorem ZmZ {e:Env} {A:List (Bool × List Blk)} {st:St} {L:List Blk} {x:Ex} {c4 c5 c6 j4 ix w4 v4 ver n:Nat} {l:List Nat} {ro:Ro} {z:Int} (hA:A=st.A++[(st.ro,st.L)]) (hx:x=.norm∨x=.ret) (h4:Jh e c4=some (.ptr A.length j4 v4 0 0)) (hg4:L[j4]?=some (.arr w4 v4 [ro.av]))
 (h5:Jh e c5=some (.ref A.length ix ver 0 n)) (hg5:L[ix]?=some (.arr 1 ver (l.map QB))) (hn:n=l.length) (h6:Jh e c6=some (.int .i64 z)):JK false [.c c4 true 5,.s c5,.s c6] (x,e,⟨A,false,L⟩)=some (.tup [ro.av,.lit (l.map QB),.int .i64 z],st):=by
 refine ZCq (v:=.tup [ro.av,.ref A.length ix ver 0 n,.int .i64 z]) hA hx ?_ (Zla hg5 hn) rfl
 have h1:ZAq ⟨A,false,L⟩ e (.c c4 true 5)=some ro.av:=by
  simp only [ZAq,QD h4,loadP,St.get_cur,hg4,vis,ZFU,if_true,List.getElem?_cons_zero,oS]
  rfl
 simp only [QM,ZCn,h1,oS]
 simp only [ZAq,QD h5,QD h6,oS,Option.map_some,ZFV]
theorem ZgL {st:St} {la b:Nat} {r:AR} (hA:Has st la b r) (ho:AROk r) (hg:GoodN r.nodes) {t:Tr} (hv:VE r.nodes t) (hb:t.bytes≤65536) (hn:nw t≤r.n) :
 S Tb ZA6 [.ptr la (b+5) 0 0 0,t.av] st=some (.tup [(wrV t r).2.1.av,.lit ((wrV t r).2.2.map QB),.int .i64 0],QJ st la b (wrV t r).1):=by
 refine Xs rfl (fun A hA'=>?_)
 obtain ⟨LB,hLB⟩:∃ LB:List Blk,LB=[.arr 7 0 [t.av],.arr 5 0 [Ro.zero.av],.arr 1 0 []]:=⟨_,rfl⟩
 have hle:=hA.le
 have hla:la<A.length:=by rw [hA'];simp;omega
 have h3:LB.length=3:=by rw [hLB];rfl
 obtain ⟨L2,tx,ver,cs,its,F,keys,rx,ρ,hS,hB⟩:=ZgK (L:=LB) (hA.push hA').r ho.nb ho.n16 (by have:=ho.nn;have:=ho.n16;omega) hv hb hn
 obtain ⟨ρ',hrun,hro⟩:=hB.pi.run ho hg hv hb hn
 generalize (wrV t r).1=r' at *
 generalize (wrV t r).2.2=hs at *
 generalize (wrV t r).2.1=ro at *
 have hcl:=hB.ps.cl.len
 have hk5:∀ k∈keys,5≤k:=fun k hk=>by have:=hB.klo k hk;omega
 have g1:L2[1]?=some (.arr 5 0 [Ro.zero.av]):=by rw [hB.old 1 (by omega),hLB];rfl
 have g2:L2[2]?=some (.arr 1 0 (([]:List Nat).map QB)):=by rw [hB.old 2 (by omega),hLB];rfl
 have hps:=hB.ps
 rw [h3] at hS hps
 rw [hLB] at hS
 repeat' (first|refine ZE ?_|refine ZD ?_|refine ZG rfl ?_|refine Zt rfl rfl ?_|refine ZB rfl ?_|refine ZC ?_|(refine Zj rfl rfl (fun _=>?_) (fun _=>?_)<;>try (exfalso;omega))|refine ZH rfl ?_|refine Zi rfl rfl rfl ?_|refine ZA5 rfl ?_|refine ZU rfl rfl rfl (Zw _) ?_|refine Z4 rfl (Z9 _) (QN _) ?_|refine ZA rfl rfl (by first|rfl|(simp only [lE,lN,lC,Zf,ZY,ZX];first|done|rfl)) (hS) ?_|refine ZI ?_|refine ZO ?_)
 all_goals try contradiction
 have hAn:A.length=st.A.length+1:=by rw [hA'];simp
 have hhl:=hrun.len
 refine Z0 (α:=Bool × Nat × AR × (Nat→Ro) × List Blk) (fun p=>match p.1 with
  | true=>[(4,.ptr A.length 1 0 0 0),(5,.ref A.length 2 p.2.1 0 p.2.1),(6,.int .i64 0),(7,.ptr A.length 4 0 0 0),(18,.bool false)]
  | false=>[(4,.ptr A.length 1 0 0 0),(5,.ref A.length 2 p.2.1 0 p.2.1),(7,.ptr A.length 4 0 0 0)])
  (fun p=>⟨(QJ st la b p.2.2.1).ps,false,p.2.2.2.2⟩)
  (fun p=>PenS ⟨(QJ st la b p.2.2.1).ps,false,p.2.2.2.2⟩ A.length 4 tx ver la b cs its F keys rx p.2.2.2.1 p.2.1∧AROk p.2.2.1∧RunOk (its.drop p.2.1) p.2.2.1 p.2.2.2.1 r' ρ' (hs.drop p.2.1)∧p.2.1≤its.length∧p.2.2.2.2[1]?=some (.arr 5 0 [Ro.zero.av])∧p.2.2.2.2[2]?=some (.arr 1 p.2.1 ((hs.take p.2.1).map QB)))
  (fun p=>its.length-p.2.1) (true,0,r,ρ,L2) rfl ?_ ?_ ?_
 ·simp only [hA.same,← hA']
 ·simp only [hA.same,← hA']
  exact ⟨hps,ho,hrun,Nat.zero_le _,g1,g2⟩
 rintro ⟨fst,j,rj,ρj,Lj⟩ ⟨q1,q2,q3,q4,q5,q6⟩
 simp only at q1 q2 q3 q4 q5 q6
 have hHj:Has ⟨(QJ st la b rj).ps,false,Lj⟩ la b rj:=(hA.put rj).push rfl
 obtain ⟨td,t1,t2⟩:=q1.pen
 have hAl:A.length=(QJ st la b rj).ps.length:=by rw [hAn];simp [ZDB]
 rcases Nat.lt_or_ge j its.length with hlt|hge
 ·obtain ⟨it,hit⟩:∃ it,its[j]?=some it:=⟨its[j]'hlt,by simp [hlt]⟩
  have hd:its.drop j=it::its.drop (j+1):=by
   rw [List.drop_eq_getElem_cons hlt]
   rw [List.getElem?_eq_getElem hlt] at hit
   rw [Option.some.inj hit]
  rw [hd] at q3
  obtain ⟨hs2,e1,hn1,hx1,hk1,hr1⟩:=q3.inv
  have hdj:hs[j]?=some rj.next:=by
   have:=List.getElem?_drop (xs:=hs) (i:=j) (j:=0)
   rw [e1] at this
   simpa using this.symm
  have hd2:hs.drop (j+1)=hs2:=by
   rw [← List.drop_drop,e1];rfl
  obtain ⟨p1,p2,p3⟩:=q1.step hHj q2 hn1 hit hx1 hk1
  rw [ZjG hle rj _ hAn] at p1 p2
  have hjc:j<cs.length:=by rw [hcl];exact hlt
  have hne:cs≠[]:=fun q=>by rw [q] at hjc;simp at hjc
  rcases t2 with ⟨w,_⟩|⟨_,rfl,t3⟩
  ·exact absurd w hne
  obtain ⟨k1,_⟩:=q1.key it (List.mem_of_getElem? hit)
  have hk5':=hk5 _ k1
  have hl4:Lj[4]?=some (.arr 3 0 [.agg [.ptr la (b+5) 0 0 0,.ref A.length tx ver j (cs.length-j),.ptr A.length rx 0 0 0]]):=by
   rw [hAl] at t1
   rw [St.get_cur] at t1
   rw [hAl]
   exact (ZBC t1).1
  obtain ⟨r2,hr2⟩:∃ r2,r2=rj.add (Qr ρj it.c):=⟨_,rfl⟩
  rw [← hr2] at p1 p2 hr1
  have ho2:AROk r2:=by rw [hr2];exact q2.add hn1 _
  have hAl2:A.length=(QJ st la b r2).ps.length:=by rw [hAn];simp [ZDB]
  obtain ⟨L3,hL3⟩:∃ L3,L3=(Lj.set it.rx (.arr 5 0 [((ρj it.rx).wr rj.next).av])).set 4 (.arr 3 0 [.agg [.ptr la (b+5) 0 0 0,.ref A.length tx ver (j+1) (cs.length-j-1),.ptr A.length rx 0 0 0]]):=⟨_,rfl⟩
  rw [← hL3] at p1 p2
  have h31:L3[1]?=some (.arr 5 0 [Ro.zero.av]):=by rw [hL3,List.getElem?_set_ne (by omega),List.getElem?_set_ne (by omega)];exact q5
  have h32:L3[2]?=some (.arr 1 j ((hs.take j).map QB)):=by rw [hL3,List.getElem?_set_ne (by omega),List.getElem?_set_ne (by omega)];exact q6
  have hj2:j=((hs.take j).map QB).length:=by simp;omega
  have hj3:∀ x:AV,((hs.take j).map QB).length+[x].length<4294967296:=fun x=>by have:=q1.len;simp;omega
  have hinv:∀ L4,L4=L3.set 2 (.arr 1 (j+1) ((hs.take j).map QB++[.int .u64 rj.next]))→PenS ⟨(QJ st la b r2).ps,false,L4⟩ A.length 4 tx ver la b cs its F keys rx (ZL4 ρj it.rx rj.next) (j+1)∧AROk r2∧RunOk (its.drop (j+1)) r2 (ZL4 ρj it.rx rj.next) r' ρ' (hs.drop (j+1))∧j+1≤its.length∧L4[1]?=some (.arr 5 0 [Ro.zero.av])∧L4[2]?=some (.arr 1 (j+1) ((hs.take (j+1)).map QB)):=by
   rintro L4 rfl
   refine ⟨?_,ho2,by rw [hd2];exact hr1,hlt,by rw [List.getElem?_set_ne (by omega)];exact h31,?_⟩
   ·refine p2.frm hAl2 (fun i hi=>List.getElem?_set_ne ?_)
    rcases hi with rfl|⟨hc,rfl⟩|q|⟨p,hp,rfl⟩
    ·omega
    ·have:=hB.tlo hc;omega
    ·have:=hk5 i q;omega
    ·have:=hB.flo p hp;omega
   ·rw [List.getElem?_set_self (List.getElem?_eq_some_iff.1 h32).1,Zg hdj,List.map_append];rfl
  obtain ⟨A2,hA2⟩:∃ A2,A2=(QJ st la b r2).ps:=⟨_,rfl⟩
  obtain ⟨A1,hA1⟩:∃ A1,A1=(QJ st la b rj).ps:=⟨_,rfl⟩
  rw [← hA1] at p1 hAl ⊢
  rw [← hA2] at p1 hAl2
  have hA12:A1.length=A2.length:=hAl.symm.trans hAl2
  rw [hAl] at hl4 p1 hinv ⊢
  cases fst
  all_goals simp only
  all_goals repeat' (first|refine ZA rfl rfl rfl p1 ?_|refine ZE ?_|refine ZD ?_|refine ZG rfl ?_|refine ZJ rfl rfl ?_|refine Zt rfl rfl ?_|refine ZB rfl ?_|refine ZC ?_|refine Zm rfl rfl ?_|refine JS rfl ?_|(refine Qv rfl rfl (fun _=>?_) (fun _=>?_)<;>try (exfalso;omega))|(refine Zj rfl rfl (fun _=>?_) (fun _=>?_)<;>try (exfalso;omega))|refine ZV rfl ?_|refine ZH rfl ?_|refine Qw rfl rfl rfl rfl ?_|refine ZU rfl hl4 rfl rfl ?_|refine ZI ?_|refine ZO ?_)
  all_goals try contradiction
  all_goals try (exfalso;omega)
  all_goals rw [hA12]
  all_goals repeat' (first|refine ZLy rfl rfl h32 hj2 rfl rfl (hj3 _) (by decide) ?_|refine ZG rfl ?_|refine ZB rfl ?_|refine Z5 ?_|refine QC ?_)
  all_goals rw [hA12,hA2] at hinv
  all_goals rw [hA2]
  all_goals exact ⟨(false,j+1,r2,ZL4 ρj it.rx rj.next,_),⟨rfl,rfl⟩,hinv _ rfl,by simp only;omega⟩
 ·obtain rfl:j=its.length:=by omega
  rw [List.drop_length,← hhl,List.drop_length] at q3
  obtain ⟨_,rfl,rfl⟩:=q3.nil_inv
  rw [← hhl,List.take_length] at q6
  have hRt:=ZmW q1 hcl.symm
  rw [hro] at hRt
  obtain ⟨A1,hA1⟩:∃ A1,A1=(QJ st la b r').ps:=⟨_,rfl⟩
  rw [← hA1] at hRt hAl ⊢
  have hl4:∃ w,Lj[4]?=some (.arr 3 0 [.agg [.ptr la (b+5) 0 0 0,td,w]])∧(td=.nils∨∃ v,td=.ref A.length tx v its.length 0):=by
   rw [hAl,hA1,St.get_cur] at t1
   refine ⟨_,(ZBC t1).1,?_⟩
   rcases t2 with ⟨_,w⟩|⟨_,w,_⟩
   ·exact .inl w
   ·refine .inr ⟨ver,?_⟩
    rw [w,hcl,Nat.sub_self]
  obtain ⟨w4,hl4,htd⟩:=hl4
  rw [← hhl] at *
  have hl1:=(List.getElem?_eq_some_iff.1 q5).1
  rw [hAl] at hRt htd ⊢
  rcases htd with rfl|⟨v,rfl⟩
  all_goals cases fst
  all_goals simp only
  all_goals repeat' (first|refine ZA rfl rfl rfl hRt ?_|refine ZE ?_|refine ZD ?_|refine ZG rfl ?_|refine ZJ rfl rfl ?_|refine Zt rfl rfl ?_|refine ZB rfl ?_|refine ZC ?_|refine Zm rfl rfl ?_|refine JS rfl ?_|refine Jm rfl ?_|(refine Qv rfl rfl (fun _=>?_) (fun _=>?_)<;>try (exfalso;omega))|refine ZH rfl ?_|refine ZU rfl hl4 rfl rfl ?_|refine Zx ?_|refine Zh ?_|refine Zd rfl ?_|refine Zq ?_)
  all_goals try (exfalso;omega)
  all_goals refine Q0 q5 rfl rfl rfl rfl rfl ?_
  all_goals repeat' (first|refine ZE ?_|refine ZD ?_|refine ZG rfl ?_|refine ZB rfl ?_|refine ZC ?_|refine ZU rfl (List.getElem?_set_self hl1) rfl rfl ?_)
  all_goals refine Q0 (List.getElem?_set_self hl1) rfl rfl rfl rfl rfl ?_
  all_goals rw [List.set_set]
  all_goals repeat' (first|refine ZG rfl ?_|refine ZB rfl ?_|refine ZC ?_|refine ZS ?_|refine ZL ?_)
  all_goals exact ZmZ (ro:=ro) hA1 (.inr rfl) rfl (List.getElem?_set_self hl1) rfl ((List.getElem?_set_ne (by omega)).trans q6) (by simp) rfl
end Go.Q15
namespace Go.QAbs
end Go.QAbs
namespace Go.QAbs
end Go.QAbs
namespace Go.QAbs
end Go.QAbs
namespace Go.QAbs
def TLe (T T':Tab):Prop:=∀ f x,T f=some x→T' f=some x
theorem ZZu {T T':Tab} (h:TLe T T'):∀ n,Le (QU T n) (QU T' n)
 | 0=>fun _ _ _ _ q=>by simp [QU] at q
 | n+1=>fun f _ _ _ q=>QP (fun x q=>h f x q) (fun x _ q=>by
  cases x with
  | pf pf=>exact ZIA (ZZu h n) (ZaM (Nat.le_refl n)) q
  | base o=>exact q) q
theorem ZjH {T T':Tab} (h:TLe T T'):Le (S T) (S T'):=fun f a st r q=>by
 obtain ⟨n,hn⟩:=S_iff.1 q
 exact S_iff.2 ⟨n,ZZu h n _ _ _ _ hn⟩
end Go.QAbs
namespace Go.QAbs
theorem ZjI:∀ (A:List (Bool × List Blk)) (r:Bool × List Blk),pop (A++[r])=some (A,r)
 | [],r=>rfl
 | [a],r=>rfl
 | a::b::A,r=>by
  have:=ZjI (b::A) r
  rw [lC,lC,pop]
  rw [lC] at this
  rw [this];rfl
theorem Zdm (v:AV) (st:St) (ro:Bool) (L:List Blk):Jb (v,⟨st.ps,ro,L⟩)=some (v,st):=by
 simp only [Jb,ZjI,oS,ZMF]
section
variable {k:List Fr} {Q:Yg} {e:Env} {st:St} {keep:List Nat} {is:List QAbs.PI} {d:Nat} {T:Tab}
theorem ZjJ {st':St} {f:Opd} {args:List Opd} {lv:Nat} {cs vs ws:List AV} {v:AV} (hf:Za e f=some (.func (.yield lv) [] cs)) (ha:ZGT e args=some vs) (hw:Zf (vs++cs)=ws) (hc:S T (yB+lv) ws st=some (v,st'))
 (h:Is (S T) is keep k Q ((d,v)::e) st'):Is (S T) (⟨some d,none,false,.call .norm f args⟩::is) keep k Q e st:=by
 refine Z2 (od:=some d) (v:=v) (st':=st') ?_ h
 simp only [Zb,ZF hf,XK ha,ZAZ,Qx,hw,hc]
theorem Zdn {nt:Nat} {rg:Rng} {args:List AV} {st':St} (hl:args.length=rg.ps.length+nt)
 (h:∀ A,A=st.ps→Ru (S T) rg.assign [] (fun x e s=>x=.norm∧Ru (S T) rg.body [] (fun x e s=>x=.norm∧s.A=st'.ps) e s) (ZJ3 rg.ps args (Qf 0 (args.drop rg.ps.length))) ⟨A,false,[]⟩):ZAI (S T) itS nt rg args st=some (.bool true,st'):=by
 obtain ⟨x,e1,s1,h1,h2⟩:=(h _ rfl).h
 obtain ⟨rfl,⟨x,e2,s2,h3,h4⟩⟩:=h2
 obtain ⟨rfl,h5⟩:=h4
 unfold ZAI
 rw [if_pos hl]
 have:st.push=⟨st.ps,false,[]⟩:=rfl
 rw [this,h1,oS]
 simp only [ZMW,h3,oS,Zcr]
 obtain ⟨A,ro,L⟩:=s2
 simp only at h5
 subst h5
 exact Zdm _ _ _ _
theorem ZjK {OT:Nat→Orc} {nt:Nat} {rg:Rng} {g:FuncId} {first cap:List AV} {v:AV} {ro:Bool} {L:List Blk} {st2:St} (hg:Za e rg.g=some (.func (.func g) first cap)) (hy:g<yB)
 (hc:OT (st.A.length+1) g (Zf (first++[.func (.yield (st.A.length+1)) [] (ZIC nt e)]++cap)) ⟨st.ps,false,[]⟩=some (v,⟨st2.ps,ro,L⟩)):ZPR OT nt rg e st=some (.norm,e,st2):=by
 unfold ZPR
 rw [ZF hg]
 simp only [if_pos hy]
 have:st.push=⟨st.ps,false,[]⟩:=rfl
 rw [this,hc,oS,Zg3,Zdm,oS]
theorem s_rf {T0:Tab} {f:FuncId} {rf:RF} {args:List AV} {r:AV × St} (hT:T f=some (.base (rfO T0 rf)))
 (h:∀ A,A=st.ps→Ru (S T0) rf.pre [] (fun x e s=>(x=.ret∧JK false rf.res (.ret,e,s)=some r)∨(x=.norm∧∃ s2,ZPR (fun lv=>S (ZPS T0 lv (ZAI (S T0) itS rf.nt rf.rng))) rf.nt rf.rng e s=some (.norm,e,s2)∧Ru (S T0) rf.post [] (fun x e s=>JK false rf.res (x,e,s)=some r) e s2)) (Qf 0 args) ⟨A,false,[]⟩):S T f args st=some r:=by
 refine ZeS (o:=rfO T0 rf) hT ?_
 obtain ⟨x,e1,s1,h1,h2⟩:=(h _ rfl).h
 unfold rfO rfG ZID
 have:st.push=⟨st.ps,false,[]⟩:=rfl
 rw [this,h1,oS]
 rcases h2 with ⟨rfl,h3⟩|⟨rfl,s2,h3,⟨x,e3,s3,h5,h6⟩⟩
 ·simp only [Jt,oS];exact h3
 ·simp only [Jt,h3,oS,h5];exact h6
end
theorem ZgM {T:Tab} (hT:∀ f x,T f=some x→f<yB) (lv:Nat) (o:List AV→St→Option (AV × St)):TLe T (ZPS T lv o):=fun f x hx=>by
 unfold ZPS
 rw [if_neg]
 ·exact hx
 ·intro q;exact ZaW (hT f x hx) q
theorem ZgN (T:Tab) (lv:Nat) (o:List AV→St→Option (AV × St)) (args:List AV) (st:St) {r:AV × St} (h:o args st=some r):S (ZPS T lv o) (yB+lv) args st=some r :=
 ZeS (o:=o) (by unfold ZPS;rw [if_pos rfl]) h
end Go.QAbs
namespace Go.Q15
open Go Go.QAbs
set_option maxRecDepth 100000
set_option maxHeartbeats 8000000
def ZR5 (N:ZP) (o:Nat):Nd:=(lk N o).getD ⟨0,[],none⟩
theorem Xw {N:ZP} {o:Nat} {x:Nd} (h:lk N o=some x):ZR5 N o=x:=by unfold ZR5;rw [h];rfl
def Xz (N:ZP):Nat→Nat→List Nat
 | 0,o=>[o]
 | n+1,o=>o::(ZR5 N o).ks.flatMap fun k=>Xz N n k.at_
def Zhb (x:Nd):AV:=.agg [.int .i64 x.h,.str x.text,.lit (x.ks.map Kid.av),.int .i64 0]
theorem ZL5 {s:St} {l i:Nat} {b:Blk} (h:s.get l i=some b) (more:List (Bool × List Blk)) (ro:Bool) (L:List Blk):St.get ⟨s.ps++more,ro,L⟩ l i=some b:=by
 have hl:=St.get_le h
 have h1:=ZQ (A:=s.ps) rfl (ro:=ro) (L:=L) h
 unfold St.get at h1 ⊢
 have e1:l≠s.ps.length:=by simp;omega
 have e2:l≠(s.ps++more).length:=by simp;omega
 simp only [if_neg e1,if_neg e2] at h1 ⊢
 rw [List.getElem?_append_left (by simp;omega)]
 exact h1
theorem Rd.more {s:St} {lv ix:Nat} {N:ZP} (h:Rd s lv ix N) (more:List (Bool × List Blk)) (ro:Bool) (L:List Blk):Rd ⟨s.ps++more,ro,L⟩ lv ix N:=by
 obtain ⟨a0,a1,im,a3,a4,a5,h1,h2⟩:=h
 exact ⟨a0,a1,im,a3,a4,a5,ZL5 h1 _ _ _,ZL5 h2 _ _ _⟩
theorem ZgO {N:ZP} {h:Nat} {x:Nd} (hx:lk N h=some x) (hok:NdOk x) {n:Nat} (hh:x.h=n):Xz N n h=h::x.ks.flatMap fun k=>Xz N (n-1) k.at_:=by
 cases n with
 | zero =>
  have:x.ks=[]:=by
   rcases hok with q|⟨m,ks,q⟩
   ·exact q.ks
   ·have:=congrArg Nd.h q.eq;simp only at this;omega
  rw [this];rfl
 | succ n=>rw [Xz,Xw hx];rfl
theorem ZjL {N:ZP} (hN:GoodN N):∀ (n h:Nat) (x:Nd),lk N h=some x→x.h=n→3*(Xz N n h).length+1≤4 ^ (n+1):=by
 intro n
 induction n with
 | zero=>intro h x hx hh;simp [Xz]
 | succ n ih =>
  intro h x hx hh
  obtain ⟨hok,hk⟩:=hN h x hx
  rw [Xz,Xw hx,List.length_cons]
  have h6:4 ^ (n+1+1)=4*4 ^ (n+1):=by rw [Nat.pow_succ,Nat.mul_comm]
  rw [h6]
  clear h6
  have hP1:1≤4 ^ (n+1):=Nat.pow_pos (by decide)
  generalize 4 ^ (n+1)=P at *
  have key:∀ l:List Kid,(∀ k∈l,k∈x.ks)→3*(l.flatMap fun k=>Xz N n k.at_).length+l.length≤l.length*P:=by
   intro l
   induction l with
   | nil=>intro _;simp
   | cons k l ih2 =>
    intro hm
    obtain ⟨_,y,y1,y2,_⟩:=hk k (hm k (by simp))
    have h1:=ih k.at_ y y1 (by omega)
    have h2:=ih2 fun q hq=>hm q (by simp [hq])
    rw [List.flatMap_cons,lL,List.length_cons,Nat.add_mul,Nat.one_mul]
    omega
  have h1:=key x.ks fun _ h=>h
  have h4:=hok.len
  have h5:x.ks.length*P≤4*P:=Nat.mul_le_mul_right _ h4
  rcases hok with q|⟨m,ks,q⟩
  ·have:=q.h;omega
  ·have e:=q.eq
   have h7:=q.lo
   subst e
   simp only [Nd.ks,Option.getD_some] at h1 h4 h5 ⊢
   have h8:(4-ks.length)*1≤(4-ks.length)*P:=Nat.mul_le_mul_left _ hP1
   have h9:ks.length*P+(4-ks.length)*P=4*P:=by rw [← Nat.add_mul];congr 1;omega
   omega
structure NW (σ:List Nat→St) (lv:Nat) (caps:List AV) (la b:Nat) (more:List (Bool × List Blk)) (ro:Bool) (L:List Blk) (l1 i1 l2 i2 l3 i3:Nat):Prop where
 a:∀ v,St.get ⟨(σ v).ps++more,ro,L⟩ l1 i1=some (.arr 1 0 [.ptr la (b+5) 0 0 0])
 y:∀ v,St.get ⟨(σ v).ps++more,ro,L⟩ l2 i2=some (.arr 1 0 [.func (.yield lv) [] caps])
 w:∀ v,St.get ⟨(σ v).ps++more,ro,L⟩ l3 i3=some (.arr 1 0 [.func (.func J7) [] [.ptr l1 i1 0 0 0,.ptr l2 i2 0 0 0,.ptr l3 i3 0 0 0]])
theorem NW.push {σ:List Nat→St} {lv:Nat} {caps:List AV} {la b:Nat} {more:List (Bool × List Blk)} {ro:Bool} {L:List Blk} {l1 i1 l2 i2 l3 i3:Nat} (h:NW σ lv caps la b more ro L l1 i1 l2 i2 l3 i3) (L':List Blk):NW σ lv caps la b (more++[(ro,L)]) false L' l1 i1 l2 i2 l3 i3 :=
 ⟨fun v=>ZQ (st:=⟨(σ v).ps++more,ro,L⟩) (by rw [← List.append_assoc]) (h.a v),fun v=>ZQ (st:=⟨(σ v).ps++more,ro,L⟩) (by rw [← List.append_assoc]) (h.y v),fun v=>ZQ (st:=⟨(σ v).ps++more,ro,L⟩) (by rw [← List.append_assoc]) (h.w v)⟩
theorem Zma {TY:Tab} (hT:TLe Tb TY) {σ:List Nat→St} {N:ZP} (hN:GoodN N) {la b lv:Nat} {caps:List AV} (hcw:Zf caps=caps) (hRd:∀ v,Rd (σ v) la (b+5) N) (hlen:∀ v,(σ v).A.length=(σ []).A.length)
 {B:Nat} (hy:∀ v h x more ro L,v.length<B→lk N h=some x→S TY (yB+lv) (.int .u64 (h:Nat)::Zhb x::caps) ⟨(σ v).ps++more,ro,L⟩=some (.bool true,⟨(σ (v++[h])).ps++more,ro,L⟩)) :
 ∀ n h x,lk N h=some x→x.h=n→∀ v more ro L l1 i1 l2 i2 l3 i3,v.length+(Xz N n h).length≤B→NW σ lv caps la b more ro L l1 i1 l2 i2 l3 i3 →
  S TY J7 [.int .u64 (h:Nat),.ptr l1 i1 0 0 0,.ptr l2 i2 0 0 0,.ptr l3 i3 0 0 0] ⟨(σ v).ps++more,ro,L⟩=some (.bool true,⟨(σ (v++Xz N n h)).ps++more,ro,L⟩):=by
 intro n
 induction n using Nat.strongRecOn with
 | ind n ih =>
  intro h x hx hh v more ro L l1 i1 l2 i2 l3 i3 hB hw
  have hok:=(hN h x hx).1
  rw [ZgO hx hok hh,List.length_cons] at hB
  have hkids:=(hN h x hx).2
  have hk4:=hok.len
  refine Xs (hT _ _ rfl) (fun A hA=>?_)
  have hA2:A=(σ v).ps++(more++[(ro,L)]):=by rw [hA,List.append_assoc]
  clear hA
  subst hA2
  have hw2:=fun L'=>hw.push L'
  have hG:∀ v' L',S TY QY [.ptr la (b+5) 0 0 0,.int .u64 h] ⟨(σ v').ps++(more++[(ro,L)]),false,L'⟩=some (.tup [.agg [.int .i64 x.h,.str x.text,.lit (x.ks.map Kid.av)],.int .i64 0],⟨(σ v').ps++(more++[(ro,L)]),false,L'⟩):=fun v' L'=>ZjH hT _ _ _ _ (ZdS ((hRd v').more _ _ _) hx hk4)
  have hY:=fun L'=>hy v h x (more++[(ro,L)]) false L' (by omega) hx
  unfold Zhb at hY
  have hwk:Zf ([AV.int .u64 h,.agg [.int .i64 x.h,.str x.text,.lit (x.ks.map Kid.av),.int .i64 0]]++caps)=.int .u64 h::.agg [.int .i64 x.h,.str x.text,.lit (x.ks.map Kid.av),.int .i64 0]::caps:=by
   simp only [lC,lE,Zf,weak,hcw]
  repeat' (first|refine ZjJ rfl rfl hwk (hY _) ?_|refine ZE ?_|refine ZD ?_|refine ZG rfl ?_|refine ZJ rfl rfl ?_|refine ZU rfl rfl rfl rfl ?_|refine QE rfl ?_|refine Zn rfl rfl rfl rfl ?_|refine Zt rfl rfl ?_|refine ZB rfl ?_|refine ZC ?_|(refine Zj rfl rfl (fun _=>?_) (fun _=>?_)<;>try (exfalso;omega))|refine ZH rfl ?_|refine Jd rfl rfl ?_|refine Zs rfl rfl rfl ?_|refine Zi rfl rfl rfl ?_|refine Zu rfl rfl rfl rfl rfl rfl ?_|refine Z3 rfl ((hw2 _).a v) rfl rfl ?_|refine Z3 rfl ((hw2 _).y v) rfl rfl ?_|refine ZA rfl rfl rfl (hG _ _) ?_|refine ZI ?_)
  all_goals try contradiction
  have hl2:∀ v v',((σ v).ps++(more++[(ro,L)])).length=((σ v').ps++(more++[(ro,L)])).length:=fun v v'=>by
   simp only [lL];rw [hlen v,hlen v'];rfl
  rw [hl2 v (v++[h])]
  rw [ZgO hx hok hh]
  repeat' (first|refine ZG rfl ?_|refine ZU rfl rfl rfl rfl ?_|refine ZB rfl ?_|refine ZC ?_|refine QR rfl ?_|refine ZO ?_)
  refine Z0 (α:=Nat × List Blk) (fun p=>[(3,.ptr l3 i3 0 0 0),(28,.lit (x.ks.map Kid.av)),(29,.int .i64 x.ks.length),(30,.int .i64 p.1)])
   (fun p=>⟨(σ (v++h::(x.ks.take p.1).flatMap fun k=>Xz N (n-1) k.at_)).ps++(more++[(ro,L)]),false,.arr 3 0 [.agg [.int .i64 x.h,.str x.text,.lit (x.ks.map Kid.av)]]::p.2⟩) (fun p=>p.1≤x.ks.length) (fun p=>x.ks.length-p.1) (0,[]) rfl rfl (Nat.zero_le _) ?_
  rintro ⟨i,G⟩ hi
  simp only at hi ⊢
  rcases Nat.lt_or_ge i x.ks.length with hlt|hge
  ·obtain ⟨kd,hk'⟩:∃ k,x.ks[i]?=some k:=⟨x.ks[i]'(by omega),by simp [hlt]⟩
   obtain ⟨_,y,y1,y2,y3⟩:=hkids kd (List.mem_of_getElem? hk')
   have hk1:0≤((i:Nat):Int)∧x.ks[((i:Nat):Int).toNat]?=some kd:=⟨by omega,by rw [show ((i:Nat):Int).toNat=i by omega];exact hk'⟩
   have ihk:=fun v' L' hb=>ih y.h (by omega) kd.at_ y y1 rfl v' _ _ L' l1 i1 l2 i2 l3 i3 hb (hw2 L')
   have hfin:(v++h::(x.ks.take i).flatMap fun k=>Xz N (n-1) k.at_)++Xz N y.h kd.at_=v++h::(x.ks.take (i+1)).flatMap fun k=>Xz N (n-1) k.at_:=by
    rw [Zg hk',List.flatMap_append,List.append_assoc,show n-1=y.h by omega]
    simp
   obtain ⟨v1,hv1⟩:∃ v1,v1=v++h::(x.ks.take i).flatMap fun k=>Xz N (n-1) k.at_:=⟨_,rfl⟩
   rw [← hv1] at hfin ⊢
   have hb1:v1.length+(Xz N y.h kd.at_).length≤B:=by
    rw [← lL,hfin,lL,List.length_cons]
    have h1:(x.ks.flatMap fun k=>Xz N (n-1) k.at_)=(x.ks.take (i+1)).flatMap (fun k=>Xz N (n-1) k.at_)++(x.ks.drop (i+1)).flatMap (fun k=>Xz N (n-1) k.at_):=by
     rw [← List.flatMap_append,List.take_append_drop]
    have h2:=congrArg List.length h1
    rw [lL] at h2
    omega
   repeat' (first|refine Js rfl rfl hk1 (fun _=>rfl) ?_|refine ZA rfl rfl rfl (ihk v1 _ hb1) ?_|refine ZE ?_|refine ZD ?_|refine ZG rfl ?_|refine ZJ rfl rfl ?_|refine ZB rfl ?_|refine ZC ?_|refine JT rfl rfl rfl ?_|refine QS rfl rfl ?_|(refine Zk rfl rfl (fun _=>?_) (fun _=>?_)<;>try (exfalso;omega))|refine ZV rfl ?_|refine ZH rfl ?_|refine Jd rfl rfl ?_|refine Zo rfl rfl (by omega) ?_|refine Z4 rfl rfl rfl ?_|refine Xd rfl rfl rfl rfl rfl rfl ?_|refine Z3 rfl ((hw2 _).w v1) rfl rfl ?_|refine ZI ?_|refine ZO ?_|refine Z5 ?_|refine QC ?_)
   refine ⟨(i+1,G++[Blk.arr 4 0 [kd.av]]),⟨rfl,?_⟩,by simp only;omega,by simp only;omega⟩
   rw [hfin]
   rfl
  ·obtain rfl:i=x.ks.length:=by omega
   rw [List.take_length]
   repeat' (first|refine ZE ?_|refine ZD ?_|refine ZG rfl ?_|refine ZB rfl ?_|refine ZC ?_|(refine Zk rfl rfl (fun _=>?_) (fun _=>?_)<;>try (exfalso;omega))|refine ZH rfl ?_|refine ZS ?_|refine Zx ?_|refine ZL ?_|refine Zh ?_|refine Zd rfl ?_|refine Zq ?_)
   all_goals try (exfalso;omega)
   refine Zc (st:=⟨(σ _).ps++more,ro,L⟩) (by rw [← List.append_assoc]) (.inr rfl) rfl rfl rfl rfl ?_
   rfl
end Go.Q15
namespace Go.Q15
open Go Go.QAbs
set_option maxRecDepth 100000
set_option maxHeartbeats 8000000
theorem ZHJ:∀ {l:List (FuncId × Ent)},(l.all fun p=>decide (p.1<yB))=true→∀ f x,X4 l f=some x→f<yB
 | [],_,f,x,h=>by simp [X4] at h
 | p::l,ha,f,x,h=>by
  simp only [List.all_cons,Bool.and_eq_true,decide_eq_true_eq] at ha
  simp only [X4] at h
  split at h
  ·rename_i e;rw [← e];exact ha.1
  ·exact ZHJ ha.2 f x h
theorem ZjM:∀ f x,Tb f=some x→f<yB:=ZHJ (l:=tl) (by decide +kernel)
def RtOk (N:ZP) (r:Ro):Prop:=r=.zero∨(r.at_≠0∧∃ x,lk N r.at_=some x∧NdOk x∧x.h=r.h∧x.mea=r.m)
def YB (N:ZP) (r:Ro):List Nat:=if r.at_=0 then [] else Xz N r.h r.at_
theorem RtOk.h13 {N:ZP} (hN:GoodN N) {r:Ro} (hr:RtOk N r):r.h≤13:=by
 rcases hr with rfl|⟨h0,x,h1,h2,h3,h4⟩
 ·decide
 ·have hv:Val N (.keep r):=.kept h0 h1 h2 h3 h4 rfl
  have hb:(Tr.keep r).bytes=r.m.b:=by simp [Tr.keep,Tr.bytes,Tr.bytesO]
  have:=h2.mea_pos
  exact hv.height hN (by rw [hb,← h4];omega)
theorem ZWb {N:ZP} (hN:GoodN N) {r:Ro} (hr:RtOk N r):(YB N r).length<100000000:=by
 have h13:=hr.h13 hN
 unfold YB
 split
 ·simp
 ·rename_i q
  rcases hr with rfl|⟨h0,x,h1,h2,h3,h4⟩
  ·exact absurd rfl q
  ·have:=ZjL hN r.h r.at_ x h1 h3
   have h5:4 ^ (r.h+1)≤4 ^ 14:=Nat.pow_le_pow_right (by decide) (by omega)
   have h6:(4:Nat) ^ 14=268435456:=by decide
   omega
def Yb (r:Ro):Tr:=if r.at_=0 then .zero else .keep r
theorem ZcB {st:St} {lv ix:Nat} {N:ZP} (hr:Rd st lv ix N) {r:Ro} (h:RtOk N r):S Tb Yh [.ptr lv ix 0 0 0,r.av] st=some (.tup [(Yb r).av,.int .i64 0],st):=by
 unfold Yb
 rcases h with rfl|⟨h0,x,h1,h2,h3,h4⟩
 ·rw [if_pos (by rfl)];exact ZhF
 ·rw [if_neg h0];exact ZmN hr h1 h2 h0 h3 h4
theorem ZgP {A:List (Bool × List Blk)} {L:List Blk} {la b:Nat} {r:Ro}:S Tb Xh [.ptr la (b+5) 0 0 0,r.av] ⟨A,false,L⟩=some (.func (.func JE) [] [.ptr A.length L.length 0 0 0,.ptr A.length (L.length+1) 0 0 0],⟨A,false,L++[.arr 1 0 [.ptr la (b+5) 0 0 0],.arr 5 0 [r.av]]⟩):=by
 refine ZBZ rfl ?_
 have e0:(⟨A,false,L⟩:St)=⟨A,false,L++[]⟩:=by rw [lN]
 rw [e0]
 unfold Ro.av
 repeat' (first|refine Xu rfl rfl rfl rfl rfl ?_|refine ZE ?_|refine ZD ?_|refine ZG rfl ?_|refine ZB rfl ?_|refine ZC ?_|refine ZAJ rfl rfl ?_|refine ZS ?_|refine ZL ?_)
 refine (Xc (.inr rfl) rfl rfl rfl rfl).trans ?_
 rfl
theorem Zdo {b a1 a2 a3 x1 x2 x3:Nat} {f:FuncId} (st:St) (h1:a1<b) (h2:a2<b) (h3:a3<b):ZW QA b st (.func (.func f) [] [.ptr a1 x1 0 0 0,.ptr a2 x2 0 0 0,.ptr a3 x3 0 0 0])=some (.func (.func f) [] [.ptr a1 x1 0 0 0,.ptr a2 x2 0 0 0,.ptr a3 x3 0 0 0],st):=by
 simp only [ZW,QA,ZcG,if_true,mapSt,oS,if_pos h1,if_pos h2,if_pos h3,YW]
theorem Zl2 {TY:Tab} (hT:TLe Tb TY) {σ:List Nat→St} {N:ZP} (hN:GoodN N) {la b lv:Nat} {caps:List AV} (hcw:Zf caps=caps) (hRd:∀ v,Rd (σ v) la (b+5) N) (hlen:∀ v,(σ v).A.length=(σ []).A.length)
 {B:Nat} (hy:∀ v h x more ro L,v.length<B→lk N h=some x→S TY (yB+lv) (.int .u64 (h:Nat)::Zhb x::caps) ⟨(σ v).ps++more,ro,L⟩=some (.bool true,⟨(σ (v++[h])).ps++more,ro,L⟩))
 {r:Ro} (hr:RtOk N r) (hB:(YB N r).length≤B) {l1 i1 l4 i4:Nat} (ha:∀ v,(σ v).get l1 i1=some (.arr 1 0 [.ptr la (b+5) 0 0 0])) (hro:∀ v,(σ v).get l4 i4=some (.arr 5 0 [r.av])) :
 S TY JE [.func (.yield lv) [] caps,.ptr l1 i1 0 0 0,.ptr l4 i4 0 0 0] ⟨(σ []).ps,false,[]⟩=some (.tup [],⟨(σ (YB N r)).ps,false,[]⟩):=by
 refine Xs (hT _ _ rfl) (fun A hA=>?_)
 have hA0:A=(σ []).ps++[(false,[])]:=hA
 have g4:∀ L,St.get ⟨A,false,L⟩ l4 i4=some (.arr 5 0 [r.av]):=fun L=>by rw [hA0];exact ZL5 (hro []) _ _ _
 have l1l:l1<A.length+1:=by have:=St.get_le (ha []);rw [hA0];simp;omega
 unfold Ro.av at g4
 have hNW:∀ yv wv,yv=Blk.arr 1 0 [.func (.yield lv) [] caps]→wv=Blk.arr 1 0 [.func (.func J7) [] [.ptr l1 i1 0 0 0,.ptr A.length 0 0 0 0,.ptr A.length 1 0 0 0]]→NW σ lv caps la b [(false,[])] false [yv,wv] l1 i1 A.length 0 A.length 1:=by
  rintro yv wv rfl rfl
  have hl:∀ v,A.length=((σ v).ps++[(false,([]:List Blk))]).length:=fun v=>by rw [hA0];simp [hlen v]
  refine ⟨fun v=>ZL5 (ha v) _ _ _,fun v=>?_,fun v=>?_⟩
  ·rw [hl v,St.get_cur];rfl
  ·rw [hl v,St.get_cur];rfl
 by_cases h0:r.at_=0
 ·have e:YB N r=[]:=by unfold YB;rw [if_pos h0]
  rw [e]
  repeat' (first|refine ZE ?_|refine ZD ?_|refine ZJ rfl rfl ?_|refine ZB rfl ?_|refine ZC ?_|(refine Zj rfl rfl (fun _=>?_) (fun _=>?_)<;>try (exfalso;omega))|refine ZH rfl ?_|refine ZAJ rfl rfl ?_|refine Zi rfl rfl rfl ?_|refine Zu rfl rfl rfl (Zdo _ l1l (Nat.lt_succ_self _) (Nat.lt_succ_self _)) rfl rfl ?_|refine Z3 rfl (g4 _) rfl rfl ?_|refine ZI ?_|refine ZL ?_)
  all_goals try (exfalso;omega)
  refine Zc hA (.inl rfl) rfl rfl rfl rfl ?_
  rfl
 ·have e:YB N r=Xz N r.h r.at_:=by unfold YB;rw [if_neg h0]
  rw [e] at hB ⊢
  obtain ⟨x,h1,h2,h3,h4⟩:∃ x,lk N r.at_=some x∧NdOk x∧x.h=r.h∧x.mea=r.m:=by
   rcases hr with rfl|q
   ·exact absurd rfl h0
   ·exact q.2
  have hW:=Zma hT hN hcw hRd hlen hy r.h r.at_ x h1 h3 [] [(false,[])] false _ l1 i1 A.length 0 A.length 1 (by simpa using hB) (hNW _ _ rfl rfl)
  rw [← hA0,lE] at hW
  repeat' (first|refine ZA rfl rfl rfl hW ?_|refine ZE ?_|refine ZD ?_|refine ZJ rfl rfl ?_|refine ZU rfl rfl rfl rfl ?_|refine ZB rfl ?_|refine ZC ?_|(refine Zj rfl rfl (fun _=>?_) (fun _=>?_)<;>try (exfalso;omega))|refine ZV rfl ?_|refine ZAJ rfl rfl ?_|refine Zi rfl rfl rfl ?_|refine Zu rfl rfl rfl (Zdo _ l1l (Nat.lt_succ_self _) (Nat.lt_succ_self _)) rfl rfl ?_|refine Z3 rfl (g4 _) rfl rfl ?_|refine ZL ?_)
  all_goals try (exfalso;omega)
  refine Zc (st:=⟨(σ _).ps,false,[]⟩) rfl (.inl rfl) rfl rfl rfl rfl ?_
  rfl
noncomputable def t1:List (FuncId × Ent):=(Xe,.base (rfO Tb p_rope_Check))::tl
noncomputable def T1:Tab:=X4 t1
theorem le1:TLe Tb T1:=fun g y hg=>by
 unfold T1 t1
 simp only [X4]
 rw [if_neg]
 ·exact hg
 ·intro e;subst e
  have:X4 tl Xe=none:=by decide +kernel
  unfold Tb at hg
  rw [this] at hg;simp at hg
theorem Zlb {st:St} {la b:Nat} {N:ZP} (hN:GoodN N) (hR:Rd st la (b+5) N) {r:Ro} (hr:RtOk N r):S T1 Xe [.ptr la (b+5) 0 0 0,r.av] st=some (.int .i64 0,st):=by
 refine s_rf (rf:=p_rope_Check) rfl (fun A hA=>?_)
 have hK:=fun L=>ZcB (hR.push hA (ro:=false) (L:=L)) hr
 have hNd:=fun L=>ZgP (A:=A) (L:=L) (la:=la) (b:=b) (r:=r)
 obtain ⟨LF,hLF⟩:∃ LF:List Blk,LF=[.arr 5 0 [r.av],.arr 7 0 [(Yb r).av],.arr 1 0 [.int .i64 0],.arr 1 0 [.ptr la (b+5) 0 0 0],.arr 5 0 [r.av]]:=⟨_,rfl⟩
 have hseq:=fun (caps:List AV) (hcw:Zf caps=caps) (o:List AV→St→Option (AV × St)) hy=>Zl2 (TY:=ZPS Tb (A.length+1) o) (ZgM ZjM _ _) (σ:=fun _=>⟨A,false,LF⟩) hN (lv:=A.length+1) (caps:=caps) hcw (fun _=>hR.push hA) (fun _=>rfl) (B:=(YB N r).length) hy hr (Nat.le_refl _) (l1:=A.length) (i1:=3) (l4:=A.length) (i4:=4) (fun _=>by rw [St.get_cur,hLF];rfl) (fun _=>by rw [St.get_cur,hLF];rfl)
 unfold Ro.av at *
 repeat' (first|refine ZE ?_|refine ZD ?_|refine ZG rfl ?_|refine ZU rfl rfl rfl rfl ?_|refine Zt rfl rfl ?_|refine ZB rfl ?_|refine ZC ?_|(refine Zj rfl rfl (fun _=>?_) (fun _=>?_)<;>try (exfalso;omega))|refine ZH rfl ?_|refine Zi rfl rfl rfl ?_|refine Zu rfl rfl rfl rfl rfl rfl ?_|refine Zu rfl rfl rfl (QO _ _ _) (Q1 _ _) rfl ?_|refine ZA rfl rfl (by first|rfl|(simp only [lE,lN,lC,Zf,ZY,ZX];first|done|rfl)) (hK _) ?_|refine ZA rfl rfl (by first|rfl|(simp only [lE,lN,lC,Zf,ZY,ZX];first|done|rfl)) (hNd _) ?_|refine ZI ?_|refine ZL ?_)
 all_goals try contradiction
 have hS:=hseq (ZIC 30 [(7,.ptr A.length 2 0 0 0),(21,.func (.func JE) [] [.ptr A.length 3 0 0 0,.ptr A.length 4 0 0 0]),(23,.any)]) rfl (ZAI (S Tb) itS p_rope_Check.nt p_rope_Check.rng) (fun v h x more ro L _ hx=>ZgN _ _ _ _ _ (Zdn rfl (fun A' hA'=>by
  unfold Zhb
  repeat' (first|refine ZD ?_|refine ZB rfl ?_|refine Zi rfl rfl rfl ?_|refine Zu rfl rfl rfl rfl rfl rfl ?_|refine ZL ?_)
  all_goals try (exfalso;omega)
  refine ⟨rfl,?_⟩
  repeat' (first|refine ZE ?_|refine ZD ?_|refine ZJ rfl rfl ?_|refine ZU rfl rfl rfl rfl ?_|refine ZB rfl ?_|refine ZC ?_|(refine Zj rfl rfl (fun _=>?_) (fun _=>?_)<;>try (exfalso;omega))|refine ZH rfl ?_|refine ZI ?_|refine ZO ?_|refine ZL ?_|refine Z5 ?_)
  all_goals try contradiction
  exact ⟨rfl,hA'⟩)))
 rw [hLF] at hS
 refine .inr ⟨rfl,_,ZjK (g:=JE) rfl (by decide) hS,?_⟩
 repeat' (first|refine ZE ?_|refine ZD ?_|refine ZG rfl ?_|refine ZU rfl rfl rfl rfl ?_|refine ZB rfl ?_|refine ZC ?_|refine ZI ?_|refine ZS ?_|refine ZL ?_)
 refine Zc hA (by first|exact .inl rfl|exact .inr rfl) rfl rfl rfl rfl ?_
 rfl
end Go.Q15
namespace Go.QAbs
theorem ZBN {s:St} {l i:Nat} {b:Blk} (h:s.get l i=some b) (more:List (Bool × List Blk)) (ro:Bool) (L:List Blk):St.get ⟨s.ps++more,ro,L⟩ l i=some b:=by
 have hl:=St.get_le h
 have h1:=ZQ (A:=s.ps) rfl (ro:=ro) (L:=L) h
 unfold St.get at h1 ⊢
 have e1:l≠s.ps.length:=by simp;omega
 have e2:l≠(s.ps++more).length:=by simp;omega
 simp only [if_neg e1,if_neg e2] at h1 ⊢
 rw [List.getElem?_append_left (by simp;omega)]
 exact h1
theorem ZgQ {s:St} {lv:Nat} (hl:lv≤s.A.length) (h:s.wr lv) (more:List (Bool × List Blk)) (ro:Bool) (L:List Blk):St.wr ⟨s.ps++more,ro,L⟩ lv:=by
 have h1:=Yq (A:=s.ps) rfl hl h (ro:=ro) (L:=L)
 unfold St.wr at h1 ⊢
 have e1:lv≠s.ps.length:=by simp;omega
 have e2:lv≠(s.ps++more).length:=by simp;omega
 simp only [if_neg e1,if_neg e2] at h1 ⊢
 rw [List.getElem?_append_left (by simp;omega)]
 exact h1
theorem Zdp {s:St} {lv ix:Nat} {b:Blk} (hl:lv≤s.A.length) (more:List (Bool × List Blk)) (ro:Bool) (L:List Blk):St.upd ⟨s.ps++more,ro,L⟩ lv ix b=⟨(s.upd lv ix b).ps++more,ro,L⟩:=by
 have h1:=Jn (A:=s.ps) (ro:=ro) (L:=L) rfl hl (ix:=ix) (b:=b)
 unfold St.upd at h1 ⊢
 have e1:lv≠s.ps.length:=by simp;omega
 have e2:lv≠(s.ps++more).length:=by simp;omega
 simp only [if_neg e1,if_neg e2] at h1 ⊢
 simp only [St.mk.injEq,and_true] at h1 ⊢
 rw [List.getElem?_append_left (by simp;omega),List.set_append_left _ _ (by simp;omega),h1]
theorem ZOk:∀ {ks:List (Nat × Nat)} {s:St} {bs:List Blk} {more:List (Bool × List Blk)} {ro:Bool} {L:List Blk},(∀ k∈ks,k.1≤s.A.length)→Q9 ⟨s.ps++more,ro,L⟩ ks bs=⟨(Q9 s ks bs).ps++more,ro,L⟩
 | [],_,bs,_,_,_,_=>by cases bs<;>rfl
 | _::_,_,[],_,_,_,_=>rfl
 | k::ks,s,b::bs,more,ro,L,hk=>by
  rw [Q9,Zdp (hk k (by simp)),ZOk (s:=s.upd k.1 k.2 b) (fun q hq=>by rw [St.upd_A];exact hk q (by simp [hq]))]
  rfl
theorem Cl.more {s:St} {ks:List (Nat × Nat)} {bs:List Blk} (h:Cl s ks bs) (more:List (Bool × List Blk)) (ro:Bool) (L:List Blk):Cl ⟨s.ps++more,ro,L⟩ ks bs :=
 ⟨h.nd,h.len,fun k hk=>ZgQ (h.le k hk) (h.wr k hk) _ _ _,fun j lv ix b h1 h2=>ZBN (h.get j lv ix b h1 h2) _ _ _⟩
end Go.QAbs
namespace Go.Q15
open Go Go.QAbs
set_option maxRecDepth 100000
set_option maxHeartbeats 8000000
theorem ZjN:∀ f x,T1 f=some x→f<yB:=ZHJ (l:=t1) (by decide +kernel)
noncomputable def t3:List (FuncId × Ent):=(ZCr,.base (rfO T1 p_rope_Leaves))::(ZKB,.base (rfO T1 ZES))::t1
noncomputable def T3:Tab:=X4 t3
theorem ZWc {l:List (FuncId × Ent)} {f:FuncId} {x:Ent} (h:X4 l f=none):TLe (X4 l) (X4 ((f,x)::l)):=fun g y hg=>by
 simp only [X4]
 rw [if_neg]
 ·exact hg
 ·intro e;subst e;rw [h] at hg;simp at hg
theorem le13:TLe T1 T3:=fun g y hg=>ZWc (l:=(ZKB,.base (rfO T1 ZES))::t1) (by decide +kernel) g y (ZWc (l:=t1) (by decide +kernel) g y hg)
theorem le3:TLe Tb T3:=fun g y hg=>le13 g y (le1 g y hg)
theorem up3 {f:FuncId} {args:List AV} {st:St} {r:AV × St} (h:S Tb f args st=some r):S T3 f args st=some r:=ZjH le3 _ _ _ _ h
theorem up1 {f:FuncId} {args:List AV} {st:St} {r:AV × St} (h:S Tb f args st=some r):S T1 f args st=some r:=ZjH le1 _ _ _ _ h
def QG (N:ZP) (v:List Nat):List (List UInt8):=v.filterMap fun h=>if (ZR5 N h).h=0 then some (ZR5 N h).text else none
theorem ZY2 (N:ZP) (v:List Nat) (h:Nat):QG N (v++[h])=QG N v++if (ZR5 N h).h=0 then [(ZR5 N h).text] else []:=by
 unfold QG
 rw [List.filterMap_append]
 by_cases q:(ZR5 N h).h=0<;>simp [q]
theorem Zhc (n b:Nat) (st:St) (l:List (List UInt8)):mapSt (ZW (n+1) b) st (l.map AV.str)=some (l.map AV.str,st):=by
 induction l with
 | nil=>rfl
 | cons x s ih =>
  rw [List.map_cons,mapSt]
  show ((some (AV.str x,st)).bind fun r=>(mapSt (ZW (n+1) b) r.2 (s.map AV.str)).bind (YW r.1))=_
  rw [oS,ih];rfl
def lvL (A:List (Bool × List Blk)) (la b:Nat) (r:Ro) (es:List AV):List Blk:=[.arr 5 0 [r.av],.arr 1 es.length es,.arr 1 0 [.ref A.length 1 es.length 0 es.length],.arr 1 0 [.ptr la (b+5) 0 0 0],.arr 5 0 [r.av]]
def lvF (A:List (Bool × List Blk)) (N:ZP) (la b:Nat) (r:Ro) (v:List Nat):St:=⟨A,false,lvL A la b r ((QG N v).map .str)⟩
theorem Zm9 (A:List (Bool × List Blk)) (la b:Nat) (r:Ro) (es:List AV):Cl ⟨A,false,lvL A la b r es⟩ [(A.length,1),(A.length,2)] [.arr 1 es.length es,.arr 1 0 [.ref A.length 1 es.length 0 es.length]]:=by
 refine ⟨by simp,rfl,fun k hk=>?_,fun j lv ix b h1 h2=>?_⟩
 ·simp only [List.mem_cons,List.not_mem_nil,or_false] at hk
  rcases hk with rfl|rfl<;>simp [St.wr]
 ·match j,h1,h2 with
  | 0,h1,h2=>obtain ⟨rfl,rfl⟩:=Prod.mk.inj (Option.some.inj h1);obtain rfl:=Option.some.inj h2;exact St.get_cur ..
  | 1,h1,h2=>obtain ⟨rfl,rfl⟩:=Prod.mk.inj (Option.some.inj h1);obtain rfl:=Option.some.inj h2;exact St.get_cur ..
  | n+2,h1,h2=>simp at h1
theorem Zmb (A:List (Bool × List Blk)) (la b:Nat) (r:Ro) (es fs:List AV):Q9 ⟨A,false,lvL A la b r es⟩ [(A.length,1),(A.length,2)] [.arr 1 fs.length fs,.arr 1 0 [.ref A.length 1 fs.length 0 fs.length]]=⟨A,false,lvL A la b r fs⟩:=by
 simp [Q9,St.upd,lvL]
theorem ZjO {N:ZP} {A:List (Bool × List Blk)} {la b:Nat} {r:Ro} {caps:List AV} (hc7:∃ rest,caps=.any::.any::.any::.any::.any::.any::.any::.ptr A.length 2 0 0 0::rest∧rest.length=24) (v:List Nat) (hlim:(QG N v).length<4000000000) (h:Nat) (x:Nd) (more:List (Bool × List Blk)) (ro:Bool) (L:List Blk) (hx:lk N h=some x) :
 ZAI (S T1) itS p_rope_Leaves.nt p_rope_Leaves.rng (.int .u64 (h:Nat)::Zhb x::caps) ⟨(lvF A N la b r v).ps++more,ro,L⟩=some (.bool true,⟨(lvF A N la b r (v++[h])).ps++more,ro,L⟩):=by
 obtain ⟨rest,rfl,hrl⟩:=hc7
 have hs:=ZY2 N v h
 have hnd:=Xw hx
 rw [hnd] at hs
 unfold lvF
 have hel:((QG N v).map AV.str).length=(QG N v).length:=List.length_map ..
 rw [hs,List.map_append]
 rw [← hel] at hlim
 generalize (QG N v).map AV.str=es at *
 have H:=(Zm9 A la b r es).more more ro L
 refine Zdn (by simp [hrl];rfl) (fun A' hA'=>?_)
 rw [← H.same] at hA'
 have g2:=fun L'=>H.old hA' rfl rfl (ro:=false) (L:=L') (j:=1) rfl rfl
 unfold Zhb
 repeat' (first|refine ZD ?_|refine ZB rfl ?_|refine Zi rfl rfl rfl ?_|refine Zu rfl rfl rfl rfl rfl rfl ?_|refine ZL ?_)
 all_goals try (exfalso;omega)
 all_goals refine ⟨rfl,?_⟩
 all_goals repeat' (first|refine ZE ?_|refine ZD ?_|refine ZJ rfl rfl ?_|refine ZU rfl rfl rfl rfl ?_|refine ZB rfl ?_|refine ZC ?_|(refine Zp rfl rfl (fun _=>?_) (fun _=>?_)<;>try (exfalso;omega))|refine ZV rfl ?_|refine ZH rfl ?_|refine Qw rfl rfl rfl rfl ?_|refine Z3 rfl (g2 _) rfl rfl ?_|refine ZI ?_|refine ZO ?_|refine ZL ?_|refine Z5 ?_)
 ·rename_i hz
  have hz':x.h=0:=by omega
  refine Zf2 H hA' rfl rfl (j:=0) rfl rfl rfl rfl rfl rfl (Zhc 5 _ _ [x.text]) (by simp only [List.length_singleton];omega) (by decide) (fun A2 hA2 hl2=>?_)
  refine ZJZ H hA2 rfl rfl (j:=1) rfl rfl rfl rfl rfl (JF _ (Nat.lt_succ_self _)) rfl (fun A3 hA3 hl3=>?_)
  repeat' (first|refine ZB rfl ?_|refine ZL ?_|refine Z5 ?_)
  refine ⟨rfl,hA3.trans ?_⟩
  have e:=Zmb A la b r es (es++[.str x.text])
  rw [if_pos hz',List.map_cons,List.map_nil,← e]
  rw [← ZOk (fun k hk=>by simp only [List.mem_cons,List.not_mem_nil,or_false] at hk;rcases hk with rfl|rfl<;>exact Nat.le_refl _)]
  simp only [lL,List.length_singleton]
  rfl
 ·rename_i hz
  have hz':¬ x.h=0:=by omega
  refine ⟨rfl,hA'.trans ?_⟩
  rw [H.same,if_neg hz',List.map_nil,lN]
theorem ZL6 (N:ZP) (v:List Nat):(QG N v).length≤v.length:=List.length_filterMap_le _ _
theorem ZjP {st:St} {la b:Nat} {N:ZP} (hN:GoodN N) (hR:Rd st la (b+5) N) {r:Ro} (hr:RtOk N r):S T3 ZCr [.ptr la (b+5) 0 0 0,r.av] st=some (.tup [.lit ((QG N (YB N r)).map .str),.int .i64 0],st):=by
 refine s_rf (rf:=p_rope_Leaves) rfl (fun A hA=>?_)
 have hK:=fun L=>Zlb hN (hR.push hA (ro:=false) (L:=L)) hr
 have hNd:=fun L=>up1 (ZgP (A:=A) (L:=L) (la:=la) (b:=b) (r:=r))
 have hlen:=ZWb hN hr
 have hseq:=fun (caps:List AV) (hcw:Zf caps=caps) (o:List AV→St→Option (AV × St)) hy=>Zl2 (TY:=ZPS T1 (A.length+1) o) (fun g y hg=>ZgM ZjN _ _ g y (le1 g y hg)) (σ:=lvF A N la b r) hN (lv:=A.length+1) (caps:=caps) hcw (fun _=>hR.push hA) (fun _=>rfl) (B:=100000000) hy hr (by omega) (l1:=A.length) (i1:=3) (l4:=A.length) (i4:=4) (fun _=>St.get_cur ..) (fun _=>St.get_cur ..)
 have hS:=hseq (ZIC 32 [(7,.ptr A.length 2 0 0 0),(18,.func (.func JE) [] [.ptr A.length 3 0 0 0,.ptr A.length 4 0 0 0]),(20,.any)]) rfl (ZAI (S T1) itS p_rope_Leaves.nt p_rope_Leaves.rng) (fun v h x more ro L hv hx=>ZgN _ _ _ _ _ (ZjO ⟨_,rfl,rfl⟩ v (by have:=ZL6 N v;omega) h x more ro L hx))
 unfold lvF at hS
 have hl0:(QG N (YB N r)).map AV.str=(QG N (YB N r)).map AV.str:=rfl
 generalize hes:QG N (YB N r)=l at *
 have e0:lvL A la b r ((QG N []).map .str)=lvL A la b r []:=rfl
 rw [e0] at hS
 unfold lvL at hS
 unfold Ro.av at *
 repeat' (first|refine ZE ?_|refine ZD ?_|refine ZG rfl ?_|refine ZU rfl rfl rfl rfl ?_|refine ZB rfl ?_|refine ZC ?_|(refine Zj rfl rfl (fun _=>?_) (fun _=>?_)<;>try (exfalso;omega))|refine ZH rfl ?_|refine Zi rfl rfl rfl ?_|refine ZMa rfl ?_|refine ZA rfl rfl rfl (hK _) ?_|refine ZA rfl rfl rfl (hNd _) ?_|refine ZI ?_|refine ZL ?_)
 all_goals try contradiction
 refine .inr ⟨rfl,_,ZjK (g:=JE) rfl (by decide) hS,?_⟩
 repeat' (first|refine ZE ?_|refine ZD ?_|refine ZG rfl ?_|refine ZU rfl rfl rfl rfl ?_|refine ZB rfl ?_|refine ZC ?_|refine ZI ?_|refine ZS ?_|refine ZL ?_)
 exact ZJ7 hA (.inr rfl) rfl rfl rfl (fun v hv=>by obtain ⟨x,_,rfl⟩:=List.mem_map.1 hv;rfl) rfl rfl
end Go.Q15
namespace Go.QAbs
open Go.ChangeShapes Go.WideShapes Go.RowKit Go.Deep
variable {P:Program}
def rho0:Rho:=⟨fun _ _=>⟨0,0,0⟩,fun _=>(0,[])⟩
theorem walk_in (hm:P.follows .mixedOrders=true) {T:Tab} (hT:TabOk P T) {f:FuncId} {args:List AV} (h:∃ st',S T f args .empty=some (.bool true,st')) {W:World} {xs:List Value} (hx:RL (cx .empty rho0 W 0) args xs) :
 Calls P f xs.toArray W fun e W'=>e=.returned (.bool true)∧Below W.heap.size W W':=by
 obtain ⟨st',h⟩:=h
 refine (Zkl hm hT h (Zg2 W) hx).mono fun e' W' ⟨x,_,he,g,hv⟩=>?_
 subst he
 exact ⟨by rw [YG hv],g.rel.below.b⟩
end Go.QAbs
namespace Go.Proofs
open Go.Shelf
def Try.lays156_ren:Go.Shelf.Ren:=⟨fun|156=>20|165=>67|166=>68|169=>69|240=>104|241=>105|276=>124|277=>125|n=>n,fun|31=>22|9=>9|3=>3|4=>4|0=>0|20=>20|72=>140|76=>144|70=>138|37=>125|75=>143|127=>185|164=>214|5=>5|80=>146|n=>n,fun|n=>n⟩
theorem Try.lays156:Go.Proofs.Lays.n156 Try.prog Try.lays156_ren:={
 mixed:=by kernel_rfl
 f156:=Try.func20.trans (congrArg some (by kernel_rfl))
 f165:=Try.func67.trans (congrArg some (by kernel_rfl))
 f166:=Try.func68.trans (congrArg some (by kernel_rfl))
 f169:=Try.func69.trans (congrArg some (by kernel_rfl))
 f240:=Try.func104.trans (congrArg some (by kernel_rfl))
 f241:=Try.func105.trans (congrArg some (by kernel_rfl))
 f276:=Try.func124.trans (congrArg some (by kernel_rfl))
 f277:=Try.func125.trans (congrArg some (by kernel_rfl))
 t0:=Try.underlying0
 a0:=Try.isAgg0
 z0:=Try.sizeOf0
 v0:=Try.zeroValue0
 t3:=Try.underlying3
 a3:=Try.isAgg3
 z3:=Try.sizeOf3
 v3:=Try.zeroValue3
 t4:=Try.underlying4
 a4:=Try.isAgg4
 z4:=Try.sizeOf4
 v4:=Try.zeroValue4
 t9:=Try.underlying9
 a9:=Try.isAgg9
 z9:=Try.sizeOf9
 v9:=Try.zeroValue9
 t20:=Try.underlying20
 a20:=Try.isAgg20
 z20:=Try.sizeOf20
 v20:=Try.zeroValue20
 t31:=Try.underlying22
 a31:=Try.isAgg22
 z31:=Try.sizeOf22
 v31:=Try.zeroValue22
 t37:=Try.underlying125
 a37:=Try.isAgg125
 z37:=Try.sizeOf125
 v37:=Try.zeroValue125
 t70:=Try.underlying138
 a70:=Try.isAgg138
 z70:=Try.sizeOf138
 v70:=Try.zeroValue138
 t72:=Try.underlying140
 a72:=Try.isAgg140
 z72:=Try.sizeOf140
 v72:=Try.zeroValue140
 t75:=Try.underlying143
 a75:=Try.isAgg143
 z75:=Try.sizeOf143
 v75:=Try.zeroValue143
 t76:=Try.underlying144
 a76:=Try.isAgg144
 z76:=Try.sizeOf144
 v76:=Try.zeroValue144
 t127:=Try.underlying185
 a127:=Try.isAgg185
 z127:=Try.sizeOf185
 v127:=Try.zeroValue185
 t164:=Try.underlying214
 a164:=Try.isAgg214
 z164:=Try.sizeOf214
 v164:=Try.zeroValue214 }
theorem Try.Builder_Extra_156:Builder.Extra Try.prog Try.lays156_ren:={
 sizeBuilder:=by kernel_rfl
 liesBuilder:=by kernel_rfl
 t5:=Try.underlying5
 a5:=Try.isAgg5
 z5:=Try.sizeOf5
 v5:=Try.zeroValue5
 infoByte:=by kernel_rfl
 cellsByte:=by kernel_rfl
 sizeByte:=by kernel_rfl
 neB5:=by decide }
open Go.RowKit in
theorem Try.strings_Join_none (a:Option Addr) (c:Nat) (sep:ByteArray) (w:World) :
 Calls Try.prog 20 #[.slice a 0 c,.string sep] w fun e w'=>e=.returned (.string ⟨#[]⟩)∧w'=w:=Any.strings_Join_none Try.lays156 Try.Builder_Extra_156 a c sep w
open Go.RowKit in
theorem Try.strings_Join (bk o c:Nat) (xs:List ByteArray) (sep:ByteArray) (w:World) (hcells:∀ (j:Nat) x,xs[j]?=some x→w.cell? ⟨bk,o+j,none⟩=some (.string x)) (hbk:bk<w.heap.size) (hN:xs.length≤140737488355328) (hcap:xs.length≤c) (hlen:(Lib.join (xs.map (·.data.toList)) sep.data.toList).length≤140737488355328) :
 Calls Try.prog 20 #[.slice (some ⟨bk,o,none⟩) xs.length c,.string sep] w fun e w'=>e=.returned (.string ⟨(Lib.join (xs.map (·.data.toList)) sep.data.toList).toArray⟩)∧Below w.heap.size w w':=Any.strings_Join Try.lays156 Try.Builder_Extra_156 bk o c xs sep w hcells hbk hN hcap hlen
end Go.Proofs
namespace Go.Q15
open Go Go.QAbs
set_option maxRecDepth 100000
open Go.Shelf in
def ZjQ:Ren:=⟨fun|41=>76|n=>n,fun|22=>77|23=>90|n=>n,fun n=>n⟩
theorem ZjR:Go.Proofs.SlLaysE0.n41 Go.Proofs.Try.prog ZjQ:={
 mixed:=by kernel_rfl
 f41 := ⟨"slices.Clone[[]quarto/api.Kid,quarto/api.Kid]", by decide, Go.Proofs.Try.func76.trans (congrArg some (by kernel_rfl))⟩
 t4:=Go.Proofs.Try.underlying4
 a4:=Go.Proofs.Try.isAgg4
 z4:=Go.Proofs.Try.sizeOf4
 v4:=Go.Proofs.Try.zeroValue4
 t22:=Go.Proofs.Try.underlying77
 a22:=Go.Proofs.Try.isAgg77
 z22:=Go.Proofs.Try.sizeOf77
 v22:=Go.Proofs.Try.zeroValue77 }
theorem ZjS:∃ i z,Go.Proofs.Try.prog.info? 90=some i∧i.zero=some z∧i.size=4∧i.bytes=32∧z.cells.size=4:=⟨_,_,rfl,rfl,rfl,rfl,rfl⟩
theorem ZfN:ZSu Go.Proofs.Try.prog Z6 (.base (ZIe 4)):=by
 obtain ⟨i,z,h1,h2,h3,h4,h5⟩:=ZjS
 refine Zif (T:=90) (fun n c W=>Go.Proofs.AnyE.slices_Clone_nil ZjR n c W) fun ad n c news W hl hn hc ho=>?_
 exact Zg6 ZjR i z 4 32 h1 h2 h3 h4 h5 (by decide) Go.Proofs.Try.sizeOf90 ad n c news W hl (by unfold maxLen;omega) (by omega) hc ho
theorem ZfO:Go.Proofs.Try.prog.follows .mixedOrders=true:=by kernel_rfl
theorem ZjT:ZSv Go.Proofs.Try.prog tl:=⟨⟨Go.Proofs.Try.call76,ZfN⟩,⟨Go.Proofs.Try.call20,Zks Go.Proofs.Try.strings_Join_none Go.Proofs.Try.strings_Join⟩,Zk3⟩
theorem ZnA:TabOk Go.Proofs.Try.prog Tb:=ZSw ZjT
theorem ZjU:ZSv Go.Proofs.Try.prog t1:=⟨⟨Go.Proofs.Try.call22,Zie ZfO ZnA Go.Proofs.Try.func22 Zai⟩,ZjT⟩
theorem Zl3:TabOk Go.Proofs.Try.prog T1:=ZSw ZjU
theorem Zmc:ZSv Go.Proofs.Try.prog t3:=⟨⟨Go.Proofs.Try.call19,Zie ZfO Zl3 Go.Proofs.Try.func19 ZW6⟩,⟨Go.Proofs.Try.call23,Zie ZfO Zl3 Go.Proofs.Try.func23 Zak⟩,ZjU⟩
theorem T3_ok:TabOk Go.Proofs.Try.prog T3:=ZSw Zmc
end Go.Q15
namespace Go.Q15
open Go Go.QAbs
set_option maxRecDepth 100000
set_option maxHeartbeats 8000000
def X8 (w:List Nat) (h:Nat):List Nat:=if h∈w then w else w++[h]
end Go.Q15
namespace Go.Q15
open Go Go.QAbs
set_option maxRecDepth 100000
set_option maxHeartbeats 8000000
theorem Zdq:∀ l:List Tr,(∀ t∈l,4*(t.cnt:Int)+4≤t.bytes)→4*(Tr.cntL l:Int)+4*l.length≤Tr.bytesL l
 | [],_=>by simp [Tr.cntL,Tr.bytesL]
 | t::l,h=>by
  have h1:=h t (by simp)
  have h2:=Zdq l fun u hu=>h u (by simp [hu])
  simp only [Tr.cntL,Tr.bytesL,List.length_cons]
  omega
theorem ZjV {N:ZP} (hN:GoodN N) {t:Tr} (hv:Val N t):(t.cnt:Int)≤t.bytes∧(Big t→4*(t.cnt:Int)+4≤t.bytes):=by
 have hsz:=hv.size hN
 have hps:=hv.pos.2
 induction hv with
 | @kept o h m k x h0 hx hok hh hm hk =>
  have ec:(Tr.mk o h m [] k).cnt=0:=by rw [Tr.cnt,Tr.cntO_getD,hk,if_neg h0];rfl
  have hl:h≤16:=by
   rcases hok with q|⟨n,ks,q⟩
   ·rw [← hh,q.h];omega
   ·have:=q.n15;have e:=q.eq;subst e;simp only at hh;omega
  rw [ec]
  refine ⟨by omega,fun q=>?_⟩
  have h1:=hsz q
  have h2:=(ZDz hl).1
  simp only [Tr.h] at h1
  omega
 | @leaf s k h1 h2 hk =>
  have ec:(Tr.mk 0 0 .zero s k).cnt=1:=by rw [Tr.cnt,Tr.cntO_getD,hk];rfl
  rw [ec]
  refine ⟨by omega,fun q=>?_⟩
  have:=q rfl
  omega
 | @inner h l hh h2 h4 hl hb hv ih =>
  have ec:(Tr.mk 0 (h+1) .zero [] (some l)).cnt=Tr.cntL l+1:=by rw [Tr.cnt,Tr.cntO];simp;omega
  have eb:(Tr.mk 0 (h+1) .zero [] (some l)).bytes=Tr.bytesL l:=by rw [Tr.bytes,Tr.bytesO];simp [Mea.zero]
  have:=Zdq l fun u hu=>(ih u hu ((hv u hu).size hN) (hv u hu).pos.2).2 (fun q=>hb u hu (by rw [← hl u hu];exact q))
  rw [ec,eb]
  exact ⟨by omega,fun _=>by omega⟩
end Go.Q15
namespace Go.Q15
open Go Go.QAbs
set_option maxRecDepth 100000
set_option maxHeartbeats 8000000
theorem ZWd {x:List UInt8} {l:List (List UInt8)} {i:Nat} (h:l[i]?=some x):(l.take (i+1)).flatten=(l.take i).flatten++x:=by
 rw [List.take_add_one,h];simp
theorem ZgR (l:List (List UInt8)) (i:Nat):(l.take i).flatten.length≤l.flatten.length:=by
 have:=congrArg List.length (congrArg List.flatten (List.take_append_drop i l))
 rw [List.flatten_append,lL] at this
 omega
theorem Zdr {st:St} {la b:Nat} {N:ZP} (hN:GoodN N) (hR:Rd st la (b+5) N) {r:Ro} (hr:RtOk N r) (hlim:(QG N (YB N r)).flatten.length≤65536):S T3 XS [.ptr la (b+5) 0 0 0,r.av] st=some (.tup [.str (QG N (YB N r)).flatten,.int .i64 0],st):=by
 refine QF (le3 XS (.pf ZGX) rfl) (fun A hA=>?_)
 have hL:=fun L=>ZjP hN (hR.push hA (ro:=false) (L:=L)) hr
 have hll:(QG N (YB N r)).length<4000000000:=by have:=ZL6 N (YB N r);have:=ZWb hN hr;omega
 unfold Ro.av at *
 generalize QG N (YB N r)=l at *
 repeat' (first|refine ZE ?_|refine ZD ?_|refine ZG rfl ?_|refine ZU rfl rfl rfl rfl ?_|refine Zt rfl rfl ?_|refine ZB rfl ?_|refine ZC ?_|refine QR rfl ?_|(refine Zj rfl rfl (fun _=>?_) (fun _=>?_)<;>try (exfalso;omega))|refine ZH rfl ?_|refine Zi rfl rfl rfl ?_|refine ZA5 rfl ?_|refine ZA rfl rfl rfl (hL _) ?_|refine ZI ?_|refine ZO ?_)
 all_goals try contradiction
 all_goals try (exfalso;omega)
 refine Z0 (α:=Nat) (fun i=>[(8,.ref A.length 1 i 0 (l.take i).flatten.length),(20,.lit (l.map .str)),(21,.int .i64 l.length),(22,.int .i64 i)])
  (fun i=>⟨A,false,[.arr 5 0 [r.av],.arr 1 i (QQ (l.take i).flatten)]⟩) (fun i=>i≤l.length) (fun i=>l.length-i) 0 rfl rfl (by simp) ?_
 rintro i hi
 have hfl:=ZgR l i
 repeat' (first|refine ZE ?_|refine ZD ?_|refine ZG rfl ?_|refine ZB rfl ?_|refine ZC ?_|refine QS rfl rfl ?_|refine YJ rfl rfl (by omega) (fun _=>rfl) (fun _ _=>?_)|(refine Zk rfl rfl (fun _=>?_) (fun _=>?_)<;>try (exfalso;omega))|refine ZV rfl ?_|refine ZH rfl ?_|refine ZI ?_|refine Zx ?_|refine ZO ?_|refine Zh ?_|refine Zd rfl ?_|refine Zq ?_)
 ·rename_i x hx
  have hx2:l[i]?=some x:=hx
  have hf2:=ZgR l (i+1)
  rw [ZWd hx2] at hf2
  rw [lL] at hf2
  refine ZSF (ix:=1) (ver:=i) (n:=(l.take i).flatten.length) (es:=QQ (l.take i).flatten) (vx:=.str x) (ys:=QQ x) rfl rfl rfl ?_ (ZAm _).symm ?_ (by decide) (ZfE _) (ZfF _ _ _) rfl ?_
  ·rfl
  ·rw [ZAm,ZAm];omega
  repeat' (first|refine ZD ?_|refine ZG rfl ?_|refine ZB rfl ?_|refine ZC ?_|refine Zo rfl rfl (by omega) ?_|refine Z5 ?_|refine QC ?_)
  refine ⟨i+1,⟨?_,?_⟩,by omega,by omega⟩
  ·simp only [ZWd hx2,lL,ZAm];rfl
  ·simp only [ZWd hx2,ZWP]
 ·have hi':i=l.length:=by omega
  subst hi'
  rw [List.take_length]
  skip
  refine ZmI rfl (v:=.str l.flatten) ?_ ?_
  ·have hl:=ZAm l.flatten
   show (ZBO l.length 0 l.flatten.length (St.get _ A.length 1)).bind _=_
   rw [St.get_cur]
   show (ZBO l.length 0 l.flatten.length (some (Blk.arr 1 l.length (QQ l.flatten)))).bind _=_
   simp only [ZBO,true_and,hl,Nat.zero_add,Nat.le_refl,if_true,List.drop_zero,oS]
   rw [List.take_of_length_le (by omega),ZWX];rfl
  repeat' (first|refine ZG rfl ?_|refine ZB rfl ?_|refine ZC ?_|refine ZS ?_|refine ZL ?_)
  refine Zc hA (by first|exact .inl rfl|exact .inr rfl) rfl rfl rfl rfl ?_
  rfl
end Go.Q15
namespace Go.Q15
open Go Go.QAbs
set_option maxRecDepth 100000
set_option maxHeartbeats 8000000
theorem PI.ok {r:AR} (ho:AROk r) (hg:GoodN r.nodes) {t:Tr} (hv:VE r.nodes t) (hb:t.bytes≤65536) (hn:nw t≤r.n) {its:List It} {rx:Nat} {ρ:Nat→Ro} (h:PI t its rx ρ) :
 WrB r (nw t) (wrV t r).1 (wrV t r).2.2∧(IsEmpty t∧(wrV t r).2.1=.zero∨Val r.nodes t∧WrOk r.nodes t (wrV t r).1 (wrV t r).2.1):=by
 rcases h with ⟨h1,_,h2⟩|⟨⟨M,hM⟩,R,h1,h2,h3⟩
 ·have e:nw t=0:=by unfold nw;rw [if_pos ⟨h1.old,h1.h,h1.text⟩]
  rw [ZZt h1,e];exact ⟨.refl ho hg,.inl ⟨h1,rfl⟩⟩
 ·rcases hv with hv|hv
  ·exact absurd hv hM.not_empty
  ·rw [ZgJ hv,ZJf hv]
   rw [ZJf hv] at hn
   obtain ⟨ρ',a1,a2,a3,a4,a5⟩:=exec_ok hg hv hb r ho hg (.refl _) hn rx its R ρ h1 h2 h3
   exact ⟨a4,.inr ⟨hv,a5⟩⟩
theorem ZnB {st:St} {la b:Nat} {r:AR} (hA:Has st la b r) (ho:AROk r) (hg:GoodN r.nodes) {t:Tr} (hv:VE r.nodes t) (hb:t.bytes≤65536) (hn:nw t≤r.n) :
 WrB r (nw t) (wrV t r).1 (wrV t r).2.2∧(IsEmpty t∧(wrV t r).2.1=.zero∨Val r.nodes t∧WrOk r.nodes t (wrV t r).1 (wrV t r).2.1):=by
 obtain ⟨L2,tx,ver,cs,its,F,keys,rx,ρ,hS,hB⟩:=ZgK (L:=[]) (hA.push rfl).r ho.nb ho.n16 (by have:=ho.nn;have:=ho.n16;omega) hv hb hn
 exact hB.pi.ok ho hg hv hb hn
def ZZv (N:ZP) (r:Ro):List UInt8:=if r.at_=0 then [] else JG N r.h r.at_
structure Rt (N:ZP) (r:Ro) (s:List UInt8):Prop where
 rt:RtOk N r
 tx:ZZv N r=s
theorem RtOk.ext {N M:ZP} (hE:Ext N M) {r:Ro} (h:RtOk N r):RtOk M r:=h.imp id fun ⟨h0,x,h1,h2⟩=>⟨h0,x,hE _ _ h1,h2⟩
theorem Rt.ext {N M:ZP} (hN:GoodN N) (hE:Ext N M) {r:Ro} {s:List UInt8} (h:Rt N r s):Rt M r s:=by
 refine ⟨h.rt.ext hE,?_⟩
 rw [← h.tx]
 unfold ZZv
 split
 ·rfl
 ·rename_i q
  rcases h.rt with e|⟨_,x,h1,_,h2,_⟩
  ·rw [e] at q;exact absurd rfl q
  ·exact ZHg hN hE _ _ x h1 h2
theorem Rt.zero (N:ZP):Rt N .zero []:=⟨.inl rfl,rfl⟩
theorem Rt.m {N:ZP} (hN:GoodN N) {r:Ro} {s:List UInt8} (h:Rt N r s):r.m=Y1 s:=by
 obtain ⟨h,rfl⟩:=h
 unfold ZZv
 rcases h with rfl|⟨h0,x,h1,h2,h3,h4⟩
 ·rfl
 ·rw [if_neg h0,ZHe hN _ _ x h1 h3,h4]
theorem Rt.wr {r:AR} (ho:AROk r) {N:ZP} {t:Tr} {ro:Ro} (h:WrOk N t r ro):Rt r.nodes ro (t.txt N):=by
 obtain ⟨y,h1,h2,h3,h4⟩:=h.live
 have h0:=(ho.hnd h1).2
 refine ⟨.inr ⟨h0,y,h1,h2,by rw [h3,h.rh],by rw [h4,h.rm]⟩,?_⟩
 unfold ZZv
 rw [if_neg h0,h.rh,h.txt]
theorem Rt.keep {N:ZP} {r:Ro} {s:List UInt8} (h:Rt N r s):VE N (Yb r)∧(Yb r).txt N=s:=by
 obtain ⟨h,rfl⟩:=h
 unfold ZZv Yb
 rcases h with rfl|⟨h0,x,h1,h2,h3,h4⟩
 ·rw [if_pos (by rfl),if_pos (by rfl)];exact ⟨.inl zero_empty,rfl⟩
 ·rw [if_neg h0,if_neg h0]
  exact ⟨.inr (.kept h0 h1 h2 h3 h4 rfl),by rw [Tr.keep,Tr.txt,if_neg h0];simp [Tr.txtO]⟩
theorem Rt.b {N:ZP} (hN:GoodN N) {r:Ro} {s:List UInt8} (h:Rt N r s):(Yb r).bytes=s.length∧r.m.b=s.length:=by
 have h1:=h.keep
 have h2:=h1.1.len hN
 rw [h1.2] at h2
 exact ⟨h2.symm,by rw [h.m hN];rfl⟩
theorem ZgS {st:St} {la b:Nat} {r:AR} (hA:Has st la b r) (ho:AROk r) (hg:GoodN r.nodes) {t:Tr} (hv:VE r.nodes t) (hb:t.bytes≤65536) (hn:nw t≤r.n) :
 WrB r (nw t) (wrV t r).1 (wrV t r).2.2∧Rt (wrV t r).1.nodes (wrV t r).2.1 (t.txt r.nodes):=by
 obtain ⟨h1,h2⟩:=ZnB hA ho hg hv hb hn
 refine ⟨h1,?_⟩
 rcases h2 with ⟨he,h2⟩|⟨hv,h2⟩
 ·rw [h2,he.txt];exact .zero _
 ·exact .wr h1.ok h2
theorem ZFk (N:ZP) (v w:List Nat):QG N (v++w)=QG N v++QG N w:=by unfold QG;rw [List.filterMap_append]
theorem Zds {N:ZP} (hN:GoodN N):∀ n o x,lk N o=some x→x.h=n→(QG N (Xz N n o)).flatten=JG N n o:=by
 intro n
 induction n with
 | zero =>
  intro o x hx hh
  rw [Xz,JG,hx]
  simp [QG,Xw hx,hh]
 | succ n ih =>
  intro o x hx hh
  rw [Xz,JG,hx,Xw hx]
  have h0:QG N [o]=[]:=by simp [QG,Xw hx];omega
  have e:=ZFk N [o] (x.ks.flatMap fun k=>Xz N n k.at_)
  rw [h0] at e
  simp only [Option.map_some,Option.getD_some]
  rw [show (o::x.ks.flatMap fun k=>Xz N n k.at_)=[o]++x.ks.flatMap fun k=>Xz N n k.at_ from rfl,e,lE]
  have hk:=(hN o x hx).2
  have key:∀ l:List Kid,(∀ k∈l,k∈x.ks)→(QG N (l.flatMap fun k=>Xz N n k.at_)).flatten=l.flatMap fun k=>JG N n k.at_:=by
   intro l
   induction l with
   | nil=>intro _;rfl
   | cons k l ih2 =>
    intro h
    obtain ⟨_,y,y1,y2,_⟩:=hk k (h k (by simp))
    rw [List.flatMap_cons,List.flatMap_cons,ZFk,List.flatten_append,ih k.at_ y y1 (by omega),ih2 (fun q hq=>h q (by simp [hq]))]
  exact key _ fun _ h=>h
theorem Rt.leaves {N:ZP} (hN:GoodN N) {r:Ro} {s:List UInt8} (h:Rt N r s):(QG N (YB N r)).flatten=s:=by
 obtain ⟨h,rfl⟩:=h
 unfold ZZv YB
 split
 ·rfl
 ·rename_i q
  rcases h with rfl|⟨_,x,h1,_,h2,_⟩
  ·exact absurd rfl q
  ·exact Zds hN _ _ x h1 h2
end Go.Q15
namespace Go.Q15
open Go Go.QAbs
set_option maxRecDepth 100000
set_option maxHeartbeats 8000000
theorem ZCk (A:List (Bool × List Blk)) (L0 T:List Blk) (r:AR):Has ⟨A,false,L0++(arB A.length L0.length r++T)⟩ A.length L0.length r:=by
 have h:∀ i b,(arB A.length L0.length r++T)[i]?=some b→vis (some b)=some b→St.get ⟨A,false,L0++(arB A.length L0.length r++T)⟩ A.length (L0.length+i)=some b:=by
  intro i b hb hv
  rw [St.get_cur,Qo,hb,hv]
 exact ⟨by simp [St.wr],h 0 _ rfl rfl,h 1 _ rfl rfl,h 2 _ rfl rfl,h 3 _ rfl rfl,h 4 _ rfl rfl,h 5 _ rfl rfl⟩
theorem ZWe (A:List (Bool × List Blk)) (L0 T:List Blk) (r r':AR):QJ ⟨A,false,L0++(arB A.length L0.length r++T)⟩ A.length L0.length r'=⟨A,false,L0++(arB A.length L0.length r'++T)⟩:=by
 have h:∀ (X:List Blk) (i:Nat) (b:Blk),St.upd ⟨A,false,L0++X⟩ A.length (L0.length+i) b=⟨A,false,L0++X.set i b⟩:=fun X i b=>by
  unfold St.upd
  simp only [if_true,ZSI]
 have h0:∀ (X:List Blk) (b:Blk),St.upd ⟨A,false,L0++X⟩ A.length L0.length b=⟨A,false,L0++X.set 0 b⟩:=fun X b=>h X 0 b
 simp only [QJ,arK,arB,Q9,h,h0]
 rfl
theorem Zmd {e:Env} {A:List (Bool × List Blk)} {st:St} {L:List Blk} {x:Ex} {c4 c5 j4 w4 v4:Nat} {ro:Ro} {z:Int} (hA:A=st.A++[(st.ro,st.L)]) (hx:x=.norm∨x=.ret) (h4:Jh e c4=some (.ptr A.length j4 v4 0 0)) (hg4:L[j4]?=some (.arr w4 v4 [ro.av]))
 (h6:Jh e c5=some (.int .i64 z)):JK false [.c c4 true 5,.s c5] (x,e,⟨A,false,L⟩)=some (.tup [ro.av,.int .i64 z],st):=by
 refine ZCq (v:=.tup [ro.av,.int .i64 z]) hA hx ?_ (L':=L) rfl rfl
 have h1:ZAq ⟨A,false,L⟩ e (.c c4 true 5)=some ro.av:=by
  simp only [ZAq,QD h4,loadP,St.get_cur,hg4,vis,ZFU,if_true,List.getElem?_cons_zero,oS]
  rfl
 simp only [QM,ZCn,h1,oS]
 simp only [ZAq,QD h6,oS,Option.map_some,ZFV]
theorem ZgT {st:St} {la b:Nat} {r:AR} (hA:Has st la b r) (ho:AROk r) (hg:GoodN r.nodes) (s:List UInt8) (hs:s.length≤65536) (hn:nw (QI s)≤r.n) :
 S Tb ZBa [.ptr la (b+5) 0 0 0,.str s] st=some (.tup [(wrV (QI s) r).2.1.av,.int .i64 0],QJ st la b (wrV (QI s) r).1):=by
 obtain ⟨b1,b2,b3⟩:=XW hg hs
 refine Xs rfl (fun A hA'=>?_)
 have hB:=fun L=>Zf9 hg s hs ⟨A,false,L⟩
 have hle:=hA.le
 have hW:=fun L=>ZgL (st:=⟨A,false,L⟩) (hA.push hA') ho hg b1 (by rw [b3];omega) hn
 simp only [Yw hA' hle] at hW
 generalize (wrV (QI s) r).1=r' at *
 generalize (wrV (QI s) r).2.1=ro at *
 repeat' (first|refine ZE ?_|refine ZD ?_|refine ZG rfl ?_|refine Zt rfl rfl ?_|refine ZB rfl ?_|refine ZC ?_|(refine Zj rfl rfl (fun _=>?_) (fun _=>?_)<;>try (exfalso;omega))|refine ZH rfl ?_|refine Qb rfl rfl rfl rfl ?_|refine Zi rfl rfl rfl ?_|refine ZU rfl rfl rfl (Zw _) ?_|refine Zu rfl rfl rfl (QO _ _ _) (Q1 _ _) rfl ?_|refine ZA rfl rfl (by first|rfl|(simp only [lE,lN,lC,Zf,ZY,ZX];first|done|rfl)) (hB _) ?_|refine ZI ?_)
 all_goals try contradiction
 all_goals try (exfalso;omega)
 obtain ⟨A2,hA2⟩:∃ A2,A2=(QJ st la b r').ps:=⟨_,rfl⟩
 simp only [← hA2] at hW
 have hAl:A.length=A2.length:=by rw [hA',hA2];simp [St.ps,ZDB]
 refine ZA rfl rfl (Zm6 rfl _) (hW _) ?_
 rw [hAl]
 repeat' (first|refine Q0 rfl rfl rfl rfl rfl rfl ?_|refine ZU rfl rfl rfl rfl ?_|refine ZE ?_|refine ZD ?_|refine ZG rfl ?_|refine Zt rfl rfl ?_|refine ZB rfl ?_|refine ZC ?_|refine Zi rfl rfl rfl ?_|refine ZS ?_|refine ZL ?_)
 exact Zmd hA2 (.inr rfl) rfl rfl rfl
end Go.Q15
namespace Go.Q15
open Go Go.QAbs
set_option maxRecDepth 100000
set_option maxHeartbeats 8000000
theorem ZWf (n g:Nat) (hn:n≤16384) (hg:1≤g∧g≤4294967295):AROk (QZ n g):=by
 have hb:∀ i,i<n→(QZ n g).blk[i]?=some ((n:Int)-1-i):=fun i hi=>by simp [QZ,hi]
 refine ⟨by simp [QZ],by simp [QZ];exact hn,by simp [QZ],by simp [QZ],fun i hi=>⟨n-1-i,?_,?_,?_⟩,fun i j hi hj q=>?_,fun s hs=>⟨1,?_,by omega,?_⟩,?_,fun h x hx=>?_,?_,?_,?_⟩
 ·have hi':i<n:=hi
  rw [hb i hi'];congr 1
  show (n:Int)-1-i=((n-1-i:Nat):Int)
  omega
 ·have hi':i<n:=hi
  show n-1-i<(List.replicate n (0:Int)).length
  rw [List.length_replicate];omega
 ·have hi':i<n:=hi
  show (List.replicate n (0:Int))[n-1-i]?=some 0
  rw [List.getElem?_replicate,if_pos (by omega)]
 ·have hi':i<n:=hi
  have hj':j<n:=hj
  rw [hb i hi',hb j hj'] at q
  have:=Option.some.inj q
  omega
 ·have hs':s<n:=by simpa [QZ] using hs
  simp [QZ,hs']
 ·show ((1:Nat):Int)≤(g:Int);omega
 ·show (g:Int)≤_;omega
 ·simp [QZ,lk] at hx
 ·simp [QZ]
 ·simp [QZ]
 ·simp [QZ];omega
def Rts (N:ZP) (ros:List Ro) (ss:List (List UInt8)):Prop:=ros.length=ss.length∧∀ (i:Nat) (ro:Ro) (s:List UInt8),ros[i]?=some ro→ss[i]?=some s→Rt N ro s
theorem Rts.ext {N M:ZP} (hN:GoodN N) (hE:Ext N M) {ros:List Ro} {ss:List (List UInt8)} (h:Rts N ros ss):Rts M ros ss:=⟨h.1,fun i ro s h1 h2=>(h.2 i ro s h1 h2).ext hN hE⟩
theorem Rts.snoc {N:ZP} {ros:List Ro} {ss:List (List UInt8)} (h:Rts N ros ss) {ro:Ro} {s:List UInt8} (g:Rt N ro s):Rts N (ros++[ro]) (ss++[s]):=by
 refine ⟨by simp [h.1],fun i r t h1 h2=>?_⟩
 rcases Nat.lt_or_ge i ros.length with q|q
 ·rw [List.getElem?_append_left q] at h1
  rw [List.getElem?_append_left (by rw [← h.1];exact q)] at h2
  exact h.2 i r t h1 h2
 ·rw [List.getElem?_append_right q] at h1
  rw [List.getElem?_append_right (by rw [← h.1];exact q)] at h2
  rw [← h.1] at h2
  match hk:i-ros.length with
  | 0=>rw [hk] at h1 h2;obtain rfl:=Option.some.inj h1;obtain rfl:=Option.some.inj h2;exact g
  | n+1=>rw [hk] at h1;simp at h1
end Go.Q15
namespace Go.Q15
open Go Go.QAbs
set_option maxRecDepth 100000
set_option maxHeartbeats 8000000
def ZL7 (x n:Int):Int:=(x % 18446744073709551616) % (n+1)
theorem ZBG {x n:Int} (h:0≤n):0≤ZL7 x n∧ZL7 x n≤n:=by
 unfold ZL7
 have:=Int.emod_nonneg (x % 18446744073709551616) (show n+1≠0 by omega)
 have:=Int.emod_lt_of_pos (x % 18446744073709551616) (show 0<n+1 by omega)
 omega
theorem Zl4 (x:Int):IntKind.u64.wrap x=x % 18446744073709551616:=by
 have e1:IntKind.u64.signed=false:=rfl
 have e2:IntKind.u64.bits=64:=rfl
 simp only [IntKind.wrap,e1,e2,Bool.false_and,if_false,Bool.false_eq_true]
 rfl
end Go.Q15
namespace Go.Q15
open Go Go.QAbs
set_option maxRecDepth 100000
set_option maxHeartbeats 1000000
theorem ZD4 (k:Option (List Tr)):(Tr.ownO k).getD []=(k.getD []).map Tr.own:=by
 cases k with
 | none=>rfl
 | some l=>simp [Tr.ownO,Tr.ownL_map]
theorem ZnC (t:Tr):t.own.h=t.h:=by cases t;rfl
theorem ZZw (t:Tr):t.own.bytes=t.bytes:=by
 induction t using Tr.ind with
 | step o h m s k ih =>
  rw [Tr.own,Tr.bytes,Tr.bytes,Tr.bytesO_getD,Tr.bytesO_getD,ZD4]
  generalize k.getD []=l at ih
  congr 1
  induction l with
  | nil=>rfl
  | cons a l ih2=>rw [List.map_cons,Tr.bytesL,Tr.bytesL,ih a (by simp),ih2 (fun t ht=>ih t (by simp [ht]))]
theorem Zlc (N:ZP) (t:Tr):t.own.txt N=t.txt N:=by
 induction t using Tr.ind with
 | step o h m s k ih =>
  rw [Tr.own,Tr.txt,Tr.txt,Tr.txtO_getD,Tr.txtO_getD,ZD4]
  generalize k.getD []=l at ih
  congr 1
  induction l with
  | nil=>rfl
  | cons a l ih2=>rw [List.map_cons,Tr.txtL,Tr.txtL,ih a (by simp),ih2 (fun t ht=>ih t (by simp [ht]))]
theorem Zld {N:ZP} {t:Tr} (hv:Val N t):Val N t.own:=by
 induction hv with
 | kept h0 hx hok hh hm hk =>
  rw [Tr.own]
  exact .kept h0 hx hok hh hm (by rw [ZD4,hk];rfl)
 | leaf h1 h2 hk =>
  rw [Tr.own]
  exact .leaf h1 h2 (by rw [ZD4,hk];rfl)
 | inner hh h2 h4 hl hb hv ih =>
  rename_i h l
  rw [Tr.own,Tr.ownO,Tr.ownL_map]
  refine .inner hh (by rw [List.length_map];exact h2) (by rw [List.length_map];exact h4) ?_ ?_ ?_
  ·intro t ht
   obtain ⟨u,hu,rfl⟩:=List.mem_map.1 ht
   rw [ZnC];exact hl u hu
  ·intro t ht q
   obtain ⟨u,hu,rfl⟩:=List.mem_map.1 ht
   rw [ZZw];exact hb u hu q
  ·intro t ht
   obtain ⟨u,hu,rfl⟩:=List.mem_map.1 ht
   exact ih u hu
theorem Zme {N:ZP} {t:Tr} (h:VE N t):VE N t.own:=by
 rcases h with h|h
 ·obtain ⟨o,h',m,s,k⟩:=t
  obtain ⟨h1,h2,h3,h4,h5⟩:=h
  exact .inl ⟨h1,h2,h3,h4,by show (Tr.ownO k).getD []=[];rw [ZD4];simp only [Tr.ks] at h5;rw [h5];rfl⟩
 ·exact .inr (Zld h)
end Go.Q15
namespace Go.Q15
open Go Go.QAbs
set_option maxRecDepth 100000
set_option maxHeartbeats 8000000
theorem Zmf (x n:Int) (h0:0≤n) (h1:n<4611686018427387904) (st:St):S Tb XM [.int .i64 x,.int .i64 n] st=some (.int .i64 (ZL7 x n),st):=by
 have hp:=ZBG (x:=x) h0
 have hw:IntKind.u64.wrap (n+1)=n+1:=by rw [Zl4];omega
 have hx:=Int.emod_nonneg x (show (18446744073709551616:Int)≠0 by decide)
 have hrem:ZD8 .rem (.int .u64 (IntKind.u64.wrap x)) (.int .u64 (n+1))=some (.int .u64 (ZL7 x n)):=by
  rw [Zl4]
  show (if n+1=0 then none else some (AV.int .u64 ((x % 18446744073709551616).tmod (n+1))))=_
  rw [if_neg (by omega),Int.tmod_eq_emod_of_nonneg hx];rfl
 refine QF rfl (fun A hA=>?_)
 repeat' (first|refine ZE ?_|refine ZD ?_|refine ZG rfl ?_|refine ZB rfl ?_|refine ZC ?_)
 refine Zkv rfl ?_
 repeat' (first|refine ZG rfl ?_|refine Zo rfl rfl (by omega) ?_)
 refine ZJ5 rfl hw ?_
 refine ZS2 rfl rfl hrem ?_
 refine ZJ5 rfl (ZMY (by omega) (by omega)) ?_
 repeat' (first|refine ZG rfl ?_|refine ZB rfl ?_|refine ZC ?_|refine ZS ?_|refine ZL ?_)
 refine Zc hA (by first|exact .inl rfl|exact .inr rfl) rfl rfl rfl rfl ?_
 rfl
structure Ed where
 what:Nat
 n:Int
 at_:Int
 len:Int
 text:List UInt8
def Ed.av (y:Ed):AV:=.agg [.int .u8 y.what,.int .i64 y.n,.int .i64 y.at_,.int .i64 y.len,.str y.text]
theorem ZL8 (r:Ro):Qz r.av true 0 5=some r.av:=by cases r;rfl
theorem X9 {O:Orc} {k:List Fr} {Q:Yg} {e:Env} {st:St} {keep:List Nat} {is:List QAbs.PI} {d:Nat} {α:Type} {f:α→AV} {x:Opd} {l:List α} (hx:Za e x=some (.lit (l.map f))) (h:Is O is keep k Q ((d,.int .i64 l.length)::e) st):Is O (⟨some d,none,false,.len 1 x⟩::is) keep k Q e st:=by
 refine ZaZ hx ?_
 rw [List.length_map];exact h
theorem Zle {lv ix:Nat} {t:Tr} {n m:Int} {s:List UInt8}:ZX (Zf ([]++[.ptr lv ix 0 0 0,t.av,.int .i64 n,.int .i64 m,.str s]++[]))=some [.ptr lv ix 0 0 0,t.av,.int .i64 n,.int .i64 m,.str s]:=by
 simp only [lE,lN,lC,Zf,ZY,ZX];rfl
structure PlanOk (N:ZP) (ros:List Ro):Prop where
 rt:∀ r∈ros,RtOk N r∧(Yb r).bytes=r.m.b∧0≤r.m.b∧r.m.b≤60000
 len:ros.length<65536
theorem Rts.plan {N:ZP} (hN:GoodN N) {ros:List Ro} {ss:List (List UInt8)} (h:Rts N ros ss) (hl:ros.length<65536) (hs:∀ s∈ss,s.length≤60000):PlanOk N ros:=by
 refine ⟨fun r hr=>?_,hl⟩
 obtain ⟨i,hi,rfl⟩:=List.getElem_of_mem hr
 have hi2:i<ss.length:=by rw [← h.1];exact hi
 have g:=h.2 i _ _ (List.getElem?_eq_getElem hi) (List.getElem?_eq_getElem hi2)
 obtain ⟨b1,b2⟩:=g.b hN
 have:=hs _ (List.getElem_mem hi2)
 exact ⟨g.rt,by rw [b1,b2],by omega,by omega⟩
theorem RtOk.keep {N:ZP} {r:Ro} (h:RtOk N r):VE N (Yb r):=(Rt.keep ⟨h,rfl⟩).1
end Go.Q15
namespace Go.Q15
open Go Go.QAbs
set_option maxRecDepth 100000
set_option maxHeartbeats 8000000
def ZL9:Nat→List (List UInt8)→Nat
 | n,[]=>n
 | n,t::ts=>if n≤900 then ZL9 (n+min t.length 1000) ts else n
def Zdt (l:List (List UInt8)):Prop:=4<l.length∨900<ZL9 0 l
instance (l:List (List UInt8)):Decidable (Zdt l):=by unfold Zdt;infer_instance
theorem Zdu:∀ (l:List (List UInt8)) (n:Nat),n≤ZL9 n l
 | [],n=>by simp [ZL9]
 | t::ts,n=>by
  rw [ZL9]
  by_cases h:n≤900
  ·rw [if_pos h];have:=Zdu ts (n+min t.length 1000);omega
  ·rw [if_neg h];exact Nat.le_refl _
theorem ZZx:∀ (l:List (List UInt8)) (n:Nat),ZL9 n l≤900→n+(l.map List.length).sum≤900
 | [],n,h=>by simpa [ZL9] using h
 | t::ts,n,h=>by
  rw [ZL9] at h
  by_cases hn:n≤900
  ·rw [if_pos hn] at h
   have h1:=Zdu ts (n+min t.length 1000)
   have h2:=ZZx ts _ h
   rw [List.map_cons,List.sum_cons];omega
  ·rw [if_neg hn] at h;omega
theorem Zhd {α:Type} {l:List α} {i:Nat} {a:α} (h:l[i]?=some a):l.drop i=a::l.drop (i+1):=by
 obtain ⟨h1,h2⟩:=List.getElem?_eq_some_iff.1 h
 subst h2
 exact List.drop_eq_getElem_cons h1
def ZgU (l:List Ed):Prop:=(∃ s∈l.take 100,200<s.text.length)∨60<l.length
open Classical in
noncomputable instance (l:List Ed):Decidable (ZgU l):=Classical.propDecidable _
theorem ZjW {l:List Ed} (h:¬ ZgU l):l.length≤60∧∀ s∈l,s.text.length≤200:=by
 have h1:l.length≤60:=by
  rcases Nat.lt_or_ge 60 l.length with q|q
  ·exact absurd (.inr q) h
  ·exact q
 refine ⟨h1,fun s hs=>?_⟩
 rcases Nat.lt_or_ge 200 s.text.length with q|q
 ·refine absurd (.inl ⟨s,?_,q⟩) h
  rw [List.take_of_length_le (by omega)];exact hs
 ·exact q
theorem ZjX {l:List (List UInt8)} (h:¬ Zdt l):l.length≤4∧(l.map List.length).sum≤900:=by
 have h1:¬ 4<l.length:=fun q=>h (.inl q)
 have h2:¬ 900<ZL9 0 l:=fun q=>h (.inr q)
 have:=ZZx l 0 (by omega)
 exact ⟨by omega,by omega⟩
end Go.Q15
namespace Go.QAbs
section
variable {O:Orc} {k:List Fr} {Q:Yg} {e:Env} {A:List (Bool × List Blk)} {L:List Blk} {keep:List Nat} {is:List QAbs.PI} {d:Nat} {st:St} {ks:List (Nat × Nat)} {b0 bs:List Blk}
theorem ZjY {kk:Nat} {x i:Opd} {j lv ix:Nat} {ki:AV} {es es':List (AV × AV)} (H:Cl st ks b0) (hA:A=(Q9 st ks bs).ps) (hl:bs.length=ks.length) (hn:bs.all noH=true) (hj:ks[j]?=some (lv,ix)) (hb:bs[j]?=some (.map es))
 (hx:Za e x=some (.map lv ix)) (hi:Za e i=some ki) (hki:YO kk ki=true) (hp:ZPO ki es=some es')
 (h:∀ A',A'=(Q9 st ks (bs.set j (.map es'))).ps→A'.length=A.length→Is O is keep k Q e ⟨A',false,L⟩):Is O (⟨none,none,false,.mdel kk x i⟩::is) keep k Q e ⟨A,false,L⟩:=by
 have hP:=H.put hl hn
 have hg:=hP.get j lv ix _ hj hb
 have hw:=hP.wr (lv,ix) (List.mem_of_getElem? hj)
 have hle:=St.get_le hg
 refine Z2 (od:=none) (v:=.tup []) (st':=St.upd ⟨A,false,L⟩ lv ix (.map es')) ?_ ?_
 ·simp only [Zb,evalPO,ZF hx,ZF hi,ZOq,hki,if_true,oS,ZQ hA hg,ZJi,hp,St.put_upd (Yq hA hle hw) (ZQ hA hg),Zgd]
 ·rw [Jn hA hle]
  refine h _ ?_ ?_
  ·rw [Xp H.nd hl hj]
  ·rw [hA];simp [ZOb,St.upd_A]
theorem ZjZ {s x:Opd} {j lv ix ver w bytes m:Nat} {es ys:List AV} {vx:AV} (H:Cl st ks b0) (hA:A=(Q9 st ks bs).ps) (hl:bs.length=ks.length) (hn:bs.all noH=true) (hj:ks[j]?=some (lv,ix)) (hb:bs[j]?=some (.arr w ver es)) (hm:m≤es.length)
 (hs:Za e s=some (.ref lv ix ver 0 m)) (hx:Za e x=some vx) (hy:elems ⟨A,false,L⟩ vx=some ys) (hw:JA w ys=true) (hsl:mapSt (ZW QA (lv+1)) ⟨A,false,L⟩ ys=some (ys,⟨A,false,L⟩)) (hlen:m+ys.length<4294967296) (hby:bytes≤4096)
 (h:∀ A',A'=(Q9 st ks (bs.set j (.arr w (ver+1) (es.take m++ys)))).ps→A'.length=A.length→Is O is keep k Q ((d,.ref lv ix (ver+1) 0 (m+ys.length))::e) ⟨A',false,L⟩) :
 Is O (⟨some d,none,false,.app w bytes s x⟩::is) keep k Q e ⟨A,false,L⟩:=by
 have hP:=H.put hl hn
 have hg:=hP.get j lv ix _ hj hb
 have hwr:=hP.wr (lv,ix) (List.mem_of_getElem? hj)
 have hlv:=St.get_le hg
 refine Z2 (v:=.ref lv ix (ver+1) 0 (m+ys.length)) (st':=St.upd ⟨A,false,L⟩ lv ix (.arr w (ver+1) (es.take m++ys))) ?_ ?_
 ·have hg':=ZQ hA (ro:=false) (L:=L) hg
  have hw':=Yq hA hlv hwr (ro:=false) (L:=L)
  simp only [Zb,evalPO,ZF hs,ZF hx,hy,oS,JB,hw,if_true,hsl,ZaA,hg',ZIU,true_and,if_pos (show 0+m≤es.length∧m+ys.length<4294967296∧bytes≤4096 by omega),List.drop_zero]
  rw [St.put_upd hw' hg']
  rfl
 ·rw [Jn hA hlv]
  refine h _ ?_ ?_
  ·rw [Xp H.nd hl hj]
  ·rw [hA];simp [ZOb,St.upd_A]
end
end Go.QAbs
namespace Go.Q15
open Go Go.QAbs
set_option maxRecDepth 100000
set_option maxHeartbeats 8000000
end Go.Q15
namespace Go.Q15
open Go Go.QAbs
set_option maxRecDepth 100000
set_option maxHeartbeats 8000000
def ZAo (r:AR) (o:Nat):Prop:=J3 o∧r.states[o % 65536]?=some 1∧r.gens[o % 65536]?=some ((o / 65536:Nat):Int)
instance (r:AR) (o:Nat):Decidable (ZAo r o):=by unfold ZAo;exact inferInstance
def ZHK (r:AR) (o:Nat):Int:=if J3 o∧r.states[o % 65536]?=some 1 then ((o % 65536:Nat):Int) else 0
theorem ZfP {st:St} {lv b:Nat} {r:AR} (h:HasR st lv b r) (hl:r.gens.length=r.states.length) (o:Nat) (ho:o<18446744073709551616) :
 S Tb Jp [.ptr lv (b+3) 0 0 0,.int .u64 o] st=some (.tup [.int .i64 (ZHK r o),.bool (decide (ZAo r o))],st):=by
 refine QF rfl (fun A hA=>?_)
 have g3:=fun L=>ZQ hA (ro:=false) (L:=L) h.h3
 have g0:=fun L=>ZQ hA (ro:=false) (L:=L) h.h0
 have g2:=fun L=>ZQ hA (ro:=false) (L:=L) h.h2
 unfold AR.b3 at g3
 unfold AR.b0 at g0
 unfold AR.b2 at g2
 have hw0:∀ L,wIs 1 0 (St.get ⟨A,false,L⟩ lv b)=true:=fun L=>by rw [g0];rfl
 have hw2:∀ L,wIs 1 0 (St.get ⟨A,false,L⟩ lv (b+2))=true:=fun L=>by rw [g2];rfl
 by_cases hh:J3 o
 ·have hS:=fun st=>Zi8 o hh st
  have hG:=fun st=>ZlM o hh st
  rcases Nat.lt_or_ge (o % 65536) r.states.length with hlt|hge
  ·obtain ⟨x,hx⟩:∃ x,r.states[o % 65536]?=some x:=⟨_,List.getElem?_eq_getElem hlt⟩
   obtain ⟨y,hy⟩:∃ x,r.gens[o % 65536]?=some x:=⟨_,List.getElem?_eq_getElem (by omega)⟩
   have q0:(r.states.map (.int .u8))[0+((o % 65536:Nat):Int).toNat]?=some (AV.int .u8 x):=by
    rw [show 0+((o % 65536:Nat):Int).toNat=o % 65536 by omega,List.getElem?_map,hx];rfl
   have q2:(r.gens.map (.int .u64))[0+((o % 65536:Nat):Int).toNat]?=some (AV.int .u64 y):=by
    rw [show 0+((o % 65536:Nat):Int).toNat=o % 65536 by omega,List.getElem?_map,hy];rfl
   by_cases h1:x=1
   ·subst h1
    have e1:ZHK r o=((o % 65536:Nat):Int):=by unfold ZHK;rw [if_pos ⟨hh,hx⟩]
    by_cases h2:((o / 65536:Nat):Int)=y
    ·subst h2
     rw [e1,decide_eq_true (show ZAo r o from ⟨hh,hx,hy⟩)]
     repeat' (first|refine ZE ?_|refine ZD ?_|refine ZG rfl ?_|refine ZJ rfl rfl ?_|refine QE rfl ?_|refine Zn rfl rfl rfl rfl ?_|refine Zt rfl rfl ?_|refine ZB rfl ?_|refine ZC ?_|refine Zm rfl rfl ?_|refine JS rfl ?_|(refine YI rfl rfl (fun _=>?_) (fun _=>?_)<;>try (exfalso;omega))|(refine Zp rfl rfl (fun _=>?_) (fun _=>?_)<;>try (exfalso;omega))|(refine Zj rfl rfl (fun _=>?_) (fun _=>?_)<;>try (exfalso;omega))|refine ZH rfl ?_|refine ZA rfl rfl rfl (hS _) ?_|refine ZA rfl rfl rfl (hG _) ?_|refine Z3 rfl (g3 _) rfl rfl ?_|refine J4 rfl rfl (by omega) (hw0 _) ?_|refine J4 rfl rfl (by omega) (hw2 _) ?_|refine Z3 rfl (g0 _) q0 rfl ?_|refine Z3 rfl (g2 _) q2 rfl ?_|refine ZI ?_|refine ZS ?_|refine ZL ?_)
     all_goals try (exfalso;omega)
     all_goals try contradiction
     all_goals refine Zc hA (by first|exact .inl rfl|exact .inr rfl) rfl rfl rfl rfl ?_
     all_goals rfl
    ·rw [e1,decide_eq_false (show ¬ ZAo r o from fun q=>h2 (by have:=q.2.2;rw [hy] at this;exact (Option.some.inj this).symm))]
     repeat' (first|refine ZE ?_|refine ZD ?_|refine ZG rfl ?_|refine ZJ rfl rfl ?_|refine QE rfl ?_|refine Zn rfl rfl rfl rfl ?_|refine Zt rfl rfl ?_|refine ZB rfl ?_|refine ZC ?_|refine Zm rfl rfl ?_|refine JS rfl ?_|(refine YI rfl rfl (fun _=>?_) (fun _=>?_)<;>try (exfalso;omega))|(refine Zp rfl rfl (fun _=>?_) (fun _=>?_)<;>try (exfalso;omega))|(refine Zj rfl rfl (fun _=>?_) (fun _=>?_)<;>try (exfalso;omega))|refine ZH rfl ?_|refine ZA rfl rfl rfl (hS _) ?_|refine ZA rfl rfl rfl (hG _) ?_|refine Z3 rfl (g3 _) rfl rfl ?_|refine J4 rfl rfl (by omega) (hw0 _) ?_|refine J4 rfl rfl (by omega) (hw2 _) ?_|refine Z3 rfl (g0 _) q0 rfl ?_|refine Z3 rfl (g2 _) q2 rfl ?_|refine ZI ?_|refine ZS ?_|refine ZL ?_)
     all_goals try (exfalso;omega)
     all_goals try contradiction
     all_goals refine Zc hA (by first|exact .inl rfl|exact .inr rfl) rfl rfl rfl rfl ?_
     all_goals rfl
   ·have e1:ZHK r o=0:=by unfold ZHK;rw [if_neg (fun q=>h1 (by have:=q.2;rw [hx] at this;exact Option.some.inj this))]
    rw [e1,decide_eq_false (show ¬ ZAo r o from fun q=>h1 (by have:=q.2.1;rw [hx] at this;exact Option.some.inj this))]
    repeat' (first|refine ZE ?_|refine ZD ?_|refine ZG rfl ?_|refine ZJ rfl rfl ?_|refine QE rfl ?_|refine Zn rfl rfl rfl rfl ?_|refine Zt rfl rfl ?_|refine ZB rfl ?_|refine ZC ?_|refine Zm rfl rfl ?_|refine JS rfl ?_|(refine YI rfl rfl (fun _=>?_) (fun _=>?_)<;>try (exfalso;omega))|(refine Zj rfl rfl (fun _=>?_) (fun _=>?_)<;>try (exfalso;omega))|refine ZV rfl ?_|refine ZA rfl rfl rfl (hS _) ?_|refine Z3 rfl (g3 _) rfl rfl ?_|refine J4 rfl rfl (by omega) (hw0 _) ?_|refine Z3 rfl (g0 _) q0 rfl ?_|refine ZS ?_|refine ZL ?_|refine ZZ ?_)
    all_goals try (exfalso;omega)
    all_goals try contradiction
    all_goals refine Zc hA (by first|exact .inl rfl|exact .inr rfl) rfl rfl rfl rfl ?_
    all_goals rfl
  ·have hn:r.states[o % 65536]?=none:=List.getElem?_eq_none hge
   have e1:ZHK r o=0:=by unfold ZHK;rw [if_neg (fun q=>by rw [hn] at q;simp at q)]
   rw [e1,decide_eq_false (show ¬ ZAo r o from fun q=>by have:=q.2.1;rw [hn] at this;simp at this)]
   repeat' (first|refine ZE ?_|refine ZD ?_|refine ZG rfl ?_|refine ZJ rfl rfl ?_|refine QE rfl ?_|refine Ji rfl rfl ?_|refine Zn rfl rfl rfl rfl ?_|refine Zt rfl rfl ?_|refine ZB rfl ?_|refine ZC ?_|refine Zm rfl rfl ?_|refine JS rfl ?_|(refine YI rfl rfl (fun _=>?_) (fun _=>?_)<;>try (exfalso;omega))|(refine Zj rfl rfl (fun _=>?_) (fun _=>?_)<;>try (exfalso;omega))|refine ZV rfl ?_|refine ZA rfl rfl rfl (hS _) ?_|refine Z3 rfl (g3 _) rfl rfl ?_|refine ZS ?_|refine ZL ?_|refine ZZ ?_)
   all_goals try (exfalso;omega)
   all_goals refine Zc hA (by first|exact .inl rfl|exact .inr rfl) rfl rfl rfl rfl ?_
   all_goals rfl
 ·have hS:=fun st=>Zi9 o ho hh st
  have e1:ZHK r o=0:=by unfold ZHK;rw [if_neg (fun q=>hh q.1)]
  rw [e1,decide_eq_false (show ¬ ZAo r o from fun q=>hh q.1)]
  repeat' (first|refine ZE ?_|refine ZD ?_|refine ZG rfl ?_|refine Ji rfl rfl ?_|refine Zn rfl rfl rfl rfl ?_|refine Zt rfl rfl ?_|refine ZB rfl ?_|refine ZC ?_|(refine Zj rfl rfl (fun _=>?_) (fun _=>?_)<;>try (exfalso;omega))|refine ZV rfl ?_|refine ZA rfl rfl rfl (hS _) ?_|refine ZS ?_|refine ZL ?_|refine ZZ ?_)
  all_goals try (exfalso;omega)
  all_goals try contradiction
  all_goals refine Zc hA (by first|exact .inl rfl|exact .inr rfl) rfl rfl rfl rfl ?_
  all_goals rfl
theorem Zlf {st:St} {lv b:Nat} {r:AR} (h:HasR st lv b r) (hl:r.gens.length=r.states.length) (o:Nat) (ho:o<18446744073709551616) :
 S Tb Yi [.ptr lv (b+3) 0 0 0,.int .u64 o] st=some (.bool (decide (ZAo r o)),st):=by
 refine QF rfl (fun A hA=>?_)
 have hs:=fun L=>ZfP (h.push hA (ro:=false) (L:=L)) hl o ho
 repeat' (first|refine ZE ?_|refine ZD ?_|refine ZG rfl ?_|refine Zt rfl rfl ?_|refine ZB rfl ?_|refine ZC ?_|refine ZH rfl ?_|refine Qb rfl rfl rfl rfl ?_|refine ZA rfl rfl rfl (hs _) ?_|refine ZI ?_|refine ZS ?_|refine ZL ?_)
 refine Zc hA (by first|exact .inl rfl|exact .inr rfl) rfl rfl rfl rfl ?_
 rfl
theorem Zja {st:St} {lv b:Nat} {r:AR} (h:HasR st lv b r) (hl:r.gens.length=r.states.length) (o:Nat) (ho:o<18446744073709551616) :
 S Tb XL [.ptr lv (b+5) 0 0 0,.int .u64 o] st=some (.bool (decide (ZAo r o)),st):=by
 refine QF rfl (fun A hA=>?_)
 have hs:=fun L=>Zlf (h.push hA (ro:=false) (L:=L)) hl o ho
 have g5:=fun L=>ZQ hA (ro:=false) (L:=L) h.h5
 unfold AR.b5 at g5
 repeat' (first|refine ZE ?_|refine ZD ?_|refine ZG rfl ?_|refine ZJ rfl rfl ?_|refine ZB rfl ?_|refine ZC ?_|refine Zm rfl rfl ?_|refine ZH rfl ?_|refine Qb rfl rfl rfl rfl ?_|refine ZA rfl rfl rfl (hs _) ?_|refine Z3 rfl (g5 _) rfl rfl ?_|refine ZI ?_|refine ZS ?_|refine ZL ?_)
 refine Zc hA (by first|exact .inl rfl|exact .inr rfl) rfl rfl rfl rfl ?_
 rfl
theorem AROk.live {r:AR} (h:AROk r) {o:Nat} {x:Nd} (hx:lk r.nodes o=some x):ZAo r o∧o<18446744073709551616:=by
 obtain ⟨s,g,k1,k2,k3,k4⟩:=h.key o x hx
 obtain ⟨h1,h2⟩:=h.hnd hx
 have:=h.n16
 have hm:o % 65536=s:=by omega
 have hd:o / 65536=g:=by omega
 unfold ZAo
 rw [hm,hd]
 refine ⟨⟨h1,k3,k4⟩,?_⟩
 unfold J3 at h1
 omega
end Go.Q15
namespace Go.Q15
open Go Go.QAbs
set_option maxRecDepth 100000
set_option maxHeartbeats 8000000
end Go.Q15
namespace Go.Q15
open Go Go.QAbs
set_option maxRecDepth 100000
set_option maxHeartbeats 16000000
end Go.Q15
namespace Go.Q15
open Go Go.QAbs
set_option maxRecDepth 100000
set_option maxHeartbeats 16000000
theorem RtOk.size {N:ZP} (hN:GoodN N) {r:Ro} (h:RtOk N r) (h1:1≤r.h):(leastB r.h:Int)≤r.m.b:=by
 rcases h with rfl|⟨h0,x,h2,h3,h4,h5⟩
 ·simp [Ro.zero] at h1
 ·have hv:=(Rt.keep (N:=N) (r:=r) ⟨.inr ⟨h0,x,h2,h3,h4,h5⟩,rfl⟩).1
  have hk:Yb r=.keep r:=by unfold Yb;rw [if_neg h0]
  rw [hk] at hv
  rcases hv with q|q
  ·exact absurd q.old h0
  ·have:=q.size hN (fun q=>by simp only [Tr.keep,Tr.h] at q;omega)
   simpa [Tr.keep,Tr.h,Tr.bytes,Tr.bytesO] using this
end Go.Q15
namespace Go.Q15
open Go Go.QAbs
set_option maxRecDepth 100000
set_option maxHeartbeats 16000000
end Go.Q15
namespace Go.Q15
open Go Go.QAbs
set_option maxRecDepth 100000
set_option maxHeartbeats 16000000
theorem guards {texts:List (List UInt8)} {ys:List Ed} (hl:¬ Zdt texts) (hm:¬ ZgU ys):(texts.flatten.length≤900∧texts.length≤4)∧ys.length≤60∧∀ y∈ys,y.text.length≤200:=by
 refine ⟨?_,ZjW hm⟩
 have:=ZjX hl
 rw [List.length_flatten]
 omega
end Go.Q15
namespace Go.Q15
open Go Go.QAbs
set_option maxRecDepth 100000
set_option maxHeartbeats 8000000
def ZH9 (o:Nat):ZP→ZP
 | []=>[]
 | p::l=>if p.1=o then l else p::ZH9 o l
theorem ZfQ (o:Nat):∀ N:ZP,ZPO (.int .u64 o) (N.map nodeAV)=some ((ZH9 o N).map nodeAV):=by
 intro N
 induction N with
 | nil=>rfl
 | cons p l ih =>
  rw [List.map_cons,ZPO,ZH9]
  have hk:ZSL (.int .u64 (o:Int)) (nodeAV p).1=some (decide ((o:Int)=p.1)):=by
   simp only [nodeAV,ZSL,if_true];congr 1
  rw [hk,oS]
  by_cases q:p.1=o
  ·rw [if_pos (by simp [q]),if_pos q]
  ·rw [if_neg (by simp;omega),if_neg q,ih];rfl
theorem Zjb {o h:Nat} (hne:h≠o):∀ N:ZP,lk (ZH9 o N) h=lk N h
 | []=>rfl
 | p::l=>by
  rw [ZH9]
  by_cases q:p.1=o
  ·rw [if_pos q,lk,if_neg (by omega)]
  ·rw [if_neg q,lk,lk,Zjb hne l]
theorem ZgV {o:Nat} {x:Nd}:∀ {N:ZP},lk N o=some x→(ZH9 o N).length+1=N.length
 | [],h=>by simp [lk] at h
 | p::l,h=>by
  rw [ZH9]
  by_cases q:p.1=o
  ·rw [if_pos q];rfl
  ·rw [if_neg q]
   rw [lk,if_neg q] at h
   have:=ZgV h
   simp only [List.length_cons];omega
def AR.give (r:AR) (o:Nat):AR :=
 if r.gens[o % 65536]?=some r.most then { r with states:=r.states.set (o % 65536) 2 }
 else { r with gens:=r.gens.set (o % 65536) ((o / 65536:Nat)+1),states:=r.states.set (o % 65536) 0,blk:=r.blk.take r.n++[((o % 65536:Nat):Int)],n:=r.n+1,ver:=r.ver+1 }
def AR.del (r:AR) (o:Nat):AR:={ r.give o with nodes:=ZH9 o r.nodes,frees:=r.frees+1 }
theorem Zjc {st:St} {lv b:Nat} {r:AR} (h:Has st lv b r) (hl:r.gens.length=r.states.length) (hn:r.n≤r.blk.length) (hb:r.n<65536) {o:Nat} (hv:ZAo r o) (hm:((o / 65536:Nat):Int)≤r.most) (hm4:r.most≤4294967295) :
 ∃ z,S Tb Jq [.ptr lv (b+3) 0 0 0,.int .u64 o] st=some (.tup [.bool z,.int .i64 0],QJ st lv b (r.give o)):=by
 have ho:o<18446744073709551616:=by have:=hv.1;unfold J3 at this;omega
 have hs0:ZHK r o=((o % 65536:Nat):Int):=by unfold ZHK;rw [if_pos ⟨hv.1,hv.2.1⟩]
 have hst:=(List.getElem?_eq_some_iff.1 hv.2.1).1
 have hle:=h.le
 have H:=h.cl
 have hks:=ZJc lv b
 have q0:(r.states.map (.int .u8))[0+((o % 65536:Nat):Int).toNat]?=some (AV.int .u8 1):=by
  rw [show 0+((o % 65536:Nat):Int).toNat=o % 65536 by omega,List.getElem?_map,hv.2.1];rfl
 have q2:(r.gens.map (.int .u64))[0+((o % 65536:Nat):Int).toNat]?=some (AV.int .u64 ((o / 65536:Nat):Int)):=by
  rw [show 0+((o % 65536:Nat):Int).toNat=o % 65536 by omega,List.getElem?_map,hv.2.2];rfl
 have eZ:0+((o % 65536:Nat):Int).toNat=o % 65536:=by omega
 by_cases hmost:((o / 65536:Nat):Int)=r.most
 ·refine ⟨true,Xs rfl (fun A hA=>?_)⟩
  have hsl:=fun L=>ZfP (h.r.push hA (ro:=false) (L:=L)) hl o ho
  rw [hs0,decide_eq_true hv] at hsl
  have g3:=fun L=>ZQ hA (ro:=false) (L:=L) h.h3
  have g0:=fun L=>ZQ hA (ro:=false) (L:=L) h.h0
  have g2:=fun L=>ZQ hA (ro:=false) (L:=L) h.h2
  unfold AR.b3 at g3
  unfold AR.b0 at g0
  unfold AR.b2 at g2
  have hw0:∀ L,wIs 1 0 (St.get ⟨A,false,L⟩ lv b)=true:=fun L=>by rw [g0];rfl
  have hw2:∀ L,wIs 1 0 (St.get ⟨A,false,L⟩ lv (b+2))=true:=fun L=>by rw [g2];rfl
  have hA':A=(Q9 st (arK lv b) (arB lv b r)).ps:=by rw [H.same];exact hA
  have hmem:((o % 65536:Nat):Int)<r.gens.length:=by omega
  repeat' (first|refine ZE ?_|refine ZD ?_|refine ZG rfl ?_|refine ZJ rfl rfl ?_|refine Zt rfl rfl ?_|refine ZB rfl ?_|refine ZC ?_|refine Zm rfl rfl ?_|(refine Zp rfl rfl (fun _=>?_) (fun _=>?_)<;>try (exfalso;omega))|refine ZV rfl ?_|refine ZH rfl ?_|refine Jd rfl rfl ?_|refine Qb rfl rfl rfl rfl ?_|refine ZA rfl rfl rfl (hsl _) ?_|refine Z3 rfl (g3 _) rfl rfl ?_|refine J4 rfl rfl (by omega) (hw0 _) ?_|refine J4 rfl rfl (by omega) (hw2 _) ?_|refine Z3 rfl (g2 _) q2 rfl ?_|refine ZI ?_)
  all_goals try contradiction
  all_goals try (exfalso;omega)
  refine ZJZ H hA' rfl rfl (j:=0) rfl rfl rfl rfl q0 rfl rfl (fun A1 hA1 _=>?_)
  repeat' (first|refine ZE ?_|refine ZD ?_|refine ZG rfl ?_|refine ZB rfl ?_|refine ZC ?_|refine ZS ?_|refine ZL ?_|refine ZZ ?_)
  have e:(arB lv b r).set 0 (Blk.arr 1 0 ((r.states.map (AV.int .u8)).set (0+((o % 65536:Nat):Int).toNat) (.int .u8 2)))=arB lv b (r.give o):=by
   unfold AR.give
   rw [if_pos (by rw [hv.2.2,hmost]),eZ]
   simp [arB,AR.b0,AR.b1,AR.b2,AR.b3,AR.b4,AR.b5,List.map_set]
  rw [e] at hA1
  refine Zc hA1 (.inr rfl) rfl rfl rfl rfl ?_
  rfl
 ·refine ⟨false,Xs rfl (fun A hA=>?_)⟩
  have hsl:=fun L=>ZfP (h.r.push hA (ro:=false) (L:=L)) hl o ho
  rw [hs0,decide_eq_true hv] at hsl
  have g3:=fun L=>ZQ hA (ro:=false) (L:=L) h.h3
  have g2:=fun L=>ZQ hA (ro:=false) (L:=L) h.h2
  unfold AR.b3 at g3
  unfold AR.b2 at g2
  have hw2:∀ L,wIs 1 0 (St.get ⟨A,false,L⟩ lv (b+2))=true:=fun L=>by rw [g2];rfl
  have hA':A=(Q9 st (arK lv b) (arB lv b r)).ps:=by rw [H.same];exact hA
  have hmem:((o % 65536:Nat):Int)<r.gens.length:=by omega
  have hwr:IntKind.u64.wrap (((o / 65536:Nat):Int)+1)=((o / 65536:Nat):Int)+1:=by
   rw [show ((o / 65536:Nat):Int)+1=((o / 65536+1:Nat):Int) by omega];exact ZLo (by omega)
  repeat' (first|refine ZE ?_|refine ZD ?_|refine ZG rfl ?_|refine ZJ rfl rfl ?_|refine Zt rfl rfl ?_|refine ZB rfl ?_|refine ZC ?_|refine Zm rfl rfl ?_|(refine Zp rfl rfl (fun _=>?_) (fun _=>?_)<;>try (exfalso;omega))|refine ZH rfl ?_|refine Jd rfl rfl ?_|refine Qb rfl rfl rfl rfl ?_|refine ZA rfl rfl rfl (hsl _) ?_|refine Z3 rfl (g3 _) rfl rfl ?_|refine J4 rfl rfl (by omega) (hw2 _) ?_|refine Z3 rfl (g2 _) q2 rfl ?_|refine Zig rfl rfl ?_|refine ZI ?_)
  all_goals try contradiction
  all_goals try (exfalso;omega)
  rw [hwr]
  skip
  refine ZJZ H hA' rfl rfl (j:=2) rfl rfl rfl rfl q2 rfl rfl (fun A1 hA1 _=>?_)
  have k3:=fun L=>H.old hA1 rfl rfl (ro:=false) (L:=L) (j:=3) rfl rfl
  have k0:=fun L=>H.old hA1 rfl rfl (ro:=false) (L:=L) (j:=0) rfl rfl
  have hw0:∀ L,wIs 1 0 (St.get ⟨A1,false,L⟩ lv b)=true:=fun L=>by rw [k0];rfl
  unfold AR.b3 at k3
  repeat' (first|refine ZE ?_|refine ZD ?_|refine ZG rfl ?_|refine ZJ rfl rfl ?_|refine ZB rfl ?_|refine ZC ?_|refine Zm rfl rfl ?_|refine Z3 rfl (k3 _) rfl rfl ?_|refine J4 rfl rfl (by omega) (hw0 _) ?_)
  refine ZJZ H hA1 rfl rfl (j:=0) rfl rfl rfl rfl q0 rfl rfl (fun A2 hA2 _=>?_)
  have k3:=fun L=>H.old hA2 rfl rfl (ro:=false) (L:=L) (j:=3) rfl rfl
  unfold AR.b3 at k3
  repeat' (first|refine ZE ?_|refine ZD ?_|refine ZG rfl ?_|refine ZJ rfl rfl ?_|refine ZB rfl ?_|refine ZC ?_|refine Zm rfl rfl ?_|refine Qw rfl rfl rfl rfl ?_|refine Z3 rfl (k3 _) rfl rfl ?_)
  refine ZjZ H hA2 rfl rfl (j:=1) rfl rfl (by rw [List.length_map];exact hn) rfl rfl rfl rfl rfl (by simp;omega) (by decide) (fun A3 hA3 _=>?_)
  repeat' (first|refine ZJ rfl rfl ?_|refine Zm rfl rfl ?_)
  refine ZJZ H hA3 rfl rfl (j:=3) rfl rfl rfl rfl rfl (JF _ (Nat.lt_succ_self _)) rfl (fun A4 hA4 _=>?_)
  repeat' (first|refine ZE ?_|refine ZD ?_|refine ZG rfl ?_|refine ZB rfl ?_|refine ZC ?_|refine ZS ?_|refine ZL ?_)
  have e:((((arB lv b r).set 2 (Blk.arr 1 0 ((r.gens.map (AV.int .u64)).set (0+((o % 65536:Nat):Int).toNat) (.int .u64 (((o / 65536:Nat):Int)+1))))).set 0 (Blk.arr 1 0 ((r.states.map (AV.int .u8)).set (0+((o % 65536:Nat):Int).toNat) (.int .u8 0)))).set 1 (Blk.arr 1 (r.ver+1) ((r.blk.map (AV.int .i64)).take r.n++[AV.int .i64 ((o % 65536:Nat):Int)]))).set 3 (Blk.arr 4 0 ([AV.agg [.ref lv (b+1) r.ver 0 r.n,.ref lv b 0 0 r.states.length,.ref lv (b+2) 0 0 r.gens.length,.int .u64 r.most]].set 0 (.agg [.ref lv (b+1) (r.ver+1) 0 (r.n+1),.ref lv b 0 0 r.states.length,.ref lv (b+2) 0 0 r.gens.length,.int .u64 r.most])))=arB lv b (r.give o):=by
   unfold AR.give
   rw [if_neg (by rw [hv.2.2];exact fun q=>hmost (Option.some.inj q)),eZ]
   simp [arB,AR.b0,AR.b1,AR.b2,AR.b3,AR.b4,AR.b5,List.map_set,List.map_take]
  replace hA4:A4=(Q9 st (arK lv b) (arB lv b (r.give o))).ps:=by rw [← e];exact hA4
  refine Zc hA4 (.inr rfl) rfl rfl rfl rfl ?_
  rfl
end Go.Q15
namespace Go.Q15
open Go Go.QAbs
set_option maxRecDepth 100000
set_option maxHeartbeats 8000000
theorem ZOl (r:AR) (o:Nat):(r.give o).nodes=r.nodes∧(r.give o).slots=r.slots∧(r.give o).allocs=r.allocs∧(r.give o).frees=r.frees∧(r.give o).stale=r.stale∧(r.give o).most=r.most∧(r.give o).states.length=r.states.length∧(r.give o).gens.length=r.gens.length:=by
 unfold AR.give
 split<;>simp
theorem Zlg {st:St} {lv b:Nat} {r:AR} (h:Has st lv b r) (hl:r.gens.length=r.states.length) (hn:r.n≤r.blk.length) (hb:r.n<65536) {o:Nat} (hv:ZAo r o) (hm:((o / 65536:Nat):Int)≤r.most) (hm4:r.most≤4294967295) (hf:0≤r.frees∧r.frees<4294967296) :
 S Tb XN [.ptr lv (b+5) 0 0 0,.int .u64 o] st=some (.int .i64 0,QJ st lv b (r.del o)):=by
 refine Xs rfl (fun A hA=>?_)
 have hle:=h.le
 have g5:=fun L=>ZQ hA (ro:=false) (L:=L) h.h5
 unfold AR.b5 at g5
 obtain ⟨z,hG0⟩:=Zjc h hl hn hb hv hm hm4
 have hG:∀ L,∃ z,S Tb Jq [.ptr lv (b+3) 0 0 0,.int .u64 o] ⟨A,false,L⟩=some (.tup [.bool z,.int .i64 0],QJ ⟨A,false,L⟩ lv b (r.give o)):=fun L=>Zjc (h.push hA) hl hn hb hv hm hm4
 obtain ⟨z,hG⟩:=hG []
 have H:=(h.put (r.give o)).cl
 obtain ⟨e1,e2,e3,e4,e5,e6,e7,e8⟩:=ZOl r o
 have hdel:=ZfQ o r.nodes
 repeat' (first|refine ZE ?_|refine ZD ?_|refine ZG rfl ?_|refine ZJ rfl rfl ?_|refine Zt rfl rfl ?_|refine ZB rfl ?_|refine ZC ?_|refine Zm rfl rfl ?_|(refine Zj rfl rfl (fun _=>?_) (fun _=>?_)<;>try (exfalso;omega))|refine ZH rfl ?_|refine Qb rfl rfl rfl rfl ?_|refine Z3 rfl (g5 _) rfl rfl ?_|refine ZA rfl rfl rfl (hG) ?_|refine ZI ?_)
 rw [Yw hA hle]
 obtain ⟨A1,hA1⟩:∃ A1,A1=(QJ st lv b (r.give o)).ps:=⟨_,rfl⟩
 rw [← hA1]
 replace hA1:A1=(Q9 (QJ st lv b (r.give o)) (arK lv b) (arB lv b (r.give o))).ps:=by rw [H.same];exact hA1
 have k5:=fun L=>H.old hA1 rfl rfl (ro:=false) (L:=L) (j:=5) rfl rfl
 unfold AR.b5 at k5
 rw [e2,e3,e4,e5] at k5
 have hb4:(arB lv b (r.give o))[4]?=some (.map (r.nodes.map nodeAV)):=by rw [← e1];rfl
 repeat' (first|refine ZG rfl ?_|refine Z3 rfl (k5 _) rfl rfl ?_)
 all_goals try contradiction
 refine ZjY H hA1 rfl rfl (j:=4) rfl hb4 rfl rfl rfl hdel (fun A2 hA2 _=>?_)
 have k5:=fun L=>H.old hA2 rfl rfl (ro:=false) (L:=L) (j:=5) rfl rfl
 unfold AR.b5 at k5
 rw [e2,e3,e4,e5] at k5
 have hb5:((arB lv b (r.give o)).set 4 (.map ((ZH9 o r.nodes).map nodeAV)))[5]?=some (.arr 6 0 [.agg [.int .i64 r.slots,.ptr lv (b+3) 0 0 0,.map lv (b+4),.int .i64 r.allocs,.int .i64 r.frees,.int .i64 r.stale]]):=by
  rw [← e2,← e3,← e4,← e5];rfl
 repeat' (first|refine ZE ?_|refine ZD ?_|refine ZG rfl ?_|refine ZJ rfl rfl ?_|refine ZB rfl ?_|refine ZC ?_|refine Zm rfl rfl ?_|refine Zo rfl rfl (by omega) ?_|refine Z3 rfl (k5 _) rfl rfl ?_)
 refine ZJZ H hA2 rfl rfl (j:=5) rfl hb5 rfl rfl rfl rfl rfl (fun A3 hA3 _=>?_)
 repeat' (first|refine ZE ?_|refine ZD ?_|refine ZG rfl ?_|refine ZB rfl ?_|refine ZC ?_|refine ZS ?_|refine ZL ?_)
 have e:((arB lv b (r.give o)).set 4 (Blk.map ((ZH9 o r.nodes).map nodeAV))).set 5 (Blk.arr 6 0 ([AV.agg [.int .i64 r.slots,.ptr lv (b+3) 0 0 0,.map lv (b+4),.int .i64 r.allocs,.int .i64 r.frees,.int .i64 r.stale]].set 0 (.agg [.int .i64 r.slots,.ptr lv (b+3) 0 0 0,.map lv (b+4),.int .i64 r.allocs,.int .i64 (r.frees+1),.int .i64 r.stale])))=arB lv b (r.del o):=by
  unfold AR.del
  rw [← e2,← e3,← e4,← e5]
  rfl
 replace hA3:A3=(QJ st lv b (r.del o)).ps:=by
  rw [← ZOg (r1:=r.give o)]
  show A3=(Q9 (QJ st lv b (r.give o)) (arK lv b) (arB lv b (r.del o))).ps
  rw [← e];exact hA3
 refine Zc hA3 (.inr rfl) rfl rfl rfl rfl ?_
 rfl
end Go.Q15
namespace Go.Q15
open Go Go.QAbs
set_option maxRecDepth 100000
set_option maxHeartbeats 8000000
theorem ZY3 (l:List Int) (s:Int):∀ n,n≤l.length→(YN l s n).length=(l.take n).countP (· == s):=by
 intro n
 induction n with
 | zero=>intro _;rfl
 | succ n ih =>
  intro h
  obtain ⟨x,hx⟩:∃ x,l[n]?=some x:=⟨_,List.getElem?_eq_getElem (by omega)⟩
  rw [ZLz,lL,ih (by omega),Zg hx,List.countP_append,hx]
  by_cases q:x=s
  ·subst q;simp
  ·rw [if_neg (fun e=>q (Option.some.inj e))];simp [q]
theorem ZMA (l:List Int) (s:Int):(Jk l s).length=l.countP (· == s):=by
 unfold Jk;rw [ZY3 l s _ (Nat.le_refl _),List.take_length]
structure FOk (r:AR) (l:List Nat):Prop where
 gl:r.gens.length=r.states.length
 nb:r.n≤r.blk.length
 n16:r.states.length≤16384
 live:∀ o∈l,ZAo r o∧((o / 65536:Nat):Int)≤r.most∧∃ x,lk r.nodes o=some x
 nd:l.Nodup
 most:r.most≤4294967295
 fr:0≤r.frees∧r.frees+l.length<4294967296
 nn:r.n+l.length≤65000
theorem AROk.fok {r:AR} (h:AROk r) {l:List Nat} (hnd:l.Nodup) (hl:∀ o∈l,∃ x,lk r.nodes o=some x) (hb:l.length≤40000):FOk r l:=by
 have h1:=h.fr
 have h2:=h.nn
 have h3:=h.n16
 refine ⟨h.gl,h.nb,h.n16,fun o ho=>?_,hnd,h.most,by omega,by omega⟩
 obtain ⟨x,hx⟩:=hl o ho
 obtain ⟨s,g,k1,k2,k3,k4⟩:=h.key o x hx
 obtain ⟨g',j1,j2,j3⟩:=h.gen s k2
 rw [k4] at j1
 have e:(g:Int)=g':=Option.some.inj j1
 have:o / 65536=g:=by omega
 exact ⟨(h.live hx).1,by rw [this];omega,x,hx⟩
def ZZy (r:AR) (o:Nat):Prop:=r.states[o % 65536]?≠some 1
theorem ZfR {r:AR} {o:Nat} (i:Nat):(r.del o).states[i]?=some 1→i≠o % 65536∧r.states[i]?=some 1:=by
 intro h
 have key:∀ z:Int,z≠1→(r.states.set (o % 65536) z)[i]?=some 1→i≠o % 65536∧r.states[i]?=some 1:=by
  intro z hz q
  by_cases e:i=o % 65536
  ·subst e
   rw [List.getElem?_set] at q
   rw [if_pos rfl] at q
   split at q
   ·exact absurd (Option.some.inj q) hz
   ·simp at q
  ·rw [List.getElem?_set_ne (fun w=>e w.symm)] at q
   exact ⟨e,q⟩
 unfold AR.del AR.give at h
 split at h
 ·exact key 2 (by decide) h
 ·exact key 0 (by decide) h
theorem Zdv {r:AR} {o p:Nat} (h:ZZy r p∨p=o):ZZy (r.del o) p:=by
 intro q
 obtain ⟨q1,q2⟩:=ZfR _ q
 rcases h with h|h
 ·exact h q2
 ·subst h;exact q1 rfl
theorem FOk.del {r:AR} {o:Nat} {l:List Nat} (h:FOk r (o::l)):FOk (r.del o) l ∧
 (r.del o).n+(Jk (r.del o).states 2).length=r.n+(Jk r.states 2).length+1∧(r.del o).nodes.length+1=r.nodes.length:=by
 obtain ⟨hv,hm,x,hx⟩:=h.live o (by simp)
 have hst:=(List.getElem?_eq_some_iff.1 hv.2.1).1
 have hs1:=(List.getElem?_eq_some_iff.1 hv.2.1).2
 obtain ⟨e1,e2,e3,e4,e5,e6,e7,e8⟩:=ZOl r o
 have hnd:=List.nodup_cons.1 h.nd
 have f1:=h.fr
 have f2:=h.nn
 have f3:=h.nb
 rw [List.length_cons] at f1 f2
 have hn:((r.del o).n=r.n∨(r.del o).n=r.n+1)∧(r.del o).n≤(r.del o).blk.length:=by
  unfold AR.del AR.give
  split
  ·exact ⟨.inl rfl,f3⟩
  ·exact ⟨.inr rfl,by simp;omega⟩
 refine ⟨⟨?_,hn.2,?_,fun p hp=>?_,hnd.2,?_,?_,?_⟩,?_,?_⟩
 ·show (r.give o).gens.length=(r.give o).states.length;rw [e7,e8];exact h.gl
 ·show (r.give o).states.length≤_;rw [e7];exact h.n16
 ·obtain ⟨pv,pm,y,hy⟩:=h.live p (List.mem_cons_of_mem _ hp)
  have hne:p≠o:=fun e=>hnd.1 (e▸hp)
  have hsl:p % 65536≠o % 65536:=fun e=>by
   have a:=pv.2.2
   have c:=hv.2.2
   rw [e,c] at a
   have:o / 65536=p / 65536:=by have:=Option.some.inj a;omega
   omega
  refine ⟨⟨pv.1,?_,?_⟩,?_,y,?_⟩
  ·show (r.give o).states[p % 65536]?=_
   unfold AR.give;split
   ·rw [List.getElem?_set_ne (fun w=>hsl w.symm)];exact pv.2.1
   ·rw [List.getElem?_set_ne (fun w=>hsl w.symm)];exact pv.2.1
  ·show (r.give o).gens[p % 65536]?=_
   unfold AR.give;split
   ·exact pv.2.2
   ·rw [List.getElem?_set_ne (fun w=>hsl w.symm)];exact pv.2.2
  ·show _≤(r.give o).most;rw [e6];exact pm
  ·show lk (ZH9 o r.nodes) p=some y;rw [Zjb hne];exact hy
 ·show (r.give o).most≤_;rw [e6];exact h.most
 ·show 0≤r.frees+1∧r.frees+1+l.length<_;omega
 ·have:=hn.1;omega
 ·rw [ZMA,ZMA]
  unfold AR.del AR.give
  split
  ·show r.n+(r.states.set (o % 65536) 2).countP (· == 2)=_
   rw [List.countP_set hst,hs1]
   simp
   omega
  ·show r.n+1+(r.states.set (o % 65536) 0).countP (· == 2)=_
   rw [List.countP_set hst,hs1]
   simp
   omega
 ·exact ZgV hx
def ZBH (r:AR) (l:List Nat):AR:=l.foldl AR.del r
theorem ZZz (r:AR) (l:List Nat) (o:Nat):ZBH r (l++[o])=(ZBH r l).del o:=by unfold ZBH;rw [List.foldl_append];rfl
theorem FOk.dels:∀ {l:List Nat} {r:AR} {l2:List Nat},FOk r (l++l2)→FOk (ZBH r l) l2∧(ZBH r l).n+(Jk (ZBH r l).states 2).length=r.n+(Jk r.states 2).length+l.length∧(ZBH r l).nodes.length+l.length=r.nodes.length∧∀ o,ZZy r o∨o∈l→ZZy (ZBH r l) o:=by
 intro l
 induction l with
 | nil=>intro r l2 h;exact ⟨h,rfl,rfl,fun o q=>q.elim id fun w=>by simp at w⟩
 | cons a l ih =>
  intro r l2 h
  obtain ⟨h1,h2,h3⟩:=FOk.del h
  obtain ⟨i1,i2,i3,i4⟩:=ih h1
  refine ⟨i1,?_,?_,fun o q=>?_⟩
  ·show (ZBH (r.del a) l).n+(Jk (ZBH (r.del a) l).states 2).length=_
   rw [List.length_cons];omega
  ·show (ZBH (r.del a) l).nodes.length+_=_
   rw [List.length_cons];omega
  ·refine i4 o ?_
   rcases q with q|q
   ·exact .inl (Zdv (.inl q))
   ·rcases List.mem_cons.1 q with rfl|q
    ·exact .inl (Zdv (.inr rfl))
    ·exact .inr q
end Go.Q15
namespace Go.Q15
open Go Go.QAbs
set_option maxRecDepth 100000
set_option maxHeartbeats 16000000
theorem Zdw:∀ (n:Nat) (l:List Nat),l.Nodup→(∀ x∈l,x<n)→l.length≤n:=by
 intro n
 induction n with
 | zero=>intro l _ h;cases l with
  | nil=>exact Nat.le_refl _
  | cons a l=>have:=h a (by simp);omega
 | succ n ih =>
  intro l hd h
  by_cases hm:n∈l
  ·have := ih (l.erase n) (hd.erase n) (fun x hx => by
    have h1:=h x (List.mem_of_mem_erase hx)
    have h2:x≠n:=fun e=>by subst e;exact hd.not_mem_erase hx
    omega)
   rw [List.length_erase_of_mem hm] at this
   omega
  ·have := ih l hd (fun x hx => by
    have h1:=h x hx
    have h2:x≠n:=fun e=>hm (e▸hx)
    omega)
   omega
theorem AROk.few {r:AR} (h:AROk r) {l:List Nat} (hd:l.Nodup) (hl:∀ o∈l,∃ x,lk r.nodes o=some x):l.length≤16384:=by
 have h16:=h.n16
 have key:∀ o∈l,ZAo r o:=fun o ho=>by obtain ⟨x,hx⟩:=hl o ho;exact (h.live hx).1
 have h1:(l.map (· % 65536)).Nodup:=by
  unfold List.Nodup at hd ⊢
  rw [List.pairwise_map]
  refine hd.imp_of_mem (fun {p o} hp ho hne e=>hne ?_)
  have a:=(key p hp).2.2
  have c:=(key o ho).2.2
  rw [e,c] at a
  have:=Option.some.inj a
  omega
 have:=Zdw r.states.length _ h1 (fun x hx=>by
  obtain ⟨o,ho,rfl⟩:=List.mem_map.1 hx
  exact (List.getElem?_eq_some_iff.1 (key o ho).2.1).1)
 rw [List.length_map] at this
 omega
end Go.Q15
namespace Go.Q15
open Go Go.QAbs
set_option maxRecDepth 100000
set_option maxHeartbeats 16000000
end Go.Q15
namespace Go.Q15
open Go Go.QAbs
set_option maxRecDepth 100000
set_option maxHeartbeats 16000000
structure MkInv (r:AR) (ros:List Ro) (ss:List (List UInt8)) (n:Nat) (B:Nat):Prop where
 ok:AROk r
 good:GoodN r.nodes
 rts:Rts r.nodes ros ss
 len:ros.length=n
 n20:n≤20
 small:∀ s∈ss,s.length≤B
 nl:r.nodes.length+r.n=1500
theorem MkInv.plan {r:AR} {ros:List Ro} {ss:List (List UInt8)} {n B:Nat} (h:MkInv r ros ss n B) (hB:B≤60000):PlanOk r.nodes ros:=h.rts.plan h.good (by have:=h.len;have:=h.n20;omega) (fun s hs=>by have:=h.small s hs;omega)
theorem MkInv.mb {r:AR} {ros:List Ro} {ss:List (List UInt8)} {n B:Nat} (h:MkInv r ros ss n B):∀ ro∈ros,ro.m.b≤(B:Int):=by
 intro ro hr
 obtain ⟨i,hi,rfl⟩:=List.getElem_of_mem hr
 have hi2:i<ss.length:=by rw [← h.rts.1];exact hi
 have g:=h.rts.2 i _ _ (List.getElem?_eq_getElem hi) (List.getElem?_eq_getElem hi2)
 have:=(g.b h.good).2
 have:=h.small _ (List.getElem_mem hi2)
 omega
end Go.Q15
namespace Go.Q15
open Go Go.QAbs
set_option maxRecDepth 100000
set_option maxHeartbeats 8000000
end Go.Q15
namespace Go.Q15
open Go Go.QAbs
set_option maxRecDepth 100000
set_option maxHeartbeats 8000000
end Go.Q15
namespace Go.Q15
open Go Go.QAbs
set_option maxRecDepth 100000
set_option maxHeartbeats 8000000
def bel (N:ZP):Nat→Nat→List Nat→List Nat
 | 0,h,s=>if h∈s then s else s++[h]
 | n+1,h,s=>if h∈s then s else (ZR5 N h).ks.foldl (fun s k=>bel N n k.at_ s) (s++[h])
structure Visit (τ:List Nat→List Nat→St) (lm mx:Nat) (g:FuncId) (caps:List AV):Prop where
 len:∀ u w u' w',(τ u w).ps.length=(τ u' w').ps.length
 wr:∀ u w,(τ u w).wr lm
 get:∀ u w,(τ u w).get lm mx=some (.map (JP u))
 upd:∀ u w v,(τ u w).upd lm mx (.map (JP v))=τ v w
 call:∀ u w h more L,w.length<1000000000→∃ v,S Tb g ([.int .u64 (h:Nat)]++caps) ⟨(τ u w).ps++more,false,L⟩=some (v,⟨(τ u (w++[h])).ps++more,false,L⟩)
 wk:∀ h:Nat,ZX (Zf ([]++[.int .u64 (h:Nat)]++caps))=some ([.int .u64 (h:Nat)]++caps)
 wk2:∀ la b h:Nat,ZX (Zf ([]++[.ptr la b 0 0 0,.int .u64 (h:Nat),.map lm mx,.func (.func g) [] caps]++[]))=some [.ptr la b 0 0 0,.int .u64 (h:Nat),.map lm mx,.func (.func g) [] caps]
theorem Zjd {O:Orc} {k:List Fr} {Q:Yg} {e:Env} {L:List Blk} {keep:List Nat} {is:List QAbs.PI} {s0:St} {more:List (Bool × List Blk)} {x i v:Opd} {lv ix h:Nat} {w:AV} {es es':List (AV × AV)} (hx:Za e x=some (.map lv ix)) (hi:Za e i=some (.int .u64 h)) (hv:Za e v=some w) (hw:s0.wr lv) (hg:s0.get lv ix=some (.map es))
 (hs:ZW QA (lv+1) ⟨s0.ps++more,false,L⟩ w=some (w,⟨s0.ps++more,false,L⟩)) (hp:ZFl (.int .u64 h) w es=some es')
 (hh:Is O is keep k Q e ⟨(s0.upd lv ix (.map es')).ps++more,false,L⟩):Is O (⟨none,none,false,.mupd 0 x i v⟩::is) keep k Q e ⟨s0.ps++more,false,L⟩:=by
 have hl:=St.get_le hg
 have g':=ZBN hg more false L
 have w':=ZgQ hl hw more false L
 refine Z2 (od:=none) (v:=.undef) (st':=St.upd ⟨s0.ps++more,false,L⟩ lv ix (.map es')) ?_ ?_
 ·simp only [Zb,evalPO,ZF hx,ZF hi,ZF hv,ZJj,YO,if_true,hs,oS,ZOp,g',ZJi,hp,St.put_upd w' g',ZA2]
 ·rw [Zdp hl];exact hh
theorem Zdx {N:ZP} {n P:Nat} (ih:∀ (h:Nat) (s:List Nat) (x:Nd),lk N h=some x→x.h=n→3*(bel N n h s).length+1≤3*s.length+P):∀ (ks:List Kid) (s:List Nat),(∀ k∈ks,∃ y,lk N k.at_=some y∧y.h=n)→3*(ks.foldl (fun s k=>bel N n k.at_ s) s).length+ks.length≤3*s.length+ks.length*P:=by
 intro ks
 induction ks with
 | nil=>intro s _;simp
 | cons k l ihl =>
  intro s hk
  rw [List.foldl_cons]
  obtain ⟨y,y1,y2⟩:=hk k (by simp)
  have a1:=ih k.at_ s y y1 y2
  have a2:=ihl (bel N n k.at_ s) (fun z hz=>hk z (List.mem_cons_of_mem _ hz))
  rw [List.length_cons,Nat.add_mul]
  omega
theorem Zlh {N:ZP} (hN:GoodN N):∀ (n h:Nat) (s:List Nat) (x:Nd),lk N h=some x→x.h=n→3*(bel N n h s).length+1≤3*s.length+4 ^ (n+1):=by
 intro n
 induction n with
 | zero =>
  intro h s x hx hh
  rw [bel]
  split
  ·omega
  ·rw [lL];simp;omega
 | succ n ih =>
  intro h s x hx hh
  rw [bel,Xw hx]
  have hp:4 ^ (n+1+1)=4*4 ^ (n+1):=by rw [Nat.pow_succ];omega
  have h1:0<4 ^ (n+1):=Nat.pow_pos (by decide)
  split
  ·omega
  ·have hk4:=(hN h x hx).1.len
   have hkids:=(hN h x hx).2
   have:=Zdx ih x.ks (s++[h]) (fun k hk=>by obtain ⟨_,y,y1,y2,_⟩:=hkids k hk;exact ⟨y,y1,by omega⟩)
   rw [lL,List.length_singleton] at this
   have h3:(4-x.ks.length)*4 ^ (n+1)+x.ks.length*4 ^ (n+1)=4*4 ^ (n+1):=by rw [← Nat.add_mul];congr 1;omega
   have h4:(4-x.ks.length)*1≤(4-x.ks.length)*4 ^ (n+1):=Nat.mul_le_mul_left _ h1
   generalize 4 ^ (n+1)=P at *
   generalize (4-x.ks.length)*P=P1 at *
   generalize x.ks.length*P=P2 at *
   omega
theorem ZWg {τ:List Nat→List Nat→St} {lm mx:Nat} {g:FuncId} {caps:List AV} (hV:Visit τ lm mx g caps) {N:ZP} {la b:Nat} (hR:∀ u w,Rd (τ u w) la (b+5) N) {h:Nat} {x:Nd} (hx:lk N h=some x) (hk4:x.ks.length≤4) (s:List Nat) (hs:h∉s) (f:Kid→List Nat→List Nat) {B:Nat} (hB:B≤900000000)
 (hlen:∀ i,((x.ks.take i).foldl (fun s k=>f k s) (s++[h])).length≤B)
 (hf:∀ k∈x.ks,∀ (s:List Nat) (more:List (Bool × List Blk)) (L:List Blk),s.length≤B→S Tb JD [.ptr la (b+5) 0 0 0,.int .u64 k.at_,.map lm mx,.func (.func g) [] caps] ⟨(τ s s).ps++more,false,L⟩=some (.int .i64 0,⟨(τ (f k s) (f k s)).ps++more,false,L⟩))
 {more:List (Bool × List Blk)} {st st':St} (hst:st.ps=(τ s s).ps++more) (hst':st'.ps=(τ (x.ks.foldl (fun s k=>f k s) (s++[h])) (x.ks.foldl (fun s k=>f k s) (s++[h]))).ps++more) :
 S Tb JD [.ptr la (b+5) 0 0 0,.int .u64 h,.map lm mx,.func (.func g) [] caps] st=some (.int .i64 0,st'):=by
 refine Xs rfl (fun A hA=>?_)
 have hA2:A=(τ s s).ps++more:=hA.trans hst
 clear hA
 subst hA2
 have hlk:=fun L=>ZCj (ZBN (hV.get s s) more false L) h
 simp only [decide_eq_false hs] at hlk
 have hl0:=hlen 0
 simp only [List.take_zero,List.foldl_nil,lL,List.length_singleton] at hl0
 repeat' (first|refine ZE ?_|refine ZD ?_|refine ZG rfl ?_|refine ZB rfl ?_|refine ZC ?_|refine ZH rfl ?_|refine Yr rfl rfl (hlk _) ?_|refine ZI ?_)
 all_goals try contradiction
 refine Zjd rfl rfl rfl (hV.wr s s) (hV.get s s) rfl (ZHh h s hs) ?_
 rw [hV.upd]
 have hG:=fun L=>ZdS ((hR (s++[h]) s).more more false L) hx hk4
 have hcp:x.copy.av=.agg [.int .i64 x.h,.str x.text,.lit (x.ks.map Kid.av)]:=rfl
 rw [hcp] at hG
 obtain ⟨v,hc⟩:=hV.call (s++[h]) s h more [.arr 3 0 [.agg [.int .i64 x.h,.str x.text,.lit (x.ks.map Kid.av)]]] (by omega)
 generalize hA1:(τ (s++[h]) s).ps++more=A1 at *
 repeat' (first|refine ZA rfl rfl (hV.wk h) hc ?_|refine ZE ?_|refine ZD ?_|refine ZG rfl ?_|refine ZJ rfl rfl ?_|refine Zt rfl rfl ?_|refine ZB rfl ?_|refine ZC ?_|(refine Zj rfl rfl (fun _=>?_) (fun _=>?_)<;>try (exfalso;omega))|refine ZH rfl ?_|refine Zi rfl rfl rfl ?_|refine Zu rfl rfl rfl rfl rfl rfl ?_|refine ZA rfl rfl rfl (hG _) ?_|refine ZI ?_)
 all_goals try contradiction
 obtain ⟨A2,hA2⟩:∃ A2,A2=(τ (s++[h]) (s++[h])).ps++more:=⟨_,rfl⟩
 have e12:A1.length=A2.length:=by
  have:=hV.len (s++[h]) s (s++[h]) (s++[h])
  rw [← hA1,hA2]
  simp only [lL] at this ⊢
  omega
 rw [← hA2,e12]
 repeat' (first|refine X9 rfl ?_|refine ZG rfl ?_|refine ZU rfl rfl rfl rfl ?_|refine ZB rfl ?_|refine ZC ?_|refine ZO ?_)
 refine Z0 (α:=Nat × List Blk) (fun p=>[(0,.ptr la (b+5) 0 0 0),(2,.map lm mx),(3,.func (.func g) [] caps),(32,.lit (x.ks.map Kid.av)),(33,.int .i64 x.ks.length),(34,.int .i64 p.1)])
  (fun p=>⟨(τ ((x.ks.take p.1).foldl (fun s k=>f k s) (s++[h])) ((x.ks.take p.1).foldl (fun s k=>f k s) (s++[h]))).ps++more,false,.arr 3 0 [.agg [.int .i64 x.h,.str x.text,.lit (x.ks.map Kid.av)]]::p.2⟩) (fun p=>p.1≤x.ks.length) (fun p=>x.ks.length-p.1) (0,[]) rfl (by rw [hA2];rfl) (Nat.zero_le _) ?_
 rintro ⟨i,G⟩ hi
 simp only at hi ⊢
 rcases Nat.lt_or_ge i x.ks.length with hlt|hge
 ·obtain ⟨kd,hk⟩:∃ k,x.ks[i]?=some k:=⟨x.ks[i]'hlt,List.getElem?_eq_getElem _⟩
  have qk:0≤((i:Nat):Int)∧x.ks[((i:Nat):Int).toNat]?=some kd:=⟨by omega,by rw [show ((i:Nat):Int).toNat=i by omega];exact hk⟩
  have hcl:=fun L=>hf kd (List.mem_of_getElem? hk) _ more L (hlen i)
  have hnx:(x.ks.take (i+1)).foldl (fun s k=>f k s) (s++[h])=f kd ((x.ks.take i).foldl (fun s k=>f k s) (s++[h])):=by
   rw [Zg hk,List.foldl_append];rfl
  rw [← hnx] at hcl
  generalize hP:(τ ((x.ks.take (i+1)).foldl (fun s k=>f k s) (s++[h])) ((x.ks.take (i+1)).foldl (fun s k=>f k s) (s++[h]))).ps++more=P at *
  generalize (τ ((x.ks.take i).foldl (fun s k=>f k s) (s++[h])) ((x.ks.take i).foldl (fun s k=>f k s) (s++[h]))).ps++more=A3 at *
  repeat' (first|refine Js (f:=Kid.av) rfl rfl qk (fun _=>rfl) ?_|refine ZA rfl rfl (hV.wk2 _ _ _) (hcl _) ?_|refine ZE ?_|refine ZD ?_|refine ZG rfl ?_|refine ZJ rfl rfl ?_|refine ZB rfl ?_|refine ZC ?_|refine JT rfl rfl rfl ?_|refine QS rfl rfl ?_|(refine Zk rfl rfl (fun _=>?_) (fun _=>?_)<;>try (exfalso;omega))|(refine Zj rfl rfl (fun _=>?_) (fun _=>?_)<;>try (exfalso;omega))|refine ZV rfl ?_|refine ZH rfl ?_|refine Zo rfl rfl (by omega) ?_|refine Z4 rfl rfl rfl ?_|refine Xd rfl rfl rfl rfl rfl rfl ?_|refine ZI ?_|refine ZO ?_|refine Z5 ?_|refine QC ?_)
  all_goals try contradiction
  all_goals try (exfalso;omega)
  refine ⟨(i+1,G++[.arr 4 0 [kd.av]]),⟨rfl,?_⟩,by simp only;omega,by simp only;omega⟩
  simp only
  rw [hP]
  rfl
 ·obtain rfl:i=x.ks.length:=by omega
  rw [List.take_length]
  repeat' (first|refine ZE ?_|refine ZD ?_|refine ZG rfl ?_|refine ZB rfl ?_|refine ZC ?_|(refine Zk rfl rfl (fun _=>?_) (fun _=>?_)<;>try (exfalso;omega))|refine ZH rfl ?_|refine ZS ?_|refine Zx ?_|refine ZL ?_|refine Zh ?_|refine Zd rfl ?_|refine Zq ?_)
  all_goals try (exfalso;omega)
  refine Zc (st:=st') hst'.symm (.inr rfl) rfl rfl rfl rfl ?_
  rfl
theorem ZWh {τ:List Nat→List Nat→St} {lm mx:Nat} {g:FuncId} {caps:List AV} (hV:Visit τ lm mx g caps) {la b:Nat} {h:Nat} (s:List Nat) (hs:h∈s) {more:List (Bool × List Blk)} {st:St} (hst:st.ps=(τ s s).ps++more) :
 S Tb JD [.ptr la (b+5) 0 0 0,.int .u64 h,.map lm mx,.func (.func g) [] caps] st=some (.int .i64 0,st):=by
 refine Xs rfl (fun A hA=>?_)
 have hA2:A=(τ s s).ps++more:=hA.trans hst
 have hA0:=hA
 clear hA
 subst hA2
 have hlk:=fun L=>ZCj (ZBN (hV.get s s) more false L) h
 simp only [decide_eq_true hs] at hlk
 repeat' (first|refine ZE ?_|refine ZD ?_|refine ZG rfl ?_|refine ZB rfl ?_|refine ZC ?_|refine ZV rfl ?_|refine Yr rfl rfl (hlk _) ?_|refine ZS ?_|refine ZL ?_|refine ZZ ?_)
 all_goals try contradiction
 refine Zc (st:=st) hA0 (.inr rfl) rfl rfl rfl rfl ?_
 rfl
theorem Zje {s t:St} (h:s.ps=t.ps):s=t:=by
 obtain ⟨A,r,L⟩:=s
 obtain ⟨A',r',L'⟩:=t
 have:=List.append_inj' h rfl
 obtain ⟨rfl,h2⟩:=this
 simp only [List.cons.injEq,Prod.mk.injEq,and_true] at h2
 obtain ⟨rfl,rfl⟩:=h2
 rfl
theorem ZgW {τ:List Nat→List Nat→St} {lm mx:Nat} {g:FuncId} {caps:List AV} (hV:Visit τ lm mx g caps) {N:ZP} (hN:GoodN N) {la b:Nat} (hR:∀ u w,Rd (τ u w) la (b+5) N):∀ (n h:Nat) (x:Nd) (s:List Nat),lk N h=some x→x.h=n→s.length+4 ^ (n+1)≤900000000→∀ {more:List (Bool × List Blk)} {st st':St},st.ps=(τ s s).ps++more→st'.ps=(τ (bel N n h s) (bel N n h s)).ps++more →
 S Tb JD [.ptr la (b+5) 0 0 0,.int .u64 h,.map lm mx,.func (.func g) [] caps] st=some (.int .i64 0,st'):=by
 intro n
 induction n with
 | zero =>
  intro h x s hx hh hb more st st' hst hst'
  by_cases hm:h∈s
  ·rw [bel,if_pos hm,← hst] at hst'
   rw [Zje hst']
   exact ZWh hV s hm hst
  ·rw [bel,if_neg hm] at hst'
   have hks:x.ks=[]:=by
    rcases (hN h x hx).1 with q|⟨m,ks,q⟩
    ·exact q.ks
    ·have e:=q.eq;subst e;simp at hh
   refine ZWg hV hR hx (by rw [hks];decide) s hm (fun _ s=>s) (Nat.le_refl _) (fun i=>?_) (fun k hk=>by rw [hks] at hk;simp at hk) hst (by rw [hks];exact hst')
   rw [hks,List.take_nil,List.foldl_nil,lL,List.length_singleton]
   simp at hb;omega
 | succ n ih =>
  intro h x s hx hh hb more st st' hst hst'
  by_cases hm:h∈s
  ·rw [bel,if_pos hm,← hst] at hst'
   rw [Zje hst']
   exact ZWh hV s hm hst
  ·rw [bel,if_neg hm,Xw hx] at hst'
   have hk4:=(hN h x hx).1.len
   have hkids:=(hN h x hx).2
   have hp:4 ^ (n+1+1)=4*4 ^ (n+1):=by rw [Nat.pow_succ];omega
   have h1:4≤4 ^ (n+1):=by rw [Nat.pow_succ];have:0<4 ^ n:=Nat.pow_pos (by decide);omega
   refine ZWg hV hR hx hk4 s hm (fun k s=>bel N n k.at_ s) (B:=900000000-4 ^ (n+1)) (by omega) (fun i=>?_) (fun k hk s' more' L hl=>?_) hst hst'
   ·have:=Zdx (Zlh hN n) (x.ks.take i) (s++[h]) (fun k hk=>by obtain ⟨_,y,y1,y2,_⟩:=hkids k (List.mem_of_mem_take hk);exact ⟨y,y1,by omega⟩)
    rw [lL,List.length_singleton] at this
    have hti:(x.ks.take i).length≤4:=by rw [List.length_take];omega
    have h4:(x.ks.take i).length*4 ^ (n+1)≤4*4 ^ (n+1):=Nat.mul_le_mul_right _ hti
    generalize (x.ks.take i).length*4 ^ (n+1)=P2 at *
    generalize 4 ^ (n+1)=P at *
    omega
   ·obtain ⟨_,y,y1,y2,_⟩:=hkids k hk
    exact ih k.at_ y s' y1 (by omega) (by omega) (more:=more'++[(false,L)]) (List.append_assoc ..) (List.append_assoc ..)
end Go.Q15
namespace Go.Q15
open Go Go.QAbs
set_option maxRecDepth 100000
set_option maxHeartbeats 8000000
theorem Zdy:∀ l:List Tr,(∀ t∈l,4*(t.siz:Int)+4≤t.bytes)→4*(Tr.sizL l:Int)+4*l.length≤Tr.bytesL l
 | [],_=>by simp [Tr.sizL,Tr.bytesL]
 | t::l,h=>by
  have h1:=h t (by simp)
  have h2:=Zdy l fun u hu=>h u (by simp [hu])
  simp only [Tr.sizL,Tr.bytesL,List.length_cons]
  omega
theorem Zjf {N:ZP} (hN:GoodN N) {t:Tr} (hv:Val N t):(t.siz:Int)≤t.bytes+1∧(Big t→4*(t.siz:Int)+4≤t.bytes):=by
 have hsz:=hv.size hN
 have hps:=hv.pos.2
 induction hv with
 | @kept o h m k x h0 hx hok hh hm hk =>
  have ec:(Tr.mk o h m [] k).siz=1:=by rw [Tr.siz,Tr.sizO_getD,hk];rfl
  have hl:h≤16:=by
   rcases hok with q|⟨n,ks,q⟩
   ·rw [← hh,q.h];omega
   ·have:=q.n15;have e:=q.eq;subst e;simp only at hh;omega
  rw [ec]
  refine ⟨by omega,fun q=>?_⟩
  have h1:=hsz q
  have h2:=(ZDz hl).1
  simp only [Tr.h] at h1
  omega
 | @leaf s k h1 h2 hk =>
  have ec:(Tr.mk 0 0 .zero s k).siz=1:=by rw [Tr.siz,Tr.sizO_getD,hk];rfl
  rw [ec]
  refine ⟨by omega,fun q=>?_⟩
  have:=q rfl
  omega
 | @inner h l hh h2 h4 hl hb hv ih =>
  have ec:(Tr.mk 0 (h+1) .zero [] (some l)).siz=Tr.sizL l+1:=by rw [Tr.siz,Tr.sizO];omega
  have eb:(Tr.mk 0 (h+1) .zero [] (some l)).bytes=Tr.bytesL l:=by rw [Tr.bytes,Tr.bytesO];simp [Mea.zero]
  have:=Zdy l fun u hu=>(ih u hu ((hv u hu).size hN) (hv u hu).pos.2).2 (fun q=>hb u hu (by rw [← hl u hu];exact q))
  rw [ec,eb]
  exact ⟨by omega,fun _=>by omega⟩
theorem Zjg {N:ZP} {t:Tr} (hv:Val N t):∀ out:List Nat,(∀ h∈out,∃ x,lk N h=some x)→∀ h∈t.kwT out,∃ x,lk N h=some x:=by
 induction hv with
 | @kept o h m k x h0 hx hok hh hm hk =>
  intro out ho a ha
  rw [Tr.kwT,Tr.kwO_getD,hk,Tr.kwL] at ha
  split at ha
  ·rcases List.mem_append.1 ha with q|q
   ·exact ho a q
   ·rw [List.mem_singleton.1 q];exact ⟨x,hx⟩
  ·exact ho a ha
 | @leaf s k h1 h2 hk =>
  intro out ho a ha
  rw [Tr.kwT,Tr.kwO_getD,hk,Tr.kwL,if_neg (by simp)] at ha
  exact ho a ha
 | @inner h l hh h2 h4 hl hb hv ih =>
  intro out ho a ha
  rw [Tr.kwT,Tr.kwO,if_neg (by simp)] at ha
  have key:∀ (l:List Tr) (out:List Nat),(∀ t∈l,∀ out:List Nat,(∀ h∈out,∃ x,lk N h=some x)→∀ h∈t.kwT out,∃ x,lk N h=some x)→(∀ h∈out,∃ x,lk N h=some x)→∀ a∈Tr.kwL l out,∃ x,lk N a=some x:=by
   intro l
   induction l with
   | nil=>intro out _ ho a ha;exact ho a ha
   | cons t l ihl =>
    intro out hi ho a ha
    rw [Tr.kwL] at ha
    exact ihl (t.kwT out) (fun u hu=>hi u (List.mem_cons_of_mem _ hu)) (hi t (by simp) out ho) a ha
  exact key l out ih ho a ha
theorem ZnD (h:Nat) (st:St):S Tb J8 [.int .u64 h] st=some (.tup [],st):=by
 refine QF rfl (fun A hA=>?_)
 repeat' (first|refine ZI ?_|refine ZL ?_)
 refine Zc hA (by first|exact .inl rfl|exact .inr rfl) rfl rfl rfl rfl ?_
 rfl
def dr1 (A:List (Bool × List Blk)) (b4 b5 b8:Blk) (u:List Nat):St:=⟨A,false,[b4,b5,b8,.map (JP u),.arr 1 0 [.map A.length 3]]⟩
def dr2 (A:List (Bool × List Blk)) (b4 b5 b8:Blk) (has u o:List Nat):St:=⟨A,false,[b4,b5,b8,.map (JP has),.arr 1 0 [.map A.length 3],.arr 1 o.length (o.map QB),.arr 1 0 [.ref A.length 5 o.length 0 o.length],.map (JP u)]⟩
theorem Zmg (A:List (Bool × List Blk)) (b4 b5 b8:Blk):Visit (fun u _=>dr1 A b4 b5 b8 u) A.length 3 J8 [] where
 len _ _ _ _:=by simp [dr1]
 wr _ _:=by simp [St.wr,dr1]
 get _ _:=St.get_cur ..
 upd _ _ _:=by simp [St.upd,dr1]
 call u w h more L _:=⟨_,ZnD h _⟩
 wk _:=rfl
 wk2 _ _ _:=rfl
theorem Zmh (A:List (Bool × List Blk)) (b4 b5 b8:Blk) (has u o:List Nat):Cl (dr2 A b4 b5 b8 has u o) [(A.length,5),(A.length,6)] [.arr 1 o.length (o.map QB),.arr 1 0 [.ref A.length 5 o.length 0 o.length]]:=by
 refine ⟨by simp,rfl,fun k hk=>?_,fun j lv ix b h1 h2=>?_⟩
 ·simp only [List.mem_cons,List.not_mem_nil,or_false] at hk
  rcases hk with rfl|rfl<;>simp [St.wr,dr2]
 ·match j,h1,h2 with
  | 0,h1,h2=>obtain ⟨rfl,rfl⟩:=Prod.mk.inj (Option.some.inj h1);obtain rfl:=Option.some.inj h2;exact St.get_cur ..
  | 1,h1,h2=>obtain ⟨rfl,rfl⟩:=Prod.mk.inj (Option.some.inj h1);obtain rfl:=Option.some.inj h2;exact St.get_cur ..
  | n+2,h1,h2=>simp at h1
theorem Zli (A:List (Bool × List Blk)) (b4 b5 b8:Blk) (has u o o':List Nat):Q9 (dr2 A b4 b5 b8 has u o) [(A.length,5),(A.length,6)] [.arr 1 o'.length (o'.map QB),.arr 1 0 [.ref A.length 5 o'.length 0 o'.length]]=dr2 A b4 b5 b8 has u o':=by
 simp [Q9,St.upd,dr2]
theorem ZnE (A:List (Bool × List Blk)) (b4 b5 b8:Blk) (has u o:List Nat) (h:Nat) (more:List (Bool × List Blk)) (L:List Blk) (hl:o.length<1000000000) :
 S Tb J9 [.int .u64 h,.ptr A.length 4 0 0 0,.ptr A.length 6 0 0 0] ⟨(dr2 A b4 b5 b8 has u o).ps++more,false,L⟩=some (.tup [],⟨(dr2 A b4 b5 b8 has u (if h∈has then o else o++[h])).ps++more,false,L⟩):=by
 have H:=(Zmh A b4 b5 b8 has u o).more more false L
 have hm4:St.get ⟨(dr2 A b4 b5 b8 has u o).ps++more,false,L⟩ A.length 4=some (.arr 1 0 [.map A.length 3]):=ZBN (s:=dr2 A b4 b5 b8 has u o) (St.get_cur ..) more false L
 have hm3:St.get ⟨(dr2 A b4 b5 b8 has u o).ps++more,false,L⟩ A.length 3=some (.map (JP has)):=ZBN (s:=dr2 A b4 b5 b8 has u o) (St.get_cur ..) more false L
 by_cases hm:h∈has
 ·rw [if_pos hm]
  refine QF rfl (fun A1 hA=>?_)
  have g4:=fun L'=>ZQ hA (ro:=false) (L:=L') hm4
  have hlk:=fun L'=>ZCj (ZQ hA (ro:=false) (L:=L') hm3) h
  simp only [decide_eq_true hm] at hlk
  repeat' (first|refine ZE ?_|refine ZD ?_|refine ZG rfl ?_|refine ZB rfl ?_|refine ZC ?_|refine ZH rfl ?_|refine Jd rfl rfl ?_|refine Z3 rfl (g4 _) rfl rfl ?_|refine Yr rfl rfl (hlk _) ?_|refine ZI ?_|refine ZL ?_)
  all_goals try contradiction
  refine Zc hA (by first|exact .inl rfl|exact .inr rfl) rfl rfl rfl rfl ?_
  rfl
 ·rw [if_neg hm]
  have e:Q9 ⟨(dr2 A b4 b5 b8 has u o).ps++more,false,L⟩ [(A.length,5),(A.length,6)] [.arr 1 (o++[h]).length ((o++[h]).map QB),.arr 1 0 [.ref A.length 5 (o++[h]).length 0 (o++[h]).length]]=⟨(dr2 A b4 b5 b8 has u (o++[h])).ps++more,false,L⟩:=by
   rw [ZOk (fun k hk=>by simp only [List.mem_cons,List.not_mem_nil,or_false] at hk;rcases hk with rfl|rfl<;>exact Nat.le_refl _),Zli]
  rw [← e]
  refine Xs rfl (fun A1 hA=>?_)
  have hA':A1=(Q9 ⟨(dr2 A b4 b5 b8 has u o).ps++more,false,L⟩ [(A.length,5),(A.length,6)] [.arr 1 o.length (o.map QB),.arr 1 0 [.ref A.length 5 o.length 0 o.length]]).ps:=by rw [H.same];exact hA
  have g4:=fun L'=>ZQ hA (ro:=false) (L:=L') hm4
  have hlk:=fun L'=>ZCj (ZQ hA (ro:=false) (L:=L') hm3) h
  simp only [decide_eq_false hm] at hlk
  have g6:=fun L'=>H.old hA' rfl rfl (ro:=false) (L:=L') (j:=1) rfl rfl
  repeat' (first|refine ZE ?_|refine ZD ?_|refine ZG rfl ?_|refine ZB rfl ?_|refine ZC ?_|refine ZV rfl ?_|refine Jd rfl rfl ?_|refine Qw rfl rfl rfl rfl ?_|refine Z3 rfl (g4 _) rfl rfl ?_|refine Yr rfl rfl (hlk _) ?_|refine Z3 rfl (g6 _) rfl rfl ?_)
  all_goals try contradiction
  refine Zf2 (es:=o.map QB) (ys:=[.int .u64 h]) H hA' rfl rfl (j:=0) rfl rfl (by rw [List.length_map];rfl) rfl rfl rfl rfl (by rw [List.length_map,List.length_singleton];omega) (by decide) (fun A2 hA2 _=>?_)
  skip
  refine ZJZ H hA2 rfl rfl (j:=1) rfl rfl rfl rfl rfl (JF _ (Nat.lt_succ_self _)) rfl (fun A3 hA3 _=>?_)
  repeat' (first|refine ZB rfl ?_|refine ZL ?_)
  have e3:((([Blk.arr 1 o.length (o.map QB),Blk.arr 1 0 [.ref A.length 5 o.length 0 o.length]].set 0 (.arr 1 (o.length+1) (o.map QB++[.int .u64 h]))).set 1 (.arr 1 0 ([AV.ref A.length 5 o.length 0 o.length].set 0 (.ref A.length 5 (o.length+1) 0 ((o.map QB).length+[AV.int .u64 (h:Int)].length))))))=[.arr 1 (o++[h]).length ((o++[h]).map QB),.arr 1 0 [.ref A.length 5 (o++[h]).length 0 (o++[h]).length]]:=by
   simp [QB]
  replace hA3:A3=(Q9 ⟨(dr2 A b4 b5 b8 has u o).ps++more,false,L⟩ [(A.length,5),(A.length,6)] [.arr 1 (o++[h]).length ((o++[h]).map QB),.arr 1 0 [.ref A.length 5 (o++[h]).length 0 (o++[h]).length]]).ps:=by rw [← e3];exact hA3
  refine Zc hA3 (.inl rfl) rfl rfl rfl rfl ?_
  rfl
theorem Zmi (A:List (Bool × List Blk)) (b4 b5 b8:Blk) (has:List Nat):Visit (fun u w=>dr2 A b4 b5 b8 has u (w.filter fun h=>decide (h∉has))) A.length 7 J9 [.ptr A.length 4 0 0 0,.ptr A.length 6 0 0 0] where
 len _ _ _ _:=by simp [dr2]
 wr _ _:=by simp [St.wr,dr2]
 get _ _:=St.get_cur ..
 upd _ _ _:=by simp [St.upd,dr2]
 call u w h more L hl:=by
  refine ⟨.tup [],(ZnE A b4 b5 b8 has u (w.filter fun h=>decide (h∉has)) h more L (Nat.lt_of_le_of_lt (List.length_filter_le ..) hl)).trans ?_⟩
  rw [List.filter_append]
  by_cases hm:h∈has
  ·rw [if_pos hm,show ([h].filter fun h=>decide (h∉has))=[] by simp [hm],lN]
  ·rw [if_neg hm,show ([h].filter fun h=>decide (h∉has))=[h] by simp [hm]]
 wk _:=rfl
 wk2 _ _ _:=rfl
end Go.Q15
namespace Go.Q15
open Go Go.QAbs
set_option maxRecDepth 100000
set_option maxHeartbeats 8000000
def ZOm (N:ZP) (l:List Nat):List Nat:=l.foldl (fun s h=>bel N (ZR5 N h).h h s) []
def ZIR (N:ZP) (r:Ro) (t:Tr):List Nat:=if r.at_=0 then [] else (bel N r.h r.at_ []).filter fun h=>decide (h∉ZOm N (t.kwT []))
theorem Zmj {N:ZP} (hN:GoodN N) {h:Nat} {x:Nd} (h0:h≠0) (hx:lk N h=some x):x.h≤13 :=
 RtOk.h13 hN (r:=⟨h,x.h,x.mea⟩) (.inr ⟨h0,x,hx,(hN h x hx).1,rfl,rfl⟩)
def Lv (N:ZP) (l:List Nat):Prop:=l.Nodup∧∀ o∈l,∃ x,lk N o=some x
theorem Lv.snoc {N:ZP} {l:List Nat} (h:Lv N l) {o:Nat} (ho:∃ x,lk N o=some x) (hn:o∉l):Lv N (l++[o]):=by
 refine ⟨?_,fun a ha=>?_⟩
 ·rw [List.nodup_append]
  refine ⟨h.1,by simp,fun x hx y hy=>?_⟩
  rw [List.mem_singleton] at hy
  intro e;rw [e,hy] at hx;exact hn hx
 ·rcases List.mem_append.1 ha with q|q
  ·exact h.2 a q
  ·rw [List.mem_singleton.1 q];exact ho
theorem Zjh {N:ZP} (hN:GoodN N):∀ (n h:Nat) (s:List Nat) (x:Nd),lk N h=some x→x.h=n→Lv N s→Lv N (bel N n h s):=by
 intro n
 induction n with
 | zero =>
  intro h s x hx hh hs
  rw [bel]
  split
  ·exact hs
  ·rename_i q;exact hs.snoc ⟨x,hx⟩ q
 | succ n ih =>
  intro h s x hx hh hs
  rw [bel,Xw hx]
  split
  ·exact hs
  ·rename_i q
   have key:∀ (ks:List Kid) (s:List Nat),(∀ k∈ks,∃ y,lk N k.at_=some y∧y.h=n)→Lv N s→Lv N (ks.foldl (fun s k=>bel N n k.at_ s) s):=by
    intro ks
    induction ks with
    | nil=>intro s _ h;exact h
    | cons k l ihl =>
     intro s hk h
     obtain ⟨y,y1,y2⟩:=hk k (by simp)
     exact ihl _ (fun z hz=>hk z (List.mem_cons_of_mem _ hz)) (ih k.at_ s y y1 y2 h)
   exact key x.ks _ (fun k hk=>by obtain ⟨_,y,y1,y2,_⟩:=(hN h x hx).2 k hk;exact ⟨y,y1,by omega⟩) (hs.snoc ⟨x,hx⟩ q)
theorem Zlj {N:ZP} (hN:GoodN N) {l:List Nat} (hl:∀ h∈l,∃ x,lk N h=some x):Lv N (ZOm N l):=by
 have key:∀ (l s:List Nat),(∀ h∈l,∃ x,lk N h=some x)→Lv N s→Lv N (l.foldl (fun s h=>bel N (ZR5 N h).h h s) s):=by
  intro l
  induction l with
  | nil=>intro s _ h;exact h
  | cons a l ih =>
   intro s hl h
   obtain ⟨x,hx⟩:=hl a (by simp)
   refine ih _ (fun z hz=>hl z (List.mem_cons_of_mem _ hz)) ?_
   show Lv N (bel N (ZR5 N a).h a s)
   rw [Xw hx]
   exact Zjh hN _ a s x hx rfl h
 exact key l [] hl ⟨by simp,by simp⟩
theorem Zmk {N:ZP} (hN:∀ o x,lk N o=some x→o≠0) {t:Tr} (hv:VE N t):∀ h∈t.kwT [],h≠0∧∃ x,lk N h=some x:=by
 intro h hh
 rcases hv with q|q
 ·obtain ⟨o,th,m,s,k⟩:=t
  have e1:=q.old
  have e2:=q.ks
  simp only [Tr.old,Tr.ks] at e1 e2
  rw [Tr.kwT,Tr.kwO_getD,e2,Tr.kwL,e1] at hh
  simp at hh
 ·obtain ⟨x,hx⟩:=Zjg q [] (by simp) h hh
  exact ⟨hN h x hx,x,hx⟩
theorem Zji {N:ZP} (hN:GoodN N) {t:Tr} (hv:VE N t) (hb:t.bytes≤65536):t.siz<4294967296:=by
 rcases hv with q|q
 ·obtain ⟨o,th,m,s,k⟩:=t
  have e2:=q.ks
  simp only [Tr.ks] at e2
  rw [Tr.siz,Tr.sizO_getD,e2,Tr.sizL];omega
 ·have:=(Zjf hN q).1;omega
theorem Zhe {st:St} {la b:Nat} {N:ZP} (hN:GoodN N) (hK:∀ l,Lv N l→l.length≤16384) (hz:∀ o x,lk N o=some x→o≠0) (hR:Rd st la (b+5) N) {r:Ro} (hr:RtOk N r) {t:Tr} (hv:VE N t) (hb:t.bytes≤65536) :
 S Tb ZBf [.ptr la (b+5) 0 0 0,r.av,t.av] st=some (.tup [.lit ((ZIR N r t).map QB),.int .i64 0],st):=by
 refine QF rfl (fun A hA=>?_)
 have hRA:=fun L=>hR.push hA (ro:=false) (L:=L)
 have hKp:=fun L=>ZcB (hRA L) hr
 have hCk:=fun L=>ZdY (hRA L) hv hb
 have hKt:=fun st=>ZmY hv.pos.1 (Zji hN hv hb) st
 have hkw:=Zmk hz hv
 have hkl:=Tr.kwT_len t []
 have hsz:=Zji hN hv hb
 unfold ZIR
 generalize t.kwT []=kl at *
 simp only [List.length_nil] at hkl
 have hP13:∀ n,n≤13→4 ^ (n+1)≤268435456:=fun n hn=>by
  have:4 ^ (n+1)≤4 ^ 14:=Nat.pow_le_pow_right (by decide) (by omega)
  exact this
 have hB1:∀ (i h:Nat),kl[i]?=some h→S Tb JD [.ptr la (b+5) 0 0 0,.int .u64 h,.map A.length 3,.func (.func J8) [] []] (dr1 A (.arr 5 0 [r.av]) (.arr 7 0 [t.av]) (.arr 7 0 [(Yb r).av]) (ZOm N (kl.take i)))=some (.int .i64 0,dr1 A (.arr 5 0 [r.av]) (.arr 7 0 [t.av]) (.arr 7 0 [(Yb r).av]) (ZOm N (kl.take (i+1)))):=by
  intro i h hi
  obtain ⟨h0,x,hx⟩:=hkw h (List.mem_of_getElem? hi)
  have hlv:=Zlj hN (l:=kl.take i) (fun z hz=>(hkw z (List.mem_of_mem_take hz)).2)
  have:=hK _ hlv
  have:=hP13 _ (Zmj hN h0 hx)
  have e:ZOm N (kl.take (i+1))=bel N x.h h (ZOm N (kl.take i)):=by
   rw [Zg hi]
   unfold ZOm
   rw [List.foldl_append,List.foldl_cons,List.foldl_nil,Xw hx]
  rw [e]
  exact ZgW (Zmg A _ _ _) hN (fun _ _=>hRA _) x.h h x _ hx rfl (by omega) (more:=[]) (lN _).symm (lN _).symm
 have hB2:r.at_≠0→S Tb JD [.ptr la (b+5) 0 0 0,.int .u64 r.at_,.map A.length 7,.func (.func J9) [] [.ptr A.length 4 0 0 0,.ptr A.length 6 0 0 0]] (dr2 A (.arr 5 0 [r.av]) (.arr 7 0 [t.av]) (.arr 7 0 [(Yb r).av]) (ZOm N kl) [] [])=some (.int .i64 0,dr2 A (.arr 5 0 [r.av]) (.arr 7 0 [t.av]) (.arr 7 0 [(Yb r).av]) (ZOm N kl) (bel N r.h r.at_ []) ((bel N r.h r.at_ []).filter fun h=>decide (h∉ZOm N kl))):=by
  intro h0
  obtain ⟨x,x1,x2,x3,x4⟩:∃ x,lk N r.at_=some x∧NdOk x∧x.h=r.h∧x.mea=r.m:=by
   rcases hr with rfl|w
   ·exact absurd rfl h0
   ·exact w.2
  have:=hP13 _ (hr.h13 hN)
  exact ZgW (Zmi A (.arr 5 0 [r.av]) (.arr 7 0 [t.av]) (.arr 7 0 [(Yb r).av]) (ZOm N kl)) hN (fun _ _=>hRA _) r.h r.at_ x [] x1 x3 (by simp only [List.length_nil];omega) (more:=[]) (lN _).symm (lN _).symm
 have hkll:kl.length<1000000000:=by
  have:kl.length≤t.siz:=by omega
  have h2:(t.siz:Int)≤65537:=by
   rcases hv with q|q
   ·obtain ⟨o,th,m,s,k⟩:=t
    have e2:=q.ks
    simp only [Tr.ks] at e2
    rw [Tr.siz,Tr.sizO_getD,e2,Tr.sizL];decide
   ·have:=(Zjf hN q).1;omega
  omega
 unfold dr1 at hB1
 unfold dr2 at hB2
 obtain ⟨ra,rh,rm⟩:=r
 unfold Ro.av at *
 generalize Yb ⟨ra,rh,rm⟩=kt at *
 repeat' (first|refine ZE ?_|refine ZD ?_|refine ZG rfl ?_|refine ZU rfl rfl rfl rfl ?_|refine Zt rfl rfl ?_|refine ZB rfl ?_|refine ZC ?_|(refine Zj rfl rfl (fun _=>?_) (fun _=>?_)<;>try (exfalso;omega))|refine ZH rfl ?_|refine Zi rfl rfl rfl ?_|refine ZBY rfl ?_|refine ZA rfl rfl (by first|rfl|(simp only [lE,lN,lC,Zf,ZY,ZX];first|done|rfl)) (hKp _) ?_|refine ZA rfl rfl (by first|rfl|(simp only [lE,lN,lC,Zf,ZY,ZX];first|done|rfl)) (hCk _) ?_|refine ZU rfl rfl rfl (Zw _) ?_|refine Zu rfl rfl rfl (QO _ _ _) (Q1 _ _) rfl ?_|refine Z4 rfl (Z9 _) (QN _) ?_|refine ZI ?_)
 all_goals try contradiction
 refine Zu rfl rfl rfl (by simp only [ZW,QA,if_pos (Nat.lt_succ_self _)]) rfl rfl ?_
 repeat' (first|refine ZU rfl rfl rfl (Zw _) ?_|refine X9 rfl ?_|refine ZE ?_|refine ZD ?_|refine ZG rfl ?_|refine ZB rfl ?_|refine ZC ?_|refine ZA rfl rfl (by first|rfl|(simp only [lE,lN,lC,Zf,ZY,ZX];first|done|rfl)) (hKt _) ?_|refine ZO ?_)
 refine Z0 (α:=Nat) (fun i=>[(0,.ptr la (b+5) 0 0 0),(4,.ptr A.length 0 0 0 0),(11,.ptr A.length 4 0 0 0),(34,.lit (kl.map QB)),(35,.int .i64 kl.length),(36,.int .i64 i)])
  (fun i=>⟨A,false,[.arr 5 0 [Ro.av ⟨ra,rh,rm⟩],.arr 7 0 [t.av],.arr 7 0 [kt.av],.map (JP (ZOm N (kl.take i))),.arr 1 0 [.map A.length 3]]⟩) (fun i=>i≤kl.length) (fun i=>kl.length-i) 0 rfl rfl (Nat.zero_le _) ?_
 intro i hi
 replace hi:i≤kl.length:=hi
 unfold Ro.av
 rcases Nat.lt_or_ge i kl.length with hlt|hge
 ·obtain ⟨h,hh⟩:∃ x,kl[i]?=some x:=⟨kl[i]'hlt,List.getElem?_eq_getElem _⟩
  have q:0≤((i:Nat):Int)∧kl[((i:Nat):Int).toNat]?=some h:=⟨by omega,by rw [show ((i:Nat):Int).toNat=i by omega];exact hh⟩
  have hB:=hB1 i h hh
  repeat' (first|refine Js (f:=QB) rfl rfl q (fun _=>rfl) ?_|refine ZA rfl rfl rfl hB ?_|refine ZE ?_|refine ZD ?_|refine ZG rfl ?_|refine ZU rfl rfl rfl rfl ?_|refine ZB rfl ?_|refine ZC ?_|refine QS rfl rfl ?_|(refine Zk rfl rfl (fun _=>?_) (fun _=>?_)<;>try (exfalso;omega))|(refine Zj rfl rfl (fun _=>?_) (fun _=>?_)<;>try (exfalso;omega))|refine ZV rfl ?_|refine ZH rfl ?_|refine Zo rfl rfl (by omega) ?_|refine ZI ?_|refine ZO ?_|refine Z5 ?_|refine QC ?_)
  all_goals try contradiction
  all_goals try (exfalso;omega)
  exact ⟨i+1,⟨rfl,rfl⟩,by omega,by omega⟩
 ·obtain rfl:i=kl.length:=by omega
  rw [List.take_length]
  by_cases h0:ra=0
  ·subst h0
   repeat' (first|refine ZJd ?_|refine ZE ?_|refine ZD ?_|refine ZG rfl ?_|refine ZJ rfl rfl ?_|refine ZU rfl rfl rfl rfl ?_|refine ZB rfl ?_|refine ZC ?_|(refine Zk rfl rfl (fun _=>?_) (fun _=>?_)<;>try (exfalso;omega))|(refine Zp rfl rfl (fun _=>?_) (fun _=>?_)<;>try (exfalso;omega))|refine ZV rfl ?_|refine ZH rfl ?_|refine ZAJ rfl rfl ?_|refine ZBY rfl ?_|refine ZI ?_|refine ZS ?_|refine Zx ?_|refine ZL ?_|refine ZZ ?_|refine Zh ?_|refine Zd rfl ?_|refine Zq ?_)
   all_goals try contradiction
   all_goals try (exfalso;omega)
   refine Zc hA (by first|exact .inl rfl|exact .inr rfl) rfl rfl rfl rfl ?_
   rfl
  ·have hB:=hB2 h0
   have h0i:((ra:Nat):Int)≠0:=by omega
   simp only [if_neg h0]
   generalize (bel N rh ra []).filter (fun h=>decide (h∉ZOm N kl))=out at *
   repeat' (first|refine ZJd ?_|refine ZA rfl rfl rfl hB ?_|refine ZE ?_|refine ZD ?_|refine ZG rfl ?_|refine ZJ rfl rfl ?_|refine ZU rfl rfl rfl rfl ?_|refine ZB rfl ?_|refine ZC ?_|(refine Zk rfl rfl (fun _=>?_) (fun _=>?_)<;>try (exfalso;omega))|(refine Zp rfl rfl (fun _=>?_) (fun _=>?_)<;>try (exfalso;omega))|(refine Zj rfl rfl (fun _=>?_) (fun _=>?_)<;>try (exfalso;omega))|refine ZH rfl ?_|refine ZAJ rfl rfl ?_|refine ZBY rfl ?_|refine ZI ?_|refine ZS ?_|refine Zx ?_|refine ZL ?_|refine Zh ?_|refine Zd rfl ?_|refine Zq ?_)
   all_goals try contradiction
   all_goals try (exfalso;omega)
   exact ZJ7 hA (.inr rfl) rfl rfl (by simp) (fun v hv=>by obtain ⟨x,_,rfl⟩:=List.mem_map.1 hv;rfl) rfl rfl
end Go.Q15
namespace Go.Q15
open Go Go.QAbs
set_option maxRecDepth 100000
set_option maxHeartbeats 8000000
def DrOk (M:Nat) (G:List Blk) (dv:AV) (w:List Nat):Prop:=(w=[]∧dv=.nils)∨∃ j ver,dv=.ref M (j+4) ver 0 w.length∧w≠[]∧G[j]?=some (.arr 1 ver (w.map QB))
def chL (b6:Blk) (t:Tr) (dv:AV) (w:List Nat) (G:List Blk):List Blk :=
 b6::.arr 7 0 [t.av]::.arr 7 0 [.agg [.int .u64 0,.int .i64 0,.int .i64 0,.int .i64 0,.int .i64 0,.nils,dv]]::.map (JP w)::G
theorem ZMB {O:Orc} {k:List Fr} {Q:Yg} {e:Env} {A:List (Bool × List Blk)} {L:List Blk} {keep:List Nat} {is:List QAbs.PI} {x i v:Opd} {ix h:Nat} {w:AV} {es es':List (AV × AV)} (hx:Za e x=some (.map A.length ix)) (hi:Za e i=some (.int .u64 h)) (hv:Za e v=some w) (hg:L[ix]?=some (.map es))
 (hs:ZW QA (A.length+1) ⟨A,false,L⟩ w=some (w,⟨A,false,L⟩)) (hp:ZFl (.int .u64 h) w es=some es')
 (hh:Is O is keep k Q e ⟨A,false,L.set ix (.map es')⟩):Is O (⟨none,none,false,.mupd 0 x i v⟩::is) keep k Q e ⟨A,false,L⟩:=by
 have hlt:=(List.getElem?_eq_some_iff.1 hg).1
 refine Z2 (od:=none) (v:=.undef) (st':=⟨A,false,L.set ix (.map es')⟩) ?_ hh
 simp only [Zb,evalPO,ZF hx,ZF hi,ZF hv,ZJj,YO,if_true,hs,oS,ZOp,St.get_cur,hg,vis,ZJi,hp,St.put,if_false,Bool.false_eq_true,if_pos hlt,ZA2]
theorem ZZ0:∀ (l w:List Nat),(l.foldl X8 w).length≤w.length+l.length:=by
 intro l
 induction l with
 | nil=>intro w;simp
 | cons a l ih =>
  intro w
  rw [List.foldl_cons]
  have h1:(X8 w a).length≤w.length+1:=by unfold X8;split<;>simp
  have h2:=ih (X8 w a)
  rw [List.length_cons];omega
theorem Zjj {A:List (Bool × List Blk)} {b6:Blk} {t:Tr} {dv:AV} {w dl:List Nat} {G:List Blk} (h0:DrOk A.length G dv w) (hl:w.length+dl.length<100000000) {v0 v29 v30 v31:AV} {k:List Fr} {Q:Yg}
 (hQ:∀ G' dv',DrOk A.length G' dv' (dl.foldl X8 w)→Rk (S Tb) k Q .norm [(0,v0),(6,.ptr A.length 0 0 0 0),(8,.ptr A.length 1 0 0 0),(10,.ptr A.length 2 0 0 0),(11,.map A.length 3),(29,v29),(30,v30),(31,v31),(46,.lit (dl.map QB)),(47,.int .i64 dl.length),(48,.int .i64 dl.length),(49,.bool false)] ⟨A,false,chL b6 t dv' (dl.foldl X8 w) G'⟩) :
 Ru (S Tb) p_edit_change_19.loop (.blk 2::k) Q [(0,v0),(6,.ptr A.length 0 0 0 0),(8,.ptr A.length 1 0 0 0),(10,.ptr A.length 2 0 0 0),(11,.map A.length 3),(29,v29),(30,v30),(31,v31),(46,.lit (dl.map QB)),(47,.int .i64 dl.length),(48,.int .i64 0)] ⟨A,false,chL b6 t dv w G⟩:=by
 refine Z0 (α:=Nat × AV × List Blk) (fun p=>[(0,v0),(6,.ptr A.length 0 0 0 0),(8,.ptr A.length 1 0 0 0),(10,.ptr A.length 2 0 0 0),(11,.map A.length 3),(29,v29),(30,v30),(31,v31),(46,.lit (dl.map QB)),(47,.int .i64 dl.length),(48,.int .i64 p.1)])
  (fun p=>⟨A,false,chL b6 t p.2.1 ((dl.take p.1).foldl X8 w) p.2.2⟩) (fun p=>p.1≤dl.length∧DrOk A.length p.2.2 p.2.1 ((dl.take p.1).foldl X8 w)) (fun p=>dl.length-p.1) (0,dv,G) rfl rfl ⟨Nat.zero_le _,h0⟩ ?_
 rintro ⟨i,dv1,G1⟩ ⟨hi,hD⟩
 simp only at hi hD ⊢
 have hwl:=ZZ0 (dl.take i) w
 rw [List.length_take,Nat.min_eq_left hi] at hwl
 rcases Nat.lt_or_ge i dl.length with hlt|hge
 ·obtain ⟨h,hh⟩:∃ x,dl[i]?=some x:=⟨dl[i]'hlt,List.getElem?_eq_getElem _⟩
  have q:0≤((i:Nat):Int)∧dl[((i:Nat):Int).toNat]?=some h:=⟨by omega,by rw [show ((i:Nat):Int).toNat=i by omega];exact hh⟩
  have hnx:(dl.take (i+1)).foldl X8 w=X8 ((dl.take i).foldl X8 w) h:=by rw [Zg hh,List.foldl_append];rfl
  generalize (dl.take i).foldl X8 w=W at *
  have hlk:=ZCj (st:=⟨A,false,chL b6 t dv1 W G1⟩) (lv:=A.length) (mx:=3) (St.get_cur ..) h
  by_cases hm:h∈W
  ·simp only [decide_eq_true hm] at hlk
   rw [show X8 W h=W by unfold X8;rw [if_pos hm]] at hnx
   unfold chL at *
   repeat' (first|refine Js (f:=QB) rfl rfl q (fun _=>rfl) ?_|refine ZE ?_|refine ZD ?_|refine ZG rfl ?_|refine ZB rfl ?_|refine ZC ?_|refine QS rfl rfl ?_|(refine Zk rfl rfl (fun _=>?_) (fun _=>?_)<;>try (exfalso;omega))|refine ZV rfl ?_|refine ZH rfl ?_|refine Jd rfl rfl ?_|refine Zo rfl rfl (by omega) ?_|refine Yr rfl rfl hlk ?_|refine ZI ?_|refine ZO ?_|refine Z5 ?_|refine QC ?_)
   all_goals try contradiction
   all_goals try (exfalso;omega)
   exact ⟨(i+1,dv1,G1),⟨rfl,by simp only [hnx]⟩,⟨by simp only;omega,by simp only [hnx];exact hD⟩,by simp only;omega⟩
  ·simp only [decide_eq_false hm] at hlk
   rw [show X8 W h=W++[h] by unfold X8;rw [if_neg hm]] at hnx
   have hpe:=ZHh h W hm
   rcases hD with ⟨rfl,rfl⟩|⟨j,ver,rfl,hW,hg⟩
   ·unfold chL at *
    repeat' (first|refine Js (f:=QB) rfl rfl q (fun _=>rfl) ?_|refine ZE ?_|refine ZD ?_|refine ZG rfl ?_|refine ZB rfl ?_|refine ZC ?_|refine QS rfl rfl ?_|(refine Zk rfl rfl (fun _=>?_) (fun _=>?_)<;>try (exfalso;omega))|refine ZV rfl ?_|refine Jd rfl rfl ?_|refine Yr rfl rfl hlk ?_|refine ZI ?_|refine ZO ?_)
    all_goals try contradiction
    all_goals try (exfalso;omega)
    refine ZMB rfl rfl rfl rfl rfl hpe ?_
    repeat' (first|refine ZD ?_|refine ZG rfl ?_|refine ZJ rfl rfl ?_|refine ZU rfl rfl rfl rfl ?_|refine ZB rfl ?_|refine ZC ?_|refine Qw rfl rfl rfl rfl ?_)
    refine ZJe (vx:=.lit [.int .u64 h]) (ys:=[.int .u64 h]) (bytes:=8) rfl rfl rfl (by simp) (by decide) rfl ?_
    repeat' (first|refine ZD ?_|refine ZG rfl ?_|refine ZJ rfl rfl ?_|refine ZB rfl ?_|refine ZC ?_|refine Zo rfl rfl (by omega) ?_|refine Q0 rfl rfl rfl rfl (JF _ (Nat.lt_succ_self _)) rfl ?_|refine Z5 ?_|refine QC ?_)
    refine ⟨(i+1,.ref A.length (G1.length+4) 0 0 1,G1++[.arr 1 0 [.int .u64 h]]),⟨rfl,?_⟩,⟨by simp only;omega,?_⟩,by simp only;omega⟩
    ·simp only [hnx];rfl
    ·simp only [hnx]
     exact .inr ⟨G1.length,0,rfl,by simp,List.getElem?_concat_length ..⟩
   ·have hj:=(List.getElem?_eq_some_iff.1 hg).1
    have hg2:∀ b0 b1 b2 b3:Blk,(b0::b1::b2::b3::G1)[j+4]?=some (.arr 1 ver (W.map QB)):=fun _ _ _ _=>hg
    unfold chL at *
    repeat' (first|refine Js (f:=QB) rfl rfl q (fun _=>rfl) ?_|refine ZE ?_|refine ZD ?_|refine ZG rfl ?_|refine ZB rfl ?_|refine ZC ?_|refine QS rfl rfl ?_|(refine Zk rfl rfl (fun _=>?_) (fun _=>?_)<;>try (exfalso;omega))|refine ZV rfl ?_|refine Jd rfl rfl ?_|refine Yr rfl rfl hlk ?_|refine ZI ?_|refine ZO ?_)
    all_goals try contradiction
    all_goals try (exfalso;omega)
    refine ZMB rfl rfl rfl rfl rfl hpe ?_
    repeat' (first|refine ZD ?_|refine ZG rfl ?_|refine ZJ rfl rfl ?_|refine ZU rfl rfl rfl rfl ?_|refine ZB rfl ?_|refine ZC ?_|refine Qw rfl rfl rfl rfl ?_)
    refine ZLy (es:=W.map QB) (ys:=[.int .u64 h]) rfl rfl (hg2 _ _ _ _) (by rw [List.length_map]) rfl rfl (by simp;omega) (by decide) ?_
    repeat' (first|refine ZD ?_|refine ZG rfl ?_|refine ZJ rfl rfl ?_|refine ZB rfl ?_|refine ZC ?_|refine Zo rfl rfl (by omega) ?_|refine Q0 rfl rfl rfl rfl (JF _ (Nat.lt_succ_self _)) rfl ?_|refine Z5 ?_|refine QC ?_)
    refine ⟨(i+1,.ref A.length (j+4) (ver+1) 0 (W.length+1),G1.set j (.arr 1 (ver+1) (W.map QB++[.int .u64 h]))),⟨rfl,?_⟩,⟨by simp only;omega,?_⟩,by simp only;omega⟩
    ·simp only [hnx];rfl
    ·simp only [hnx]
     refine .inr ⟨j,ver+1,by simp,by simp,?_⟩
     rw [List.getElem?_set_self hj,List.map_append];rfl
 ·obtain rfl:i=dl.length:=by omega
  rw [List.take_length] at hD ⊢
  repeat' (first|refine ZE ?_|refine ZD ?_|refine ZB rfl ?_|refine ZC ?_|(refine Zk rfl rfl (fun _=>?_) (fun _=>?_)<;>try (exfalso;omega))|refine ZH rfl ?_|refine Zx ?_|refine Zh ?_|refine Zd rfl ?_|refine Zq ?_)
  all_goals try (exfalso;omega)
  exact hQ G1 dv1 hD
end Go.Q15
namespace Go.Q15
open Go Go.QAbs
set_option maxRecDepth 100000
set_option maxHeartbeats 8000000
def slH (l:List Nat):AV:=if l=[] then .nils else .lit (l.map QB)
def Qn (ro:Ro) (fresh:List Nat) (d:AV):AV:=.agg [.int .u64 ro.at_,.int .i64 ro.h,.int .i64 ro.m.b,.int .i64 ro.m.r,.int .i64 ro.m.l,.lit (fresh.map QB),d]
def chZ:AV:=.agg [.int .u64 0,.int .i64 0,.int .i64 0,.int .i64 0,.int .i64 0,.nils,.nils]
theorem Zjk {b lv ix ver q n:Nat} {ro:Ro} {fr:List Nat} (st:St) (hl:lv<b):ZW QA b st (Qn ro fr (.ref lv ix ver q n))=some (Qn ro fr (.ref lv ix ver q n),st):=by
 show (mapSt (keepN (ZW 5 b)) _ _).bind ZHm=_
 simp only [mapSt,keepN,XG,Bool.false_eq_true,if_false,ZW,oS,if_pos hl,YW,ZHm]
 rfl
theorem Zjl {A:List (Bool × List Blk)} {L:List Blk} {ix ver n:Nat} {ro:Ro} {fr d:List Nat} {z:Int} (hg:L[ix]?=some (.arr 1 ver (d.map QB))) (hn:n=d.length) :
 ZW QA A.length ⟨A,false,L⟩ (.tup [Qn ro fr (.ref A.length ix ver 0 n),.int .i64 z])=some (.tup [Qn ro fr (.lit (d.map QB)),.int .i64 z],⟨A,false,L.set ix .dead⟩):=by
 subst hn
 have h1:=ZHW (n:=3) (A:=A) (s:=0) (m:=d.length) hg (by simp) (es':=d.map QB) (by
  rw [List.drop_zero,List.take_of_length_le (by simp)]
  exact ZOh (k:=.u64) (fun n:Nat=>(n:Int)) 2 0 _ d)
 show (mapSt (ZW 5 A.length) _ _).bind ZZ8=_
 have h2:ZW 5 A.length ⟨A,false,L⟩ (Qn ro fr (.ref A.length ix ver 0 d.length))=some (Qn ro fr (.lit (d.map QB)),⟨A,false,L.set ix .dead⟩):=by
  show (mapSt (keepN (ZW 4 A.length)) _ _).bind ZHm=_
  simp only [mapSt,keepN,XG,Bool.false_eq_true,if_false,oS]
  simp only [ZW,oS] at h1 ⊢
  simp only [h1,oS,YW,ZHm]
  rfl
 simp only [mapSt,h2,oS]
 rfl
theorem ZOn {e:Env} {A:List (Bool × List Blk)} {st:St} {L L':List Blk} {x:Ex} {c4 c5 j4 w4 v4:Nat} {v w:AV} {cs:List AV} {z:Int} (hA:A=st.A++[(st.ro,st.L)]) (hx:x=.norm∨x=.ret) (h4:Jh e c4=some (.ptr A.length j4 v4 0 0)) (hg4:L[j4]?=some (.arr w4 v4 [v])) (hv:v=.agg cs) (hc:cs.length=7) (h5:Jh e c5=some (.int .i64 z))
 (hs:ZW QA A.length ⟨A,false,L⟩ (.tup [v,.int .i64 z])=some (.tup [w,.int .i64 z],⟨A,false,L'⟩)):JK false [.c c4 true 7,.s c5] (x,e,⟨A,false,L⟩)=some (.tup [w,.int .i64 z],st):=by
 refine ZCq (v:=.tup [v,.int .i64 z]) hA hx ?_ hs rfl
 have h1:ZAq ⟨A,false,L⟩ e (.c c4 true 7)=some v:=by
  subst hv
  simp only [ZAq,QD h4,loadP,St.get_cur,hg4,vis,ZFU,if_true,List.getElem?_cons_zero,oS,Qz,AV.cells,List.drop_zero]
  rw [List.take_of_length_le (by omega)]
  simp [hc]
  rfl
 simp only [QM,ZCn,h1,oS]
 simp only [ZAq,QD h5,oS,Option.map_some,ZFV]
end Go.Q15
