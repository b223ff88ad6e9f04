/- A part of the proof: RI, RJ, RK, M52, RL, S4, S5, S6, YX, W7, RN, RO, W8, RP, SA, SC, RS, RQ, RT, RU, RV, M18, PO, RW, RX, SO, RY, SPa, SPb, SPc, W9, SPd, SQa, CUa, W10, SQb, SQc, SQd, SKa. No condition. -/
import Derived.Test.YtleajkoecgbnlaaGreatCaT7
set_option linter.unusedVariables false
set_option linter.unusedSimpArgs false
set_option maxHeartbeats 8000000
set_option maxRecDepth 100000
namespace Go.Q15
open Go Go.QAbs
variable {r':AR}{v:AV}{ro:Bool}{e:Env}{f g:FuncId}{a z:Int}{Q:Jh}{A:List (Bool × List Blk)}{args caps cls es:LV}{k:List Fr}{l:List Nat}{s:B8}{c4 c5 d i ip ix j j4 la mb mx n o ob ox rx tx v4 ver w w4 wb:Nat}{x:Opd}{O:Orc}{st:St}{t:Tr}
structure WrOk(N:ZO)(t:Tr)(r':AR)(ro:Ro):Prop where
 rm:ro.m=t.mea
 rh:ro.h=t.h
 live:∃y,lk r'.nodes ro.at_=some y/\NdOk y/\y.h=t.h/\y.mea=t.mea
 txt:QT r'.nodes t.h ro.at_=t.txt N
def Exec(N:ZO)(t:Tr):Prop:=∀(r:AR),AROk r->GoodN r.nodes->Ext N r.nodes->t.cnt<=r.n->∀(rx:Nat) (its:List It) (R:List (Nat × Ro)) (ρ:Nat->Ro),AddT t rx its R->(∀p∈R,ρ p.1=p.2)->(R.map Prod.fst).Nodup ->
 ∃ρ',RunOk its r ρ (t.wr r).1 ρ' (t.wr r).2.2/\ρ' rx=(t.wr r).2.1/\(∀k,k∉R.map Prod.fst->ρ' k=ρ k)/\WrB r t.cnt (t.wr r).1 (t.wr r).2.2/\WrOk N t (t.wr r).1 (t.wr r).2.1
structure WrLs(N:ZO)(l:List Tr)(h:Nat)(r':AR)(ks:List Kid):Prop where
 len:ks.length=l.length
 m:ks.map Kid.m=l.map Tr.mea
 ok:∀k∈ks,KidOk h k/\k.at_≠0/\∃y,lk r'.nodes k.at_=some y/\NdOk y/\y.h=h/\y.mea=k.m
 txt:(ks.flatMap fun k=>QT r'.nodes h k.at_)=Tr.txtL N l
theorem ZwG{N:ZO}(hN:GoodN N){h:Nat}:∀(l:List Tr),(∀u∈l,Val N u/\u.h=h/\Big u)->(∀u∈l,Exec N u)->∀(r:AR),AROk r->GoodN r.nodes->Ext N r.nodes->Tr.cntL l<=r.n->∀(rs:List Nat) (its:List It) (R:List (Nat × Ro)) (ρ:Nat->Ro),AddL l rs its R->(∀p∈R,ρ p.1=p.2)->(R.map Prod.fst).Nodup ->
 ∃ρ',RunOk its r ρ (Tr.wrL l r).1 ρ' (Tr.wrL l r).2.2/\(rs.map fun k=>(ρ' k).kid)=(Tr.wrL l r).2.1/\(∀k,k∉R.map Prod.fst->ρ' k=ρ k)/\WrB r (Tr.cntL l) (Tr.wrL l r).1 (Tr.wrL l r).2.2/\WrLs N l h (Tr.wrL l r).1 (Tr.wrL l r).2.1:=by
 intro l
 induction l with
 | nil =>
  intro _ _ r ho hg hE hc rs its R ρ ha hR hnd
  cases ha
  exact⟨ρ,.nil,rfl,fun _ _=>rfl,.refl ho hg,⟨rfl,rfl,fun k hk=>by simp[Tr.wrL]at hk,rfl⟩⟩
 | cons t l ih =>
  intro hv hx r ho hg hE hc rs its R ρ ha hR hnd
  cases ha with
  | @cons _ _ rx rs i1 i2 R1 R2 ht hl =>
   rw[Tr.cntL]at hc;rw[List.map_append,List.nodup_append]at hnd;obtain⟨nd1,nd2,nd3⟩:=hnd
   obtain⟨ρ1,a1,a2,a3,a4,a5⟩:=hx t (by simp) r ho hg hE (by omega) rx i1 R1 ρ ht (fun p hp=>hR p (by simp[hp])) nd1
   have hn1:=a4.n
   have hd:∀p∈R2,p.1∉R1.map Prod.fst:=fun p hp q=>nd3 _ q _ (List.mem_map.2 ⟨p,hp,rfl⟩) rfl
   obtain⟨ρ2,b1,b2,b3,b4,b5⟩:=ih (fun u hu=>hv u (by simp[hu])) (fun u hu=>hx u (by simp[hu])) _ a4.ok a4.good (hE.trans a4.ext) (by omega) rs i2 R2 ρ1 hl (fun p hp=>by rw[a3 _ (hd p hp)];exact hR p (by simp[hp])) nd2
   obtain⟨rr,hrr,_,_⟩:=ht.root
   have hrx:rx∉R2.map Prod.fst:=fun q=>nd3 rx (List.mem_map.2 ⟨_,hrr,rfl⟩) rx q rfl
   obtain⟨v1,v2,v3⟩:=hv t (by simp)
   refine⟨ρ2,a1.append b1,?_,?_,?_,?_⟩
   ·rw[jC,b3 rx hrx,a2,b2];rfl
   ·intro k hk
    rw[List.map_append,List.mem_append,not_or]at hk;rw[b3 k hk.2,a3 k hk.1]
   ·rw[Tr.cntL];exact a4.trans b4
   ·obtain⟨y,y1,y2,y3,y4⟩:=a5.live
    have hh:=a4.ok.hnd y1;have hkm:((t.wr r).2.1.kid).m=t.mea:=a5.rm;have hka:((t.wr r).2.1.kid).at_=(t.wr r).2.1.at_:=rfl
    refine⟨by show _+1=_;rw[b5.len];rfl,?_,?_,?_⟩
    ·show ((t.wr r).2.1.kid).m::_=_
     rw[hkm,b5.m];rfl
    ·intro k hk
     rcases List.mem_cons.1 hk with rfl|q
     ·refine⟨?_,hh.2,y,b4.ext _ _ y1,y2,by rw[y3,v2],by rw[y4];exact hkm.symm⟩
      have hs:=v1.size hN v3;have hb:=v1.mea_ok.1
      have:=y2.kid (a:=(t.wr r).2.1.at_) (by rw[y3,y4,hb];exact hs) hh.1
      rw[y3,v2,y4,<- a5.rm]at this;exact this
     ·exact b5.ok k q
    ·show QT (Tr.wrL l (t.wr r).1).1.nodes h (t.wr r).2.1.at_++((Tr.wrL l (t.wr r).1).2.1.flatMap fun k=>QT (Tr.wrL l (t.wr r).1).1.nodes h k.at_)=_
     rw[b5.txt,Tr.txtL,<- a5.txt,v2]
     congr 1
     exact ZK2 a4.good b4.ext h _ y y1 (by rw[y3,v2])
theorem exec_ok{N:ZO}(hN:GoodN N)(hv:Val N t):t.bytes<=65536->Exec N t:=by
 induction hv with
 | @kept o h m k x h0 hx hok hh hm hk =>
  intro _ r ho hg hE hc rx its R ρ ha hR hnd
  have e:(Tr.mk o h m [] k).wr r=(r,⟨o,h,m⟩,[]):=by rw[Tr.wr,if_pos h0]
  have ec:(Tr.mk o h m [] k).cnt=0:=by rw[Tr.cnt,Tr.cntO_getD,hk,if_neg h0];rfl
  rw[e,ec]
  cases ha with
  | kept _ =>
   refine⟨ρ,.nil,hR (rx,⟨o,h,m⟩) (by simp),fun _ _=>rfl,.refl ho hg,⟨(ZQH h0).symm,rfl,⟨x,hE _ _ hx,hok,hh,by rw[ZQH h0];exact hm⟩,?_⟩⟩
   show QT r.nodes h o=_
   rw[ZK2 hN hE h o x hx hh,Tr.txt,if_neg h0,Tr.txtO_getD,hk]
   simp[Tr.txtL]
  | leaf=>exact absurd Y h0
  | inner=>exact absurd Y h0
 | @leaf s k h1 h2 hk =>
  intro _ r ho hg hE hc rx its R ρ ha hR hnd
  have e:(Tr.mk 0 0 .zero s k).wr r=(r.add ⟨0,s,none⟩,⟨r.next,0,JQ s⟩,[r.next]):=by rw[Tr.wr];simp
  have ec:(Tr.mk 0 0 .zero s k).cnt=1:=by rw[Tr.cnt,Tr.cntO_getD,hk];rfl
  rw[ec]at hc;rw[e,ec];have hx:NdOk ⟨0,s,none⟩:=.inl ⟨rfl,h1,h2,rfl⟩
  cases ha with
  | kept h0=>exact absurd Y h0
  | leaf =>
   have hρ:ρ rx=⟨0,0,JQ s⟩:=hR (rx,⟨0,0,JQ s⟩) (by simp)
   refine⟨ZQI ρ rx r.next,.cons (by omega) hx (fun k hk=>by simp[JN,Nd.ks]at hk) .nil,?_,fun k hk=>?_,.one ho (by omega) hg hx (fun k hk=>by simp[Nd.ks]at hk) (fun k hk=>by simp[Nd.ks]at hk),⟨(ZQG s k).symm,rfl,⟨(⟨0,s,none⟩:Nd).copy,?_,hx.copy,rfl,?_⟩,?_⟩⟩
   ·simp only[ZQI,if_true,hρ];rfl
   ·simp only[jC,List.map_nil,List.mem_singleton]at hk
    simp only[ZQI,if_neg hk]
   ·rw[ZKc ho (by omega),if_pos rfl]
   ·rw[ZQG];rfl
   ·show QT _ 0 r.next=_
    rw[QT,ZKc ho (by omega),if_pos rfl,Tr.txt,if_pos rfl,Tr.txtO_getD,hk]
    simp[Tr.txtL,Nd.copy]
 | @inner h l hh h2 h4 hl hb hv ih =>
  intro hb2 r ho hg hE hc rx its R ρ ha hR hnd
  have eb:(Tr.mk 0 (h+1) .zero [] (some l)).bytes=Tr.bytesL l:=by rw[Tr.bytes,Tr.bytesO];simp[Mea.zero]
  have hbs:∀u∈l,u.bytes<=65536:=fun u hu=>by
   obtain⟨i,hi,rfl⟩:=List.getElem_of_mem hu
   have h3:Tr.bytesL l=Tr.bytesL (l.take i)+(l[i].bytes+Tr.bytesL (l.drop (i+1))):=by
    conv=>lhs;rw[<- List.take_append_drop (i+1) l,Zs (jE hi),Tr.bytesL_append,Tr.bytesL_append]
    simp[Tr.bytesL];omega
   have n1:=Tr.bytesL_nonneg (l:=l.take i) (fun t ht=>by have:=(hv t (List.mem_of_mem_take ht)).pos.2;omega)
   have n2:=Tr.bytesL_nonneg (l:=l.drop (i+1)) (fun t ht=>by have:=(hv t (List.mem_of_mem_drop ht)).pos.2;omega)
   omega
  have ec:(Tr.mk 0 (h+1) .zero [] (some l)).cnt=Tr.cntL l+1:=by rw[Tr.cnt,Tr.cntO];simp;omega
  rw[ec]at hc
  have hbl:(Z7 (l.map Tr.mea)).b=Tr.bytesL l:=Zmo l fun u hu=>(hv u hu).mea_ok.1
  have e:(Tr.mk 0 (h+1) .zero [] (some l)).wr r=((Tr.wrL l r).1.add ⟨h+1,[],some (Tr.wrL l r).2.1⟩,⟨(Tr.wrL l r).1.next,h+1,Z7 ((Tr.wrL l r).2.1.map Kid.m)⟩,(Tr.wrL l r).2.2++[(Tr.wrL l r).1.next]):=by
   rw[Tr.wr];simp[Tr.wrO]
  rw[e,ec]
  cases ha with
  | kept h0=>exact absurd Y h0
  | @inner _ _ _ rs i1 R1 hal hn1 hx1 =>
   obtain⟨ρ1,a1,a2,a3,a4,a5⟩:=ZwG hN l (fun u hu=>⟨hv u hu,hl u hu,fun q=>hb u hu (by rw[<- hl u hu];exact q)⟩) (fun u hu=>ih u hu (hbs u hu)) r ho hg hE (by omega) rs i1 R1 ρ hal (fun p hp=>hR p (by simp[hp])) hn1
   have hρ:ρ1 rx=⟨0,h+1,Z7 (l.map Tr.mea)⟩:=by rw[a3 rx hx1];exact hR (rx,⟨0,h+1,Z7 (l.map Tr.mea)⟩) (by simp)
   have hn:0<(Tr.wrL l r).1.n:=by have:=a4.n;omega
   generalize hks:(Tr.wrL l r).2.1=ks at *
   generalize (Tr.wrL l r).1=r1 at *
   have hx:NdOk ⟨h+1,[],some ks⟩:=.inr ⟨h,ks,rfl,by omega,by have:=a5.len;omega,by have:=a5.len;omega,fun k hk=>(a5.ok k hk).1,by rw[a5.m,hbl];omega⟩
   have hki:ZTZ r1.nodes ⟨h+1,[],some ks⟩:=fun k hk=>by
    obtain⟨_,_,y,y1,y2,y3,y4⟩:=a5.ok k hk
    exact⟨y,y1,y2,by show y.h+1=h+1;omega,y4⟩
   have hnd2:JN ρ1 (.inn (h+1) rs)=⟨h+1,[],some ks⟩:=by rw[JN,a2]
   have hrun:RunOk [⟨rx,.inn (h+1) rs⟩] r1 ρ1 (r1.add ⟨h+1,[],some ks⟩) (ZQI ρ1 rx r1.next) [r1.next]:=by
    have:=RunOk.cons (it:=⟨rx,.inn (h+1) rs⟩) (ρ:=ρ1) hn (by rw[hnd2];exact hx) (by rw[hnd2];exact hki) .nil
    rw[hnd2]at this;exact this
   refine⟨ZQI ρ1 rx r1.next,a1.append hrun,?_,fun k hk=>?_,a4.trans (.one a4.ok hn a4.good hx hki (fun k hk=>(a5.ok k hk).2.1)),⟨?_,rfl,⟨(⟨h+1,[],some ks⟩:Nd).copy,?_,hx.copy,rfl,?_⟩,?_⟩⟩
   ·simp only[ZQI,if_true,hρ,Ro.wr,a5.m]
   ·rw[List.map_append,List.mem_append,not_or]at hk
    have:k≠rx:=fun q=>hk.2 (by simp[q])
    simp only[ZQI,if_neg this];exact a3 k hk.1
   ·rw[Zi7]
    show Z7 (ks.map Kid.m)=_
    rw[a5.m]
   ·rw[ZKc a4.ok hn,if_pos rfl]
   ·rw[Zi7,<- a5.m];rfl
   ·show QT _ (h+1) r1.next=_
    rw[QT,ZKc a4.ok hn,if_pos rfl,Tr.txt,if_pos rfl,Tr.txtO,<- a5.txt]
    show (ks.flatMap fun k=>QT (r1.add _).nodes h k.at_)=_
    have key:∀m:List Kid,(∀k∈m,k∈ks)->(m.flatMap fun k=>QT (r1.add ⟨h+1,[],some ks⟩).nodes h k.at_)=m.flatMap fun k=>QT r1.nodes h k.at_:=by
     intro m
     induction m with
     | nil=>intro _;rfl
     | cons k m ih2 =>
      intro q
      obtain⟨_,_,y,y1,y2,y3,y4⟩:=a5.ok k (q k (by simp))
      rw[List.flatMap_cons,List.flatMap_cons,ZK2 a4.good (Zi8 a4.ok hn _) h k.at_ y y1 y3,ih2 (fun w hw=>q w (by simp[hw]))]
    exact key ks fun _ h=>h
theorem ClsOk.get{F:List (Nat × Blk)}{cs:LV}{is:List It}(h:ClsOk n ip F cs is):∀ {j:Nat} {it:It},is[j]?=some it->∃c,cs[j]?=some c/\ClOk n ip F c it:=by
 induction h with
 | nil=>intro j it hj;simp at hj
 | cons hc ht ih =>
  intro j it hj
  cases j with
  | zero =>
   simp only[List.getElem?_cons_zero,oJ]at hj;subst hj;exact⟨_,rfl,hc⟩
  | succ j=>exact ih hj
def TdOk(st:St)(n tx ver j:Nat)(cls:LV)(td:AV):Prop:=(cls=[]/\td=.nils)\/(cls≠[]/\td=.ref n tx ver j (cls.length-j)/\st.get n tx=some (.arr 1 ver cls))
structure PenS(st:St)(n ip tx ver la b:Nat)(cls:LV)(its:List It)(F:List (Nat × Blk))(keys:List Nat)(rx:Nat)(ρ:Nat->Ro)(j:Nat):Prop where
 wr:st.wr n
 pen:∃td,st.get n ip=some (.arr 3 0 [.agg [.ptr la (b+5) 0 0 0,td,.ptr n rx 0 0 0]])/\TdOk st n tx ver j cls td
 cl:ClsOk n ip F cls its
 fx:∀p∈F,st.get n p.1=some p.2
 rts:∀k∈keys,st.get n k=some (.arr 5 0 [(ρ k).av])
 key:∀it∈its,it.rx∈keys/\∀k∈Zmp it.c,k∈keys
 rk:rx∈keys
 s1:∀k∈keys,k≠ip/\k≠tx
 s2:tx≠ip
 s3:∀p∈F,p.1∉keys/\p.1≠ip/\p.1≠tx
 ar:∀i,i=ip\/(cls≠[]/\i=tx)\/i∈keys\/(∃p∈F,i=p.1)->¬ (n=la/\b<=i/\i<=b+5)
 len:cls.length<1000000
 jl:j<=cls.length
theorem ZvU{b:Nat}{its:List It}{F:List (Nat × Blk)}{keys:List Nat}{ρ:Nat->Ro}(h:PenS st n ip tx ver la b cls its F keys rx ρ j)(hj:j=cls.length):S Tb ZBm [.ptr n ip 0 0 0] st=some (.tup [(ρ rx).av,.int .i64 0],st):=by
 obtain⟨td,h1,h2⟩:=h.pen;have h3:=h.rts rx h.rk
 refine QA Y (fun A hA=>?_)
 have g1:=fun L=>ZV hA (ro:=false) (L:=L) h1
 have g3:=fun L=>ZV hA (ro:=false) (L:=L) h3
 unfold Ro.av at g3 ⊢
 rcases h2 with⟨_,rfl⟩|⟨_,rfl,_⟩
 all_goals repeat'(first|refine ZE ?_|refine ZD ?_|refine ZG Y ?_|refine ZI Y Y ?_|refine ZB Y ?_|refine ZC ?_|refine Ze Y Y ?_|refine JI Y ?_|refine J8 Y ?_|(refine cm0 Y Y Y ?_ ?_<;>intro _<;>try omega)|refine ZF Y ?_|refine JM Y Y Y Y ?_|refine Zc Y Y Y ?_|refine Zy Y Y Y Y Y Y ?_|refine Zt Y (g1 _) Y Y ?_|refine Zt Y (g3 _) Y Y ?_|refine ZH ?_|refine ZP ?_|refine ZL ?_)
 all_goals try omega
 all_goals refine ZAB hA (by simp) Y Y Y Y Y ?_
 all_goals rfl
def ZIE(st:St)(n ip tx ver la b:Nat)(len:Nat)(rx:Nat)(r':AR)(k:Nat)(ro:Ro)(j:Nat):St :=
 ((Qy st la b r').upd n k (.arr 5 0 [ro.av])).upd n ip (.arr 3 0 [.agg [.ptr la (b+5) 0 0 0,.ref n tx ver (j+1) (len-j-1),.ptr n rx 0 0 0]])
theorem PenS.step{b:Nat}{its:List It}{F:List (Nat × Blk)}{keys:List Nat}{ρ:Nat->Ro}(h:PenS st n ip tx ver la b cls its F keys rx ρ j){r:AR}(hA:Has st la b r)(ho:AROk r)(hn:0<r.n){it:It}(hj:its[j]?=some it)
 (hx:NdOk (JN ρ it.c)) (hk:ZTZ r.nodes (JN ρ it.c)) :
 S Tb Xo [.ptr n ip 0 0 0] st=some (.tup [.int .u64 r.next,.bool (decide (cls.length=j+1)),.int .i64 0],ZIE st n ip tx ver la b cls.length rx (r.add (JN ρ it.c)) it.rx ((ρ it.rx).wr r.next) j) /\
 PenS (ZIE st n ip tx ver la b cls.length rx (r.add (JN ρ it.c)) it.rx ((ρ it.rx).wr r.next) j) n ip tx ver la b cls its F keys rx (ZQI ρ it.rx r.next) (j+1) /\
 Has (ZIE st n ip tx ver la b cls.length rx (r.add (JN ρ it.c)) it.rx ((ρ it.rx).wr r.next) j) la b (r.add (JN ρ it.c)):=by
 obtain⟨td,h1,h2⟩:=h.pen;obtain⟨cl,c1,c2⟩:=h.cl.get hj;have hjl:=(List.getElem?_eq_some_iff.1 c1).1;have hm:=jM hj;obtain⟨k1,k2⟩:=h.key it hm;have hrx:=h.rts it.rx k1;have hrp:=h.s1 it.rx k1
 have hne:cls≠[]:=fun q=>by rw[q]at c1;simp at c1
 rcases h2 with⟨q,_⟩|⟨_,rfl,h3⟩
 ·exact absurd q hne
 have hS:=ZvT (it:=it) (ρ:=ρ) (b0:=0) (b1:=0) (b2:=0) (cv:=.nils) h3 c1 c2 h.len h1 h.fx (fun k hk=>h.rts k (k2 k hk)) hrx hA ho hn hx hk h.wr (fun i hi=>h.ar i (by
  rcases hi with rfl|rfl|rfl|q
  ·exact .inr (.inr (.inl k1))
  ·exact .inl Y
  ·exact .inr (.inl ⟨hne,rfl⟩)
  ·exact .inr (.inr (.inr q)))) ⟨hrp.1,hrp.2,h.s2⟩
 have a1:∀i,¬ (n=la/\b<=i/\i<=b+5)->(Qy st la b (r.add (JN ρ it.c))).get n i=st.get n i:=fun i hi=>hA.out _ hi
 have g1:∀l' i',((Qy st la b (r.add (JN ρ it.c))).upd n it.rx (.arr 5 0 [((ρ it.rx).wr r.next).av])).get l' i'=if l'=n/\i'=it.rx then some (.arr 5 0 [((ρ it.rx).wr r.next).av]) else (Qy st la b (r.add (JN ρ it.c))).get l' i' :=
  fun l' i'=>St.get_upd ((a1 _ (h.ar _ (.inr (.inr (.inl k1))))).trans hrx) rfl
 have hp0:((Qy st la b (r.add (JN ρ it.c))).upd n it.rx (.arr 5 0 [((ρ it.rx).wr r.next).av])).get n ip=_:=(g1 n ip).trans ((if_neg (fun q=>hrp.1 q.2.symm)).trans ((a1 _ (h.ar _ (.inl rfl))).trans h1))
 have g2:∀l' i',(ZIE st n ip tx ver la b cls.length rx (r.add (JN ρ it.c)) it.rx ((ρ it.rx).wr r.next) j).get l' i'=if l'=n/\i'=ip then some (.arr 3 0 [.agg [.ptr la (b+5) 0 0 0,.ref n tx ver (j+1) (cls.length-j-1),.ptr n rx 0 0 0]]) else if l'=n/\i'=it.rx then some (.arr 5 0 [((ρ it.rx).wr r.next).av]) else (Qy st la b (r.add (JN ρ it.c))).get l' i':=fun l' i'=>by
  rw[ZIE,St.get_upd hp0 rfl,g1]
 have hw1:(Qy st la b (r.add (JN ρ it.c))).wr n:=ZP0 hA.cl.wr h.wr;have hwl:(Qy st la b (r.add (JN ρ it.c))).wr la:=(hA.put _).wr
 have hw2:∀ {l:Nat},(Qy st la b (r.add (JN ρ it.c))).wr l->(ZIE st n ip tx ver la b cls.length rx (r.add (JN ρ it.c)) it.rx ((ρ it.rx).wr r.next) j).wr l:=fun w=>St.wr_upd (St.wr_upd hw1 hw1) (St.wr_upd hw1 w)
 refine⟨hS,⟨hw2 hw1,⟨_,by rw[g2,if_pos ⟨rfl,rfl⟩,Nat.sub_sub],.inr ⟨hne,rfl,?_⟩⟩,h.cl,fun p hp=>?_,fun k hk=>?_,h.key,h.rk,h.s1,h.s2,h.s3,h.ar,h.len,hjl⟩,?_⟩
 ·rw[g2,if_neg (fun q=>h.s2 q.2),if_neg (fun q=>hrp.2 q.2.symm),a1 _ (h.ar _ (.inr (.inl ⟨hne,rfl⟩)))];exact h3
 ·obtain⟨q1,q2,q3⟩:=h.s3 p hp
  rw[g2,if_neg (fun q=>q2 q.2),if_neg (fun q=>q1 (by rw[q.2];exact k1)),a1 _ (h.ar _ (.inr (.inr (.inr ⟨p,hp,rfl⟩))))];exact h.fx p hp
 ·obtain⟨q1,q2⟩:=h.s1 k hk
  rw[g2,if_neg (fun q=>q1 q.2)]
  unfold ZQI
  by_cases e:k=it.rx
  ·subst e;rw[if_pos ⟨rfl,rfl⟩,if_pos rfl]
  ·rw[if_neg (fun q=>e q.2),if_neg e,a1 _ (h.ar _ (.inr (.inr (.inl hk))))];exact h.rts k hk
 ·have hP:=hA.put (r.add (JN ρ it.c))
  have n1:∀i,b<=i->i<=b+5->¬ (la=n/\i=ip)/\¬ (la=n/\i=it.rx):=fun i i1 i2=>⟨fun q=>h.ar ip (.inl rfl) ⟨q.1.symm,by omega,by omega⟩,fun q=>h.ar it.rx (.inr (.inr (.inl k1))) ⟨q.1.symm,by omega,by omega⟩⟩
  have gg:∀i,b<=i->i<=b+5->(ZIE st n ip tx ver la b cls.length rx (r.add (JN ρ it.c)) it.rx ((ρ it.rx).wr r.next) j).get la i=(Qy st la b (r.add (JN ρ it.c))).get la i:=fun i i1 i2=>by
   rw[g2,if_neg (n1 i i1 i2).1,if_neg (n1 i i1 i2).2]
  exact⟨hw2 hwl,(gg _ (by omega) (by omega)).trans hP.h0,(gg _ (by omega) (by omega)).trans hP.h1,(gg _ (by omega) (by omega)).trans hP.h2,(gg _ (by omega) (by omega)).trans hP.h3,(gg _ (by omega) (by omega)).trans hP.h4,(gg _ (by omega) (by omega)).trans hP.h5⟩
theorem ZGB{L:List Blk}{lv:Nat}{b:Blk}(T:List Blk)(h:St.get ⟨A,ro,L⟩ lv ix=some b):St.get ⟨A,ro,L++T⟩ lv ix=some b:=by
 unfold St.get at h ⊢
 simp only at h ⊢
 split
 ·rename_i q
  rw[if_pos q]at h;have h2:=(ZBL h).1;rw[jL (List.getElem?_eq_some_iff.1 h2).1];exact h
 ·rename_i q
  rw[if_neg q]at h;exact h
theorem HasR.app{L:List Blk}{b:Nat}{r:AR}(h:HasR ⟨A,ro,L⟩ la b r)(T:List Blk):HasR ⟨A,ro,L++T⟩ la b r :=
 ⟨ZGB T h.h0,ZGB T h.h1,ZGB T h.h2,ZGB T h.h3,ZGB T h.h4,ZGB T h.h5⟩
mutual
theorem AddT.keys:∀ {t:Tr} {rx:Nat} {its:List It} {R:List (Nat × Ro)},AddT t rx its R->rx∈R.map Prod.fst/\∀it∈its,it.rx∈R.map Prod.fst/\∀k∈Zmp it.c,k∈R.map Prod.fst
 | _,_,_,_,.kept h0=>⟨by simp,fun it h=>by simp at h⟩
 | _,_,_,_,.leaf=>⟨by simp,fun it h=>by simp only[List.mem_singleton]at h;subst h;exact⟨by simp,fun k hk=>by simp[Zmp]at hk⟩⟩
 | _,_,_,_,.inner hl hn hx=>by
  obtain⟨h1,h2⟩:=AddL.keys hl
  refine⟨by simp,fun it h=>?_⟩
  rcases List.mem_append.1 h with q|q
  ·obtain⟨a1,a2⟩:=h2 it q
   exact⟨by rw[List.map_append];exact List.mem_append_left _ a1,fun k hk=>by rw[List.map_append];exact List.mem_append_left _ (a2 k hk)⟩
  ·simp only[List.mem_singleton]at q
   subst q
   exact⟨by simp,fun k hk=>by rw[List.map_append];exact List.mem_append_left _ (h1 k hk)⟩
theorem AddL.keys:∀ {l:List Tr} {rs:List Nat} {its:List It} {R:List (Nat × Ro)},AddL l rs its R->(∀r∈rs,r∈R.map Prod.fst)/\∀it∈its,it.rx∈R.map Prod.fst/\∀k∈Zmp it.c,k∈R.map Prod.fst
 | _,_,_,_,.nil=>⟨fun r h=>by simp at h,fun it h=>by simp at h⟩
 | _,_,_,_,.cons ht hl=>by
  obtain⟨a1,a2⟩:=ht.keys;obtain⟨b1,b2⟩:=hl.keys
  refine⟨fun r h=>?_,fun it h=>?_⟩
  ·rw[List.map_append]
   rcases List.mem_cons.1 h with rfl|q
   ·exact List.mem_append_left _ a1
   ·exact List.mem_append_right _ (b1 r q)
  ·rw[List.map_append]
   rcases List.mem_append.1 h with q|q
   ·exact⟨List.mem_append_left _ (a2 it q).1,fun k hk=>List.mem_append_left _ ((a2 it q).2 k hk)⟩
   ·exact⟨List.mem_append_right _ (b2 it q).1,fun k hk=>List.mem_append_right _ ((b2 it q).2 k hk)⟩
end
def ZvV(R:List (Nat × Ro))(k:Nat):Ro:=((R.find? fun p=>p.1 == k).map Prod.snd).getD .zero
theorem Zi9:∀ {R:List (Nat × Ro)},(R.map Prod.fst).Nodup->∀p∈R,ZvV R p.1=p.2
 | [],_,p,hp=>by simp at hp
 | q::R,hn,p,hp=>by
  rw[jC,List.nodup_cons]at hn;unfold ZvV;rw[List.find?_cons]
  rcases List.mem_cons.1 hp with rfl|w
  ·simp
  ·have:q.1≠p.1:=fun e=>hn.1 (by rw[e];exact List.mem_map.2 ⟨p,w,rfl⟩)
   rw[show (q.1 == p.1)=false by simp[this]]
   exact Zi9 hn.2 p w
def PI(t:Tr)(its:List It)(rx:Nat)(ρ:Nat->Ro):Prop:=(IsEmpty t/\its=[]/\ρ rx=.zero)\/(∃N,Val N t)/\∃R,AddT t rx its R/\(∀p∈R,ρ p.1=p.2)/\(R.map Prod.fst).Nodup
def nw(t:Tr):Nat:=if t.old=0/\t.h=0/\t.text=[] then 0 else t.cnt
theorem ZTa{N:ZO}{t:Tr}(hv:Val N t):nw t=t.cnt:=by
 unfold nw
 cases hv with
 | kept h0=>rw[if_neg];simp[Tr.old,h0]
 | leaf h1=>rw[if_neg];rintro⟨_,_,q⟩;simp only[Tr.text]at q;rw[q]at h1;simp at h1
 | inner=>rw[if_neg];simp[Tr.h]
structure Begun(A:List (Bool × List Blk))(L L2:List Blk)(la b:Nat)(t:Tr)(tx ver:Nat)(cs:LV)(its:List It)(F:List (Nat × Blk))(keys:List Nat)(rx:Nat)(ρ:Nat->Ro):Prop where
 ps:PenS ⟨A,false,L2⟩ A.length (L.length+1) tx ver la b cs its F keys rx ρ 0
 len:L.length+2<=L2.length
 old:∀i,i<L.length->L2[i]?=L[i]?
 klo:∀k∈keys,L.length+2<=k
 flo:∀p∈F,L.length+2<=p.1
 tlo:cs≠[]->L.length+2<=tx
 pi:PI t its rx ρ
theorem ZpK{N:ZO}{A:List (Bool × List Blk)}{L:List Blk}{la b:Nat}{r:AR}(hA:HasR ⟨A,false,L⟩ la b r)(hN:r.n<=r.blk.length)(h16:r.states.length<=16384)(h6:r.n<65536){t:Tr}(hv:Val r.nodes t)(hb:t.bytes<=65536)(hn:t.cnt<=r.n):
 ∃L2 tx ver cs its F keys rx ρ,S Tb XN [.ptr la (b+5) 0 0 0,t.av] ⟨A,false,L⟩=some (.tup [.ptr A.length (L.length+1) 0 0 0,.int .i64 0],⟨A,false,L2⟩)/\Begun A L L2 la b t tx ver cs its F keys rx ρ:=by
 have hCk:=fun T=>ZTU (hA.app T).rd hv hb
 have hNw:=fun st=>Zuw hv (by omega) st
 have hSt:=fun T=>Zi6 (hA.app T) hN h16 h6
 unfold AR.statsAV at hSt;obtain⟨T,hT⟩:∃T:List Blk,T=[.arr 7 0 [t.av],.arr 3 0 [.agg [.ptr la (b+5) 0 0 0,.nils,.nilptr]]]:=⟨_,rfl⟩
 have hTl:T.length=2:=by rw[hT];rfl
 have hip:(L++T)[L.length+1]?=some (.arr 3 0 [.agg [.ptr la (b+5) 0 0 0,.nils,.nilptr]]):=by rw[JJ,hT];rfl
 have hP:Pen A (L++T) (L.length+1) (.ptr la (b+5) 0 0 0) .nils []:=⟨⟨_,hip⟩,.inl ⟨rfl,rfl⟩⟩
 obtain⟨L1,td1,rx,its,cs,R,F,hS,ha⟩:=ZwF hv hb hP (by simp;omega)
 obtain⟨⟨rp,p1⟩,p2⟩:=ha.pen;rw[lE]at p2;have hl1:=ha.frm.len;rw[lL,hTl]at hl1;have hlt1:L.length+1<L1.length:=(List.getElem?_eq_some_iff.1 p1).1
 have hkl:∀k∈R.map Prod.fst,L.length+2<=k:=fun k hk=>by
  obtain⟨p,hp,rfl⟩:=List.mem_map.1 hk
  have:=ha.rlo p hp
  rwa [lL,hTl]at this
 have hfl:∀p∈F,L.length+2<=p.1:=fun p hp=>by
  have:=ha.flo p hp
  rwa [lL,hTl]at this
 have hg:∀i,i≠L.length+1->∀B,(L1.set (L.length+1) B)[i]?=L1[i]?:=fun i hi B=>jS (fun q=>hi q.symm)
 obtain⟨q1,q2⟩:=ha.tr.keys
 have hbl:la=A.length->b+5<L.length:=fun e=>by
  have:=hA.h5
  subst e;rw[St.get_cur]at this;exact (List.getElem?_eq_some_iff.1 (ZBL this).1).1
 -- where the list lies
 obtain⟨tx,ver,t1,t2,t3⟩:∃tx ver,(cs=[]/\td1=.nils/\tx=L.length\/cs≠[]/\td1=.ref A.length tx ver 0 cs.length/\L1[tx]?=some (.arr 1 ver cs)/\L.length+2<=tx/\Yb (L.length+1) td1 tx)/\tx≠L.length+1/\(∀k,L.length+2<=k->¬ Yb (L.length+1) td1 k->k≠tx):=by
  rcases p2 with⟨e1,e2⟩|⟨tx,ver,e1,e2,e3,e4⟩
  ·exact⟨L.length,0,.inl ⟨e2,e1,rfl⟩,by omega,fun k hk _=>by omega⟩
  ·have hX:Yb (L.length+1) td1 tx:=.inr ⟨_,_,_,_,e1⟩
   refine⟨tx,ver,.inr ⟨e4,e1,e2,?_,hX⟩,e3,fun k hk hn q=>hn (by rw[q];exact hX)⟩
   rcases ha.frm.own tx hX with w|w
   ·rcases w with w|⟨_,_,_,_,w⟩
    ·exact absurd w e3
    ·simp at w
   ·rwa [lL,hTl]at w
 refine⟨L1.set (L.length+1) (.arr 3 0 [.agg [.ptr la (b+5) 0 0 0,td1,.ptr A.length rx 0 0 0]]),tx,ver,cs,its,F,R.map Prod.fst,rx,ZvV R,XW Y ?_,⟨⟨by simp[St.wr],⟨td1,by rw[St.get_cur,List.getElem?_set_self hlt1];rfl,?_⟩,ha.cl,?_,?_,q2,q1,?_,t2,?_,?_,?_,Nat.zero_le _⟩,by rw[List.length_set];omega,?_,hkl,hfl,fun hc=>(by
  rcases t1 with⟨w,_⟩|⟨_,_,_,w,_⟩
  ·exact absurd w hc
  ·exact w),.inr ⟨⟨_,hv⟩,R,ha.tr,Zi9 ha.nd,ha.nd⟩⟩⟩
 ·have e0:(⟨A,false,L⟩:St)=⟨A,false,L++[]⟩:=by rw[lN]
  rw[e0];rw[hT]at hS
  repeat'(first|refine Xu Y (QI _) (Qc _) Y Y ?_|refine Xu Y Y Y Y Y ?_|refine ZDs Y Y Y (Z0 _) ?_|refine ZE ?_|refine ZD ?_|refine ZG Y ?_|refine ZI Y Y ?_|refine ZB Y ?_|refine ZC ?_|refine ZYi (agg:=false) Y Y ?_|refine Ze Y Y ?_|(refine cm0 Y Y Y ?_ ?_<;>intro _<;>try omega)|(refine cm0 Y Y Y ?_ ?_<;>intro _<;>try omega)|refine ZF Y ?_|refine Zn Y Y Y ?_|refine ZA Y Y (by first|rfl|(simp only[lE,lN,lC,Zm,Zb,ZZ];first|done|rfl)) (hCk _) ?_|refine ZA Y Y (by first|rfl|(simp only[lE,lN,lC,Zm,Zb,ZZ];first|done|rfl)) (hNw _) ?_|refine ZA Y Y (by first|rfl|(simp only[lE,lN,lC,Zm,Zb,ZZ];first|done|rfl)) (hSt _) ?_|refine ZA Y Y (by first|rfl|(simp only[lE,lN,lC,Zm,Zb,ZZ];first|done|rfl)) (hS) ?_|refine ZH ?_)
  all_goals try omega
  refine Qs p1 Y Y Y ?_ Y ?_
  ·simp only[ZY,QO,if_pos (Nat.lt_succ_self _)]
  repeat'(first|refine ZE ?_|refine ZD ?_|refine ZG Y ?_|refine ZB Y ?_|refine ZC ?_|refine ZP ?_|refine ZL ?_)
  refine (Jo (.inr Y) Y Y Y Y).trans ?_;rfl
 ·rcases t1 with⟨e1,e2,e3⟩|⟨e0,e1,e2,e3⟩
  ·exact .inl ⟨e1,e2⟩
  ·exact .inr ⟨e0,e1,by rw[St.get_cur,hg _ t2,e2];rfl⟩
 ·intro p hp
  obtain⟨f1,f2⟩:=ha.fx p hp;obtain⟨w,v,es,f3,f4⟩:=ha.fw p hp
  have:p.1≠L.length+1:=fun q=>f2 (.inl q)
  rw[St.get_cur,hg _ this,f1,f3];rfl
 ·intro k hk
  obtain⟨p,hp,rfl⟩:=List.mem_map.1 hk;obtain⟨f1,f2⟩:=ha.rts.get hp
  have:p.1≠L.length+1:=fun q=>f2 (.inl q)
  rw[St.get_cur,hg _ this,f1,Zi9 ha.nd p hp];rfl
 ·intro k hk
  have h1:=hkl k hk;obtain⟨p,hp,rfl⟩:=List.mem_map.1 hk
  exact⟨by omega,t3 _ h1 (ha.rts.get hp).2⟩
 ·intro p hp
  obtain⟨f1,f2⟩:=ha.fx p hp;obtain⟨w,v,es,f3,f4⟩:=ha.fw p hp;have h1:=hfl p hp
  refine⟨fun q=>?_,by omega,t3 _ h1 f2⟩
  obtain⟨u,hu,e⟩:=List.mem_map.1 q;have f5:=(ha.rts.get hu).1;rw[e,f1,f3]at f5;simp only[oJ,Blk.arr.injEq]at f5;exact f4 f5.1
 ·intro i hi ⟨e1,e2,e3⟩
  have:=hbl e1.symm
  rcases hi with rfl|⟨c1,rfl⟩|q|⟨p,hp,rfl⟩
  ·omega
  ·rcases t1 with⟨w,_⟩|⟨_,_,_,w,_⟩
   ·exact c1 w
   ·omega
  ·have:=hkl i q;omega
  ·have:=hfl p hp;omega
 ·have h1:=ha.cl.len
  have h2:=ha.tr.cnt;omega
 ·intro i hi
  rw[hg i (by omega),ha.frm.old i (by rw[lL];omega) (fun q=>?_),jL hi]
  rcases q with q|⟨_,_,_,_,q⟩
  ·omega
  ·simp at q
theorem Zn3{A:List (Bool × List Blk)}{ro:Bool}{L:List Blk}{i:Nat}{b:Blk}(h:L[i]?=some b)(hv:vis (some b)=some b):St.get ⟨A,ro,L⟩ A.length i=some b:=by rw[St.get_cur,h,hv]
theorem ZpL{t:Tr}(ht:IsEmpty t)(st:St):S Tb ZA8 [t.av] st=some (.int .i64 (0:Nat),st) :=
 ZTY (c:=1) ht.ks (fun st=>ZH7 t ht st) st
theorem Zk8{A:List (Bool × List Blk)}{L:List Blk}{la b:Nat}{r:AR}(hA:HasR ⟨A,false,L⟩ la b r)(hN:r.n<=r.blk.length)(h16:r.states.length<=16384)(h6:r.n<65536){t:Tr}(ht:IsEmpty t):
 ∃L2 tx ver cs its F keys rx ρ,S Tb XN [.ptr la (b+5) 0 0 0,t.av] ⟨A,false,L⟩=some (.tup [.ptr A.length (L.length+1) 0 0 0,.int .i64 0],⟨A,false,L2⟩)/\Begun A L L2 la b t tx ver cs its F keys rx ρ:=by
 have hCk:=fun T=>ZUA (st:=⟨A,false,L++T⟩) (lv:=la) (ix:=b+5) ht
 have hNw:=fun st=>ZpL ht st
 have hSt:=fun T=>Zi6 (hA.app T) hN h16 h6
 unfold AR.statsAV at hSt
 have hbl:la=A.length->b+5<L.length:=fun e=>by
  have:=hA.h5
  subst e;rw[St.get_cur]at this;exact (List.getElem?_eq_some_iff.1 (ZBL this).1).1
 obtain⟨T,hT⟩:∃T:List Blk,T=[.arr 7 0 [t.av],.arr 3 0 [.agg [.ptr la (b+5) 0 0 0,.nils,.nilptr]]]:=⟨_,rfl⟩
 have hadd:S Tb Q7 [.ptr A.length (L.length+1) 0 0 0,t.av] ⟨A,false,L++T⟩=some (.ptr A.length ((L++T).length+1) 0 0 0,⟨A,false,(L++T)++[.arr 7 0 [t.av],.arr 5 0 [Ro.zero.av]]⟩):=by
  refine XW Y ?_
  have e0:(⟨A,false,L++T⟩:St)=⟨A,false,(L++T)++[]⟩:=by rw[lN]
  rw[e0];generalize L++T=L0;obtain⟨o,h,m,s,k⟩:=t;obtain⟨h1,h2,h3,h4,h5⟩:=ht;simp only[Tr.old,Tr.h,Tr.m,Tr.text,Tr.ks]at h1 h2 h3 h4 h5;subst h1 h2 h3 h4
  obtain⟨ka,hka,hka2⟩:∃ka,Tr.avO k=ka/\(ka=.nils\/ka=.lit []):=by
   cases k with
   | none=>exact⟨_,rfl,.inl Y⟩
   | some l=>have:l=[]:=h5;subst this;exact⟨_,rfl,.inr Y⟩
  simp only[Tr.av,Mea.zero,hka]at *
  rcases hka2 with rfl|rfl
  all_goals repeat'(first|refine Xu Y Y Y Y Y ?_|refine ZDs Y Y Y Y ?_|refine ZE ?_|refine ZD ?_|refine ZG Y ?_|refine ZI Y Y ?_|refine Z9 Y ?_|refine Zi Y Y Y Y ?_|refine ZB Y ?_|refine ZC ?_|refine ZGZ Y Y ?_|refine J8 Y ?_|(refine cm0 Y Y Y ?_ ?_<;>intro _<;>try omega)|(refine Y2 Y Y (fun _=>?_) (fun _=>?_)<;>try contradiction)|refine ZU Y ?_|refine Zn Y Y Y ?_|refine ZH ?_|refine ZP ?_|refine ZS ?_|refine ZL ?_|refine Z5 ?_)
  all_goals try first|contradiction|omega
  all_goals refine (Jo (.inr Y) Y Y Y Y).trans ?_
  all_goals rfl
 have hTl:T.length=2:=by rw[hT];rfl
 have hl2:(L++T).length=L.length+2:=by rw[lL,hTl]
 rw[hl2]at hadd
 have p1:((L++T)++[Blk.arr 7 0 [t.av],Blk.arr 5 0 [Ro.zero.av]])[L.length+1]?=some (.arr 3 0 [.agg [.ptr la (b+5) 0 0 0,.nils,.nilptr]]):=by
  rw[List.append_assoc,JJ,hT];rfl
 refine⟨((L++T)++[Blk.arr 7 0 [t.av],Blk.arr 5 0 [Ro.zero.av]]).set (L.length+1) (Blk.arr 3 0 [.agg [.ptr la (b+5) 0 0 0,.nils,.ptr A.length (L.length+3) 0 0 0]]),L.length,0,[],[],[],[L.length+3],L.length+3,fun _=>.zero,XW Y ?_,⟨⟨by simp[St.wr],⟨.nils,?_,.inl ⟨rfl,rfl⟩⟩,.nil,fun p hp=>by simp at hp,fun k hk=>?_,fun it hi=>by simp at hi,by simp,fun k hk=>?_,by omega,fun p hp=>by simp at hp,fun i hi=>?_,by simp,Nat.zero_le _⟩,by simp,fun i hi=>?_,fun k hk=>?_,fun p hp=>by simp at hp,fun hc=>absurd rfl hc,.inl ⟨ht,rfl,rfl⟩⟩⟩
 ·have e0:(⟨A,false,L⟩:St)=⟨A,false,L++[]⟩:=by rw[lN]
  rw[e0];rw[hT]at hadd p1 ⊢
  repeat'(first|refine Xu Y (QI _) (Qc _) Y Y ?_|refine Xu Y Y Y Y Y ?_|refine ZDs Y Y Y (Z0 _) ?_|refine ZE ?_|refine ZD ?_|refine ZG Y ?_|refine ZI Y Y ?_|refine ZB Y ?_|refine ZC ?_|refine ZYi (agg:=false) Y Y ?_|refine Ze Y Y ?_|(refine cm0 Y Y Y ?_ ?_<;>intro _<;>try omega)|(refine cm0 Y Y Y ?_ ?_<;>intro _<;>try omega)|refine ZF Y ?_|refine Zn Y Y Y ?_|refine ZA Y Y (by first|rfl|(simp only[lE,lN,lC,Zm,Zb,ZZ];first|done|rfl)) (hCk _) ?_|refine ZA Y Y (by first|rfl|(simp only[lE,lN,lC,Zm,Zb,ZZ];first|done|rfl)) (hNw _) ?_|refine ZA Y Y (by first|rfl|(simp only[lE,lN,lC,Zm,Zb,ZZ];first|done|rfl)) (hSt _) ?_|refine ZA Y Y (by first|rfl|(simp only[lE,lN,lC,Zm,Zb,ZZ];first|done|rfl)) (hadd) ?_|refine ZH ?_)
  all_goals try omega
  refine Qs p1 Y Y Y ?_ Y ?_
  ·simp only[ZY,QO,if_pos (Nat.lt_succ_self _)]
  repeat'(first|refine ZE ?_|refine ZD ?_|refine ZG Y ?_|refine ZB Y ?_|refine ZC ?_|refine ZP ?_|refine ZL ?_)
  refine (Jo (.inr Y) Y Y Y Y).trans ?_;rfl
 ·exact Zn3 (List.getElem?_set_self (by simp)) Y
 ·simp only[List.mem_singleton]at hk
  subst hk;refine Zn3 ?_ Y
  rw[jS (by omega),show L.length+3=(L++T).length+1 by rw[hl2],JJ];rfl
 ·simp only[List.mem_singleton]at hk
  omega
 ·rintro⟨e1,e2,e3⟩
  have:=hbl e1.symm
  rcases hi with rfl|⟨c1,rfl⟩|q|⟨p,hp,rfl⟩
  ·omega
  ·exact c1 Y
  ·simp only[List.mem_singleton]at q;omega
  ·simp at hp
 ·rw[jS (by omega),List.append_assoc,jL hi]
 ·simp only[List.mem_singleton]at hk
  omega
theorem ZpM{b lv:Nat}(st:St)(h:lv<b):ZY QO b st (.map lv ix)=some (.map lv ix,st):=by
 simp only[ZY,QO,if_pos h]
def Yc(l:List Nat):List (AV × AV):=l.map fun (h:Nat)=>(AV.int .u64 h,AV.bool true)
theorem Zk9(o:Nat):∀l:List Nat,ZBM (.int .u64 o) (Yc l)=some (if o∈l then some (.bool true) else none)
 | []=>rfl
 | p::l=>by
  rw[Yc,jC,ZBM]
  show (Option.bind (if IntKind.u64=IntKind.u64 then some ((o:Int) == (p:Int)) else none) fun b=>if b=true then some (some (AV.bool true)) else ZBM (.int .u64 o) (Yc l))=_
  rw[if_pos rfl,oS,Zk9 o l]
  by_cases q:o=p
  ·subst q;simp
  ·rw[if_neg (by simp;omega)]
   simp[q]
theorem ZXt(o:Nat):∀l:List Nat,o∉l->ZIb (.int .u64 o) (.bool true) (Yc l)=some (Yc (l++[o]))
 | [],_=>rfl
 | p::l,h=>by
  simp only[List.mem_cons,not_or]at h;rw[Yc,jC,ZIb]
  show (Option.bind (if IntKind.u64=IntKind.u64 then some ((o:Int) == (p:Int)) else none) fun b=>if b=true then some ((AV.int .u64 o,AV.bool true)::Yc l) else (ZIb (.int .u64 o) (.bool true) (Yc l)).map ((AV.int .u64 p,AV.bool true)::·))=_
  rw[if_pos rfl,oS,if_neg (by simp;omega),ZXt o l h.2]
  rfl
theorem ZK3{lv:Nat}(hg:st.get lv mx=some (.map (Yc l)))(o:Nat):lookV st 0 (.bool false) false (.int .u64 o) (.map lv mx)=some (.bool (decide (o∈l))):=by
 simp only[lookV,ZjS,hg,ZQT,oS,Y0,if_true,Zk9]
 by_cases q:o∈l
 ·simp[q,Zf7]
 ·simp[q,Zf7]
def Qj(h:Nat):AV:=.int .u64 h
section
variable {O:Orc}{k:List Fr}{Q:Jh}{e:Env}{A:List (Bool × List Blk)}{L:List Blk}{keep:List Nat}{is:List QAbs.PI}{d:Nat}
theorem ZuK{s:Opd}{lv jx bytes:Nat}{ys:LV}(hA:A=st.A++[(st.ro,st.L)])(hwr:st.wr lv)(hg:st.get lv jx=some (.arr w ver es))(hs:Zg e s=some (.ref lv jx ver 0 es.length))(hx:Zg e x=some (.lit ys))
 (hw:Ja w ys=true) (hsl:mapSt (ZY QO (lv+1)) ⟨A,false,L⟩ ys=some (ys,⟨A,false,L⟩)) (hl:es.length+ys.length<4294967296) (hb:bytes<=4096)
 (h:∀A',A'=(st.upd lv jx (.arr w (ver+1) (es++ys))).A++[((st.upd lv jx (.arr w (ver+1) (es++ys))).ro,(st.upd lv jx (.arr w (ver+1) (es++ys))).L)]->Is O is keep k Q ((d,.ref lv jx (ver+1) 0 (es.length+ys.length))::e) ⟨A',false,L⟩) :
 Is O (⟨some d,none,false,.app w bytes s x⟩::is) keep k Q e ⟨A,false,L⟩:=by
 have hlv:=St.get_le hg;refine Z4 (v:=.ref lv jx (ver+1) 0 (es.length+ys.length)) (st':=St.upd ⟨A,false,L⟩ lv jx (.arr w (ver+1) (es++ys))) ?_ ?_
 ·have hg':=ZV hA (ro:=false) (L:=L) hg
  have hw':=XL hA hlv hwr (ro:=false) (L:=L)
  simp only[Zl,evalPO,ZJ hs,ZJ hx,elems,oS,Jc,hw,if_true,hsl,Zg6,hg',ZMB,true_and,if_pos (show 0+es.length<=es.length/\es.length+ys.length<4294967296/\bytes<=4096 by omega),List.drop_zero]
  rw[List.take_of_length_le (by omega),St.put_upd hw' hg']
  rfl
 ·rw[Yt hA hlv]
  exact h _ Y
end
namespace Tr
mutual
def kwT:Tr->List Nat->List Nat
 | .mk o _ _ _ k,out=>kwO k (if o≠0/\o∉out then out++[o] else out)
def kwO:Option (List Tr)->List Nat->List Nat
 | none,out=>out
 | some l,out=>kwL l out
def kwL:List Tr->List Nat->List Nat
 | [],out=>out
 | t::l,out=>kwL l (kwT t out)
end
mutual
def siz:Tr->Nat
 | .mk _ _ _ _ k=>1+sizO k
def sizO:Option (List Tr)->Nat
 | none=>0
 | some l=>sizL l
def sizL:List Tr->Nat
 | []=>0
 | t::l=>siz t+sizL l
end
theorem kwL_append:∀(a b:List Tr) (out:List Nat),kwL (a++b) out=kwL b (kwL a out)
 | [],b,out=>rfl
 | t::a,b,out=>by rw[lC,kwL,kwL,kwL_append a b]
theorem sizL_append:∀a b,sizL (a++b)=sizL a+sizL b
 | [],b=>by simp[sizL]
 | t::a,b=>by rw[lC,sizL,sizL,sizL_append a b];omega
theorem kwO_getD(k:Option (List Tr))(out:List Nat):kwO k out=kwL (k.getD []) out:=by cases k<;>rfl
theorem sizO_getD(k:Option (List Tr)):sizO k=sizL (k.getD []):=by cases k<;>rfl
theorem kwT_len(t:Tr):∀out,(kwT t out).length<=out.length+t.siz:=by
 induction t using Tr.ind with
 | step o h m s k ih =>
  intro out;rw[kwT,siz,kwO_getD,sizO_getD]
  have key:∀(l:List Tr),(∀t∈l,∀out,(kwT t out).length<=out.length+t.siz)->∀out,(kwL l out).length<=out.length+sizL l:=by
   intro l
   induction l with
   | nil=>intro _ out;simp[kwL,sizL]
   | cons a l ih2 =>
    intro hl out;rw[kwL,sizL]
    have h1:=ih2 (fun t ht=>hl t (by simp[ht])) (kwT a out)
    have h2:=hl a (by simp) out
    omega
  have:=key (k.getD []) ih (if o≠0/\o∉out then out++[o] else out)
  split at this
  ·rename_i q;rw[if_pos q];rw[lL,List.length_singleton]at this;omega
  ·rename_i q;rw[if_neg q];omega
theorem kwL_len:∀(l:List Tr) (out:List Nat),(kwL l out).length<=out.length+sizL l
 | [],out=>by simp[kwL,sizL]
 | t::l,out=>by
  rw[kwL,sizL];have h1:=kwL_len l (kwT t out);have h2:=kwT_len t out;omega
end Tr
structure KS(st:St)(lv mb mx ob ox wb ver:Nat)(out:List Nat):Prop where
 wr:st.wr lv
 hm:st.get lv mb=some (.arr 1 0 [.map lv mx])
 hmx:st.get lv mx=some (.map (Yc out))
 ho:st.get lv ob=some (.arr 1 0 [.ref lv ox ver 0 out.length])
 hox:st.get lv ox=some (.arr 1 ver (out.map Qj))
 hw:st.get lv wb=some (.arr 1 0 [.func (.func Yx) [] [.ptr lv mb 0 0 0,.ptr lv ob 0 0 0,.ptr lv wb 0 0 0]])
 n1:mx≠ox
 n2:mx≠ob
 n3:ox≠ob
 n4:mb≠mx/\mb≠ox/\mb≠ob
 n5:wb≠mx/\wb≠ox/\wb≠ob
def Jj(st:St)(lv mx ob ox ver:Nat)(out:List Nat):St:=((st.upd lv mx (.map (Yc out))).upd lv ox (.arr 1 ver (out.map Qj))).upd lv ob (.arr 1 0 [.ref lv ox ver 0 out.length])
theorem KS.get{st:St}{lv mb mx ob ox wb ver:Nat}{out:List Nat}(h:KS st lv mb mx ob ox wb ver out)(v:Nat)(t:List Nat)(l' i':Nat):
 (Jj st lv mx ob ox v t).get l' i'=if l'=lv/\i'=ob then some (.arr 1 0 [.ref lv ox v 0 t.length]) else if l'=lv/\i'=ox then some (.arr 1 v (t.map Qj)) else if l'=lv/\i'=mx then some (.map (Yc t)) else st.get l' i':=by
 have g1:∀l' i',(st.upd lv mx (.map (Yc t))).get l' i'=if l'=lv/\i'=mx then some (.map (Yc t)) else st.get l' i':=fun l' i'=>St.get_upd h.hmx rfl
 have b1:(st.upd lv mx (.map (Yc t))).get lv ox=some (.arr 1 ver (out.map Qj)):=by rw[g1,if_neg (fun q=>h.n1 q.2.symm)];exact h.hox
 have g2:∀l' i',((st.upd lv mx (.map (Yc t))).upd lv ox (.arr 1 v (t.map Qj))).get l' i'=if l'=lv/\i'=ox then some (.arr 1 v (t.map Qj)) else (st.upd lv mx (.map (Yc t))).get l' i':=fun l' i'=>St.get_upd b1 rfl
 have b2:((st.upd lv mx (.map (Yc t))).upd lv ox (.arr 1 v (t.map Qj))).get lv ob=some (.arr 1 0 [.ref lv ox ver 0 out.length]):=by rw[g2,if_neg (fun q=>h.n3 q.2.symm),g1,if_neg (fun q=>h.n2 q.2.symm)];exact h.ho
 rw[Jj,St.get_upd b2 rfl,g2,g1]
theorem KS.put{st:St}{lv mb mx ob ox wb ver:Nat}{out:List Nat}(h:KS st lv mb mx ob ox wb ver out)(v:Nat)(t:List Nat):KS (Jj st lv mx ob ox v t) lv mb mx ob ox wb v t:=by
 refine⟨St.wr_upd (St.wr_upd (St.wr_upd h.wr h.wr) (St.wr_upd h.wr h.wr)) (St.wr_upd (St.wr_upd h.wr h.wr) (St.wr_upd h.wr h.wr)),?_,?_,?_,?_,?_,h.n1,h.n2,h.n3,h.n4,h.n5⟩
 ·rw[h.get,if_neg (fun q=>h.n4.2.2 q.2),if_neg (fun q=>h.n4.2.1 q.2),if_neg (fun q=>h.n4.1 q.2)];exact h.hm
 ·rw[h.get,if_neg (fun q=>h.n2 q.2),if_neg (fun q=>h.n1 q.2),if_pos ⟨rfl,rfl⟩]
 ·rw[h.get,if_pos ⟨rfl,rfl⟩]
 ·rw[h.get,if_neg (fun q=>h.n3 q.2),if_pos ⟨rfl,rfl⟩]
 ·rw[h.get,if_neg (fun q=>h.n5.2.2 q.2),if_neg (fun q=>h.n5.2.1 q.2),if_neg (fun q=>h.n5.1 q.2)];exact h.hw
theorem KS.same{st:St}{lv mb mx ob ox wb ver:Nat}{out:List Nat}(h:KS st lv mb mx ob ox wb ver out):Jj st lv mx ob ox ver out=st:=by
 rw[Jj,upd_same h.hmx,upd_same h.hox,upd_same h.ho]
theorem ZpN{st:St}{lv mx ob ox v1 v2:Nat}{s t:List Nat}(h1:mx≠ox)(h2:mx≠ob)(h3:ox≠ob):Jj (Jj st lv mx ob ox v1 s) lv mx ob ox v2 t=Jj st lv mx ob ox v2 t:=by
 unfold Jj;generalize Blk.map (Yc s)=a1;generalize Blk.map (Yc t)=a2;generalize Blk.arr 1 v1 (s.map Qj)=b1;generalize Blk.arr 1 v2 (t.map Qj)=b2;generalize Blk.arr 1 0 [AV.ref lv ox v1 0 s.length]=c1;generalize Blk.arr 1 0 [AV.ref lv ox v2 0 t.length]=c2
 rw[ZcN (st:=(st.upd lv mx a1).upd lv ox b1) (fun q=>h2 q.symm),ZcN (st:=st.upd lv mx a1) (fun q=>h1 q.symm),Zi3,ZcN (st:=(st.upd lv mx a2).upd lv ox b1) (fun q=>h3 q.symm),Zi3,Zi3]
theorem Zmq{st:St}{A:List (Bool × List Blk)}{ro:Bool}{L:List Blk}(hA:A=st.A++[(st.ro,st.L)]){lv mx ob ox ver:Nat}{t:List Nat}(hl:lv<=st.A.length):
 Jj ⟨A,ro,L⟩ lv mx ob ox ver t=⟨(Jj st lv mx ob ox ver t).A++[((Jj st lv mx ob ox ver t).ro,(Jj st lv mx ob ox ver t).L)],ro,L⟩:=by
 unfold Jj;rw[Yt hA hl]
 have e2:=fun (b:Blk)=>Yt (st:=st.upd lv mx (.map (Yc t))) (A:=(st.upd lv mx (.map (Yc t))).A++[((st.upd lv mx (.map (Yc t))).ro,(st.upd lv mx (.map (Yc t))).L)]) (ro:=ro) (L:=L) (lv:=lv) (ix:=ox) (b:=b) rfl (by rw[St.upd_A];exact hl)
 rw[e2]
 exact Yt Y (by rw[St.upd_A,St.upd_A];exact hl)
theorem KS.push{st:St}{A:List (Bool × List Blk)}{ro:Bool}{L:List Blk}(hA:A=st.A++[(st.ro,st.L)]){lv mb mx ob ox wb ver:Nat}{out:List Nat}(h:KS st lv mb mx ob ox wb ver out):KS ⟨A,ro,L⟩ lv mb mx ob ox wb ver out :=
 ⟨XL hA (St.get_le h.hm) h.wr,ZV hA h.hm,ZV hA h.hmx,ZV hA h.ho,ZV hA h.hox,ZV hA h.hw,h.n1,h.n2,h.n3,h.n4,h.n5⟩
theorem ZuL(st:St)(lv mx ob ox ver:Nat)(out:List Nat):(Jj st lv mx ob ox ver out).A.length=st.A.length:=by
 unfold Jj;rw[St.upd_A,St.upd_A,St.upd_A]
theorem ZuM(t:Tr):t.Pos->∀ {st:St} {lv mb mx ob ox wb ver:Nat} {out:List Nat},KS st lv mb mx ob ox wb ver out->out.length+t.siz<4294967296 ->
 Sp Tb Yx [t.av,.ptr lv mb 0 0 0,.ptr lv ob 0 0 0,.ptr lv wb 0 0 0] st fun v st'=>v=.tup []/\∃ver',st'=Jj st lv mx ob ox ver' (t.kwT out):=by
 induction t using Tr.ind with
 | step o h m s k ih =>
  intro hp st lv mb mx ob ox wb ver out hs hl
  cases hp with
  | mk h0 h4 hk2 =>
  have e1:(Tr.mk o h m s k).kwT out=Tr.kwL (k.getD []) (if o≠0/\o∉out then out++[o] else out):=by rw[Tr.kwT,Tr.kwO_getD]
  have e2:(Tr.mk o h m s k).siz=1+Tr.sizL (k.getD []):=by rw[Tr.siz,Tr.sizO_getD]
  rw[e1];rw[e2]at hl;refine Zng Y ?_;obtain⟨A,hA⟩:∃A,A=st.A++[(st.ro,st.L)]:=⟨_,rfl⟩;rw[<- hA];have hlv:=St.get_le hs.hm
  have hav:(Tr.mk o h m s k).av=.agg [.int .u64 o,.int .i64 h,.int .i64 m.b,.int .i64 m.r,.int .i64 m.l,.str s,slV Tr.av k]:=by rw[Tr.av,Tr.avO_sl]
  -- the loop over the children
  have key:∀(ver1:Nat) (out1:List Nat) (A1:List (Bool × List Blk)),A1=(Jj st lv mx ob ox ver1 out1).A++[((Jj st lv mx ob ox ver1 out1).ro,(Jj st lv mx ob ox ver1 out1).L)]->out1.length<=out.length+1->∀e:Env,e=[(3,.ptr lv wb 0 0 0),(4,.ptr A.length 0 0 0 0)]\/e=[(1,.ptr lv mb 0 0 0),(2,.ptr lv ob 0 0 0),(3,.ptr lv wb 0 0 0),(4,.ptr A.length 0 0 0 0),(16,.bool false)] ->
   Ru (S Tb) (.seq ZIV (.block 0 (.loop ZB5))) [] (fun x e st''=>∃v st',Jm false ([]:List RV) (x,e,st'')=some (v,st')/\v=.tup []/\∃ver',st'=Jj st lv mx ob ox ver' (Tr.kwL (k.getD []) out1)) e ⟨A1,false,[.arr 7 0 [(Tr.mk o h m s k).av]]⟩:=by
   intro ver1 out1 A1 hA1 hl1 e he
   have hAl:A.length=A1.length:=by rw[hA,hA1];simp[ZuL]
   rw[hAl]at he;rw[hav]
   cases k with
   | none =>
    simp only[slV]
    rcases he with rfl|rfl
    all_goals repeat'(first|refine ZE ?_|refine ZD ?_|refine ZG Y ?_|refine ZI Y Y ?_|refine ZQ Y Y Y Y ?_|refine ZB Y ?_|refine ZC ?_|refine J8 Y ?_|(refine cm0 Y Y Y ?_ ?_<;>intro _<;>try omega)|refine ZF Y ?_|refine YD ?_|refine Zz ?_|refine ZS ?_|refine ZL ?_|refine Zk ?_|refine Zh Y ?_)
    all_goals try omega
    all_goals exact⟨_,_,ZX hA1 (.inl Y) Y Y Y Y Y,rfl,ver1,rfl⟩
   | some l =>
    simp only[Option.getD]at h4 hk2 ih hl ⊢;simp only[slV]
    have hloop:Ru (S Tb) (.loop ZB5) [.blk 0] (fun x e st''=>∃v st',Jm false ([]:List RV) (x,e,st'')=some (v,st')/\v=.tup []/\∃ver',st'=Jj st lv mx ob ox ver' (Tr.kwL l out1)) [(3,.ptr lv wb 0 0 0),(26,.lit (l.map Tr.av)),(27,.int .i64 l.length),(28,.int .i64 0)] ⟨A1,false,[.arr 7 0 [.agg [.int .u64 o,.int .i64 h,.int .i64 m.b,.int .i64 m.r,.int .i64 m.l,.str s,.lit (l.map Tr.av)]]]⟩:=by
     refine Z2 (α:=Nat × List Blk × Nat) (fun p=>[(3,.ptr lv wb 0 0 0),(26,.lit (l.map Tr.av)),(27,.int .i64 l.length),(28,.int .i64 p.1)])
      (fun p=>⟨(Jj st lv mx ob ox p.2.2 (Tr.kwL (l.take p.1) out1)).A++[((Jj st lv mx ob ox p.2.2 (Tr.kwL (l.take p.1) out1)).ro,(Jj st lv mx ob ox p.2.2 (Tr.kwL (l.take p.1) out1)).L)],false,.arr 7 0 [.agg [.int .u64 o,.int .i64 h,.int .i64 m.b,.int .i64 m.r,.int .i64 m.l,.str s,.lit (l.map Tr.av)]]::p.2.1⟩)
      (fun p=>p.1<=l.length) (fun p=>l.length-p.1) (0,[],ver1) rfl ?_ (by simp) ?_
     ·simp only[List.take_zero,Tr.kwL,<- hA1]
     rintro⟨i,G,ver2⟩ hi
     simp only at hi ⊢
     have hk3:=hs.put ver2 (Tr.kwL (l.take i) out1)
     have hpp:∀v3 t3,Jj (Jj st lv mx ob ox ver2 (Tr.kwL (l.take i) out1)) lv mx ob ox v3 t3=Jj st lv mx ob ox v3 t3:=fun v3 t3=>ZpN hs.n1 hs.n2 hs.n3
     generalize hs1:Jj st lv mx ob ox ver2 (Tr.kwL (l.take i) out1)=st1 at *
     obtain⟨A2,hA2⟩:∃A2,A2=st1.A++[(st1.ro,st1.L)]:=⟨_,rfl⟩;rw[<- hA2]
     have hgw:=fun L=>ZV hA2 (ro:=false) (L:=L) hk3.hw
     repeat'(first|refine ZE ?_|refine ZD ?_|refine ZB Y ?_|refine ZC ?_|(refine cm0 Y Y Y ?_ ?_<;>intro _<;>try omega)|refine ZU Y ?_|refine ZF Y ?_|refine Zw Y Y Y ?_|refine Yi Y Y (by omega) QI (fun _ _=>?_)|refine Qt Y (Z0 _) ?_|refine Q1 Y Y Y (Qn _ _ _) (JR _ _) Y ?_|refine ZH ?_|refine Zz ?_|refine ZS ?_|refine ZL ?_|refine Zk ?_|refine Zh Y ?_|refine Zx ?_)
     ·rename_i u hu
      have hu2:l[i]?=some u:=hu;have hum:=jM hu2;have hle:lv<=st1.A.length:=St.get_le hk3.hm
      have hsum:Tr.sizL l=Tr.sizL (l.take i)+(u.siz+Tr.sizL (l.drop (i+1))):=by
       conv=>lhs;rw[<- List.take_append_drop (i+1) l,Zs hu2,Tr.sizL_append,Tr.sizL_append]
       simp[Tr.sizL];omega
      have hlen:=Tr.kwL_len (l.take i) out1
      have ihu:=fun L=>ih u hum (hk2 u hum) (hk3.push hA2 (ro:=false) (L:=L)) (by omega)
      have hkw:Tr.kwL (l.take (i+1)) out1=u.kwT (Tr.kwL (l.take i) out1):=by
       rw[Zs hu2,Tr.kwL_append];rfl
      refine Zt Y (hgw _) Y Y ?_
      repeat'(refine Ql Y Y (Z0 _) ?_)
      refine Znf Y Y (wk4 _ _ _ _ Y Y Y) (ihu _) ?_
      rintro v st' ⟨rfl,v3,rfl⟩
      rw[Zmq hA2 hle,hpp,<- hkw]
      repeat'(first|refine ZD ?_|refine ZG Y ?_|refine ZB Y ?_|refine ZC ?_|refine Zr Y Y (by omega) ?_|refine Z5 ?_|refine QJ ?_)
      exact⟨(i+1,_,v3),⟨rfl,rfl⟩,by simp only;omega,by simp only;omega⟩
     ·have hi':i=l.length:=by omega
      subst hi'
      rw[List.take_length]at *
      exact⟨_,_,ZX hA2 (.inl Y) Y Y Y Y Y,rfl,ver2,hs1.symm⟩
    rcases he with rfl|rfl
    all_goals repeat'(first|exact hloop|refine ZE ?_|refine ZD ?_|refine ZG Y ?_|refine ZI Y Y ?_|refine ZQ Y Y Y Y ?_|refine ZB Y ?_|refine ZC ?_|refine Qo Y ?_|refine ZS ?_)
  have hg1:=fun L=>ZV hA (ro:=false) (L:=L) hs.hm
  have hg2:=fun L=>ZV hA (ro:=false) (L:=L) hs.hmx
  have hlk:=fun L=>ZK3 (hg2 L) o
  have hkey0:=key ver out A (by rw[hs.same];exact hA) (by omega) _ (.inr Y)
  have hwide:=QI (Tr.mk o h m s k);have hforce:=Qc (Tr.mk o h m s k);rw[hav]at hwide hforce
  by_cases ho:o=0
  ·subst ho
   rw[if_neg (by simp)]
   rw[hav]at hkey0 ⊢
   repeat'(first|refine Zw Y hwide hforce ?_|exact hkey0|refine ZE ?_|refine ZD ?_|refine ZG Y ?_|refine ZI Y Y ?_|refine ZQ Y Y Y Y ?_|refine Ji Y Y ?_|refine Zi Y Y Y Y ?_|refine ZB Y ?_|refine ZC ?_|(refine cm0 Y Y Y ?_ ?_<;>intro _<;>try omega)|refine ZF Y ?_|refine ZH ?_)
   all_goals contradiction
  ·by_cases hm:o∈out
   ·rw[if_neg (by simp[hm])]
    rw[hav]at hkey0 ⊢;rw[decide_eq_true hm]at hlk
    repeat'(first|refine Zw Y hwide hforce ?_|exact hkey0|refine ZE ?_|refine ZD ?_|refine ZG Y ?_|refine ZI Y Y ?_|refine ZQ Y Y Y Y ?_|refine Z9 Y ?_|refine Zi Y Y Y Y ?_|refine ZB Y ?_|refine ZC ?_|(refine cm0 Y Y Y ?_ ?_<;>intro _<;>try omega)|refine ZF Y ?_|refine YA Y Y ?_|refine Zt Y (hg1 _) Y Y ?_|refine ZAN Y Y (hlk _) ?_|refine ZH ?_)
    all_goals contradiction
   ·rw[if_pos ⟨ho,hm⟩]
    have hkey:=key (ver+1) (out++[o]);rw[hav]at hkey ⊢;rw[decide_eq_false hm]at hlk
    repeat'(first|refine Zw Y hwide hforce ?_|refine ZE ?_|refine ZD ?_|refine ZG Y ?_|refine ZI Y Y ?_|refine ZQ Y Y Y Y ?_|refine Z9 Y ?_|refine Zi Y Y Y Y ?_|refine ZB Y ?_|refine ZC ?_|(refine cm0 Y Y Y ?_ ?_<;>intro _<;>try omega)|refine ZU Y ?_|refine YA Y Y ?_|refine Zt Y (hg1 _) Y Y ?_|refine ZAN Y Y (hlk _) ?_)
    all_goals try contradiction
    refine Zkz hA Y Y Y hs.wr hs.hmx Y (ZXt o out hm) (fun A' hA'=>?_)
    have q1:∀l' i',(st.upd lv mx (.map (Yc (out++[o])))).get l' i'=if l'=lv/\i'=mx then some (.map (Yc (out++[o]))) else st.get l' i':=fun l' i'=>St.get_upd hs.hmx rfl
    have ka:(st.upd lv mx (.map (Yc (out++[o])))).get lv ob=some (.arr 1 0 [.ref lv ox ver 0 out.length]):=by rw[q1,if_neg (fun q=>hs.n2 q.2.symm)];exact hs.ho
    have kb:(st.upd lv mx (.map (Yc (out++[o])))).get lv ox=some (.arr 1 ver (out.map Qj)):=by rw[q1,if_neg (fun q=>hs.n1 q.2.symm)];exact hs.hox
    have hw1:=St.wr_upd (b:=.map (Yc (out++[o]))) (ix:=mx) hs.wr hs.wr
    have hAl:A.length=A'.length:=by rw[hA,hA'];simp[St.upd_A]
    rw[hAl]at hkey ⊢
    have hput:Jj st lv mx ob ox (ver+1) (out++[o])=((st.upd lv mx (.map (Yc (out++[o])))).upd lv ox (.arr 1 (ver+1) (out.map Qj++[.int .u64 o]))).upd lv ob (.arr 1 0 [.ref lv ox (ver+1) 0 (out.length+1)]):=by
     unfold Jj;rw[List.map_append,lL];rfl
    rw[hput]at hkey;clear hput q1
    generalize st.upd lv mx (.map (Yc (out++[o])))=st1 at *
    have hg3:=fun L=>ZV hA' (ro:=false) (L:=L) ka
    repeat'(first|refine ZD ?_|refine ZI Y Y ?_|refine ZQ Y Y Y Y ?_|refine ZB Y ?_|refine ZC ?_|refine Q2 Y Y Y Y ?_|refine Zt Y (hg3 _) Y Y ?_)
    refine ZuK hA' hw1 kb (by rw[List.length_map];rfl) rfl rfl rfl (by simp;omega) (by decide) (fun A2 hA2=>?_)
    have q2:∀l' i',(st1.upd lv ox (.arr 1 (ver+1) (out.map Qj++[.int .u64 o]))).get l' i'=if l'=lv/\i'=ox then some (.arr 1 (ver+1) (out.map Qj++[.int .u64 o])) else st1.get l' i':=fun l' i'=>St.get_upd kb rfl
    have kc:(st1.upd lv ox (.arr 1 (ver+1) (out.map Qj++[.int .u64 o]))).get lv ob=some (.arr 1 0 [.ref lv ox ver 0 out.length]):=by rw[q2,if_neg (fun q=>hs.n3 q.2.symm)];exact ka
    have hw2:=St.wr_upd (b:=.arr 1 (ver+1) (out.map Qj++[.int .u64 o])) (ix:=ox) hw1 hw1
    have hAl2:A'.length=A2.length:=by rw[hA',hA2];simp[St.upd_A]
    rw[hAl2]at hkey ⊢
    generalize st1.upd lv ox (.arr 1 (ver+1) (out.map Qj++[.int .u64 o]))=st2 at *
    refine ZJc hA2 Y Y hw2 kc Y (Qu _ (Nat.lt_succ_self _)) Y (fun A3 hA3=>?_)
    have hAl3:A2.length=A3.length:=by rw[hA2,hA3];simp[St.upd_A]
    rw[hAl3]at hkey ⊢
    have hk:=hkey A3 (by rw[hA3];simp) (by simp) _ (.inl rfl)
    repeat'(first|exact hk|refine ZB Y ?_|refine ZC ?_)
theorem ZvW{t:Tr}(hp:t.Pos)(hsz:t.siz<4294967296)(st:St):S Tb ZJf [t.av] st=some (.lit ((t.kwT []).map Qj),st):=by
 refine QA Y (fun A hA=>?_)
 have hW:∀L,L=[.arr 7 0 [t.av],.arr 1 0 [],.arr 1 0 [.ref A.length 1 0 0 0],.map [],.arr 1 0 [.map A.length 3],.arr 1 0 [.func (.func Yx) [] [.ptr A.length 4 0 0 0,.ptr A.length 2 0 0 0,.ptr A.length 5 0 0 0]]] ->
  Sp Tb Yx [t.av,.ptr A.length 4 0 0 0,.ptr A.length 2 0 0 0,.ptr A.length 5 0 0 0] ⟨A,false,L⟩ fun v st'=>v=.tup []/\∃ver',st'=Jj ⟨A,false,L⟩ A.length 3 2 1 ver' (t.kwT []):=by
  rintro L rfl
  refine ZuM t hp (ver:=0) (mb:=4) (mx:=3) (ob:=2) (ox:=1) (wb:=5) ⟨by simp[St.wr],by rw[St.get_cur];rfl,by rw[St.get_cur];rfl,by rw[St.get_cur];rfl,by rw[St.get_cur];rfl,by rw[St.get_cur];rfl,by decide,by decide,by decide,by decide,by decide⟩ (by simp;omega)
 repeat'(first|refine ZE ?_|refine ZD ?_|refine ZG Y ?_|refine ZQ Y Y Y Y ?_|refine ZB Y ?_|refine ZC ?_|refine YN Y Y ?_|refine Zc Y Y Y ?_|refine ZCm Y ?_|refine ZFE Y ?_|refine ZQ Y Y Y (Z0 _) ?_|refine Zw Y (QI _) (Qc _) ?_|refine Zy Y Y Y (ZpM _ (Nat.lt_succ_self _)) Y Y ?_|refine Zy Y Y Y (Zk5 _ (Nat.lt_succ_self _)) Y Y ?_)
 refine Znf Y Y (wk4 _ _ _ _ Y Y Y) (hW _ Y) ?_
 rintro v st' ⟨rfl,v2,rfl⟩
 have hpc:∀b0 b1 b2 b3 b4 b5 w,Jj ⟨A,false,[b0,b1,b2,b3,b4,b5]⟩ A.length 3 2 1 v2 w=⟨A,false,[b0,.arr 1 v2 (w.map Qj),.arr 1 0 [.ref A.length 1 v2 0 w.length],.map (Yc w),b4,b5]⟩:=by
  intro b0 b1 b2 b3 b4 b5 w
  simp[Jj,St.upd]
 rw[hpc]
 generalize t.kwT []=w at *
 repeat'(first|refine ZE ?_|refine ZD ?_|refine ZG Y ?_|refine ZQ Y Y Y Y ?_|refine ZB Y ?_|refine ZC ?_|refine ZP ?_|refine ZL ?_)
 refine ZGV (es:=w.map Qj) hA (by simp) Y Y (by simp) (by intro v hv;obtain⟨x,_,rfl⟩:=List.mem_map.1 hv;rfl) ?_
 rfl
def wrV(t:Tr)(r:AR):AR × Ro × List Nat:=if t.old=0/\t.h=0/\t.text=[] then (r,.zero,[]) else t.wr r
theorem Zn4{N:ZO}(hv:Val N t)(r:AR):wrV t r=t.wr r:=by
 unfold wrV
 cases hv with
 | kept h0=>rw[if_neg];simp[Tr.old,h0]
 | leaf h1=>rw[if_neg];rintro⟨_,_,q⟩;simp only[Tr.text]at q;rw[q]at h1;simp at h1
 | inner=>rw[if_neg];simp[Tr.h]
theorem Zgo(h:IsEmpty t)(r:AR):wrV t r=(r,.zero,[]):=by
 unfold wrV;rw[if_pos ⟨h.old,h.h,h.text⟩]
theorem Val.not_empty{N:ZO}(hv:Val N t):¬ IsEmpty t:=fun h=>by
 have:=hv.pos.2
 have:=h.bytes
 omega
theorem PI.run{r:AR}(ho:AROk r)(hg:GoodN r.nodes)(hv:VE r.nodes t)(hb:t.bytes<=65536)(hn:nw t<=r.n){its:List It}{ρ:Nat->Ro}(h:PI t its rx ρ):
 ∃ρ',RunOk its r ρ (wrV t r).1 ρ' (wrV t r).2.2/\ρ' rx=(wrV t r).2.1:=by
 rcases h with⟨h1,rfl,h2⟩|⟨⟨M,hM⟩,R,h1,h2,h3⟩
 ·rw[Zgo h1];exact⟨ρ,.nil,h2⟩
 ·rcases hv with hv|hv
  ·exact absurd hv hM.not_empty
  ·rw[Zn4 hv]
   rw[ZTa hv]at hn;obtain⟨ρ',a1,a2,_⟩:=exec_ok hg hv hb r ho hg (.refl _) hn rx its R ρ h1 h2 h3;exact⟨ρ',a1,a2⟩
theorem Zn5{L:List Blk}{b:Nat}{r:AR}(hA:HasR ⟨A,false,L⟩ la b r)(hN:r.n<=r.blk.length)(h16:r.states.length<=16384)(h6:r.n<65536)(hv:VE r.nodes t)(hb:t.bytes<=65536)(hn:nw t<=r.n):
 ∃L2 tx ver cs its F keys rx ρ,S Tb XN [.ptr la (b+5) 0 0 0,t.av] ⟨A,false,L⟩=some (.tup [.ptr A.length (L.length+1) 0 0 0,.int .i64 0],⟨A,false,L2⟩)/\Begun A L L2 la b t tx ver cs its F keys rx ρ:=by
 rcases hv with hv|hv
 ·exact Zk8 hA hN h16 h6 hv
 ·rw[ZTa hv]at hn
  exact ZpK (N:=r.nodes) hA hN h16 h6 hv hb hn
theorem ZuN{L:List Blk}{ro:Ro}{e:Int}(hg:L[ix]?=some (.arr 1 ver (l.map Qj)))(hn:n=l.length):
 ZY QO A.length ⟨A,false,L⟩ (.tup [ro.av,.ref A.length ix ver 0 n,.int .i64 e])=some (.tup [ro.av,.lit (l.map Qj),.int .i64 e],⟨A,false,L.set ix .dead⟩):=by
 subst hn
 have h1:=ZFF (n:=4) (A:=A) (s:=0) (m:=l.length) hg (by simp) (es':=l.map Qj) (by
  rw[List.drop_zero,List.take_of_length_le (by simp)]
  exact ZK1 (k:=.u64) (fun n:Nat=>(n:Int)) 3 0 _ l)
 show (mapSt (ZY 5 A.length) _ _).bind Zcy=_
 have h2:ZY 5 A.length ⟨A,false,L⟩ ro.av=some (ro.av,⟨A,false,L⟩):=rfl;simp only[mapSt,h2,oS,h1];rfl
theorem RunOk.len{its:List It}{r:AR}{ρ ρ':Nat->Ro}{hs:List Nat}(h:RunOk its r ρ r' ρ' hs):hs.length=its.length:=by
 induction h with
 | nil=>rfl
 | cons hn hx hk h ih=>simp[ih]
theorem RunOk.inv{it:It}{its:List It}{r:AR}{ρ ρ':Nat->Ro}(h:RunOk (it::its) r ρ r' ρ' l):
 ∃hs,l=r.next::hs/\0<r.n/\NdOk (JN ρ it.c)/\ZTZ r.nodes (JN ρ it.c)/\RunOk its (r.add (JN ρ it.c)) (ZQI ρ it.rx r.next) r' ρ' hs:=by
 cases h with
 | cons hn hx hk h=>exact⟨_,rfl,hn,hx,hk,h⟩
theorem RunOk.nil_inv{r:AR}{ρ ρ':Nat->Ro}(h:RunOk [] r ρ r' ρ' l):l=[]/\r'=r/\ρ'=ρ:=by
 cases h;exact⟨rfl,rfl,rfl⟩
theorem ZrY{b:Nat}(hl:la<=st.A.length)(rj r2:AR)(hn:n=st.A.length+1)(L:List Blk)(ip tx ver len rx k:Nat)(ro:Ro)(j:Nat):
 ZIE ⟨(Qy st la b rj).ps,false,L⟩ n ip tx ver la b len rx r2 k ro j=⟨(Qy st la b r2).ps,false,(L.set k (.arr 5 0 [ro.av])).set ip (.arr 3 0 [.agg [.ptr la (b+5) 0 0 0,.ref n tx ver (j+1) (len-j-1),.ptr n rx 0 0 0]])⟩:=by
 have e1:Qy ⟨(Qy st la b rj).ps,false,L⟩ la b r2=⟨(Qy st la b r2).ps,false,L⟩:=by
  rw[ZCp rfl (by rw[ZKb];exact hl),ZpC]
 have e2:((Qy st la b r2).ps).length=n:=by rw[hn];simp[ZKb]
 rw[ZIE,e1];unfold St.upd;simp only[e2,if_true]
theorem PenS.frm{L L':List Blk}{b:Nat}{its:List It}{F:List (Nat × Blk)}{keys:List Nat}{ρ:Nat->Ro}(h:PenS ⟨A,false,L⟩ n ip tx ver la b cls its F keys rx ρ j)(hn:n=A.length)
 (hg:∀i,i=ip\/(cls≠[]/\i=tx)\/i∈keys\/(∃p∈F,i=p.1)->L'[i]?=L[i]?):PenS ⟨A,false,L'⟩ n ip tx ver la b cls its F keys rx ρ j:=by
 subst hn;obtain⟨td,h1,h2⟩:=h.pen
 have hget:∀i,(i=ip\/(cls≠[]/\i=tx)\/i∈keys\/(∃p∈F,i=p.1))->St.get ⟨A,false,L'⟩ A.length i=St.get ⟨A,false,L⟩ A.length i:=fun i hi=>by rw[St.get_cur,St.get_cur,hg i hi]
 refine⟨by simp[St.wr],⟨td,by rw[hget _ (.inl rfl)];exact h1,?_⟩,h.cl,fun p hp=>by rw[hget _ (.inr (.inr (.inr ⟨p,hp,rfl⟩)))];exact h.fx p hp,fun k hk=>by rw[hget _ (.inr (.inr (.inl hk)))];exact h.rts k hk,h.key,h.rk,h.s1,h.s2,h.s3,h.ar,h.len,h.jl⟩
 rcases h2 with q|⟨hc,q1,q2⟩
 ·exact .inl q
 ·exact .inr ⟨hc,q1,by rw[hget _ (.inr (.inl ⟨hc,rfl⟩))];exact q2⟩
theorem ZrZ{L:List Blk}{x:Ex}{c6:Nat}{ro:Ro}(hA:A=st.A++[(st.ro,st.L)])(hx:x=.norm\/x=.ret)(h4:Jx e c4=some (.ptr A.length j4 v4 0 0))(hg4:L[j4]?=some (.arr w4 v4 [ro.av]))
 (h5:Jx e c5=some (.ref A.length ix ver 0 n)) (hg5:L[ix]?=some (.arr 1 ver (l.map Qj))) (hn:n=l.length) (h6:Jx e c6=some (.int .i64 z)):Jm false [.c c4 true 5,.s c5,.s c6] (x,e,⟨A,false,L⟩)=some (.tup [ro.av,.lit (l.map Qj),.int .i64 z],st):=by
 refine ZC2 (v:=.tup [ro.av,.ref A.length ix ver 0 n,.int .i64 z]) hA hx ?_ (ZuN hg5 hn) Y
 have h1:ZAo ⟨A,false,L⟩ e (.c c4 true 5)=some ro.av:=by
  simp only[ZAo,QQ h4,loadP,St.get_cur,hg4,vis,ZE4,if_true,List.getElem?_cons_zero,oS];rfl
 simp only[Qk,ZDz,h1,oS];simp only[ZAo,QQ h5,QQ h6,oS,Option.map_some,ZE5]
theorem Zn6{b:Nat}{r:AR}(hA:Has st la b r)(ho:AROk r)(hg:GoodN r.nodes)(hv:VE r.nodes t)(hb:t.bytes<=65536)(hn:nw t<=r.n):
 S Tb ZAP [.ptr la (b+5) 0 0 0,t.av] st=some (.tup [(wrV t r).2.1.av,.lit ((wrV t r).2.2.map Qj),.int .i64 0],Qy st la b (wrV t r).1):=by
 refine Jz Y (fun A hA'=>?_)
 obtain⟨LB,hLB⟩:∃LB:List Blk,LB=[.arr 7 0 [t.av],.arr 5 0 [Ro.zero.av],.arr 1 0 []]:=⟨_,rfl⟩;have hle:=hA.le
 have hla:la<A.length:=by rw[hA'];simp;omega
 have h3:LB.length=3:=by rw[hLB];rfl
 obtain⟨L2,tx,ver,cs,its,F,keys,rx,ρ,hS,hB⟩:=Zn5 (L:=LB) (hA.push hA').r ho.nb ho.n16 (by have:=ho.nn;have:=ho.n16;omega) hv hb hn
 obtain⟨ρ',hrun,hro⟩:=hB.pi.run ho hg hv hb hn
 generalize (wrV t r).1=r' at *
 generalize (wrV t r).2.2=hs at *
 generalize (wrV t r).2.1=ro at *
 have hcl:=hB.ps.cl.len
 have hk5:∀k∈keys,5<=k:=fun k hk=>by have:=hB.klo k hk;omega
 have g1:L2[1]?=some (.arr 5 0 [Ro.zero.av]):=by rw[hB.old 1 (by omega),hLB];rfl
 have g2:L2[2]?=some (.arr 1 0 (([]:List Nat).map Qj)):=by rw[hB.old 2 (by omega),hLB];rfl
 have hps:=hB.ps;rw[h3]at hS hps;rw[hLB]at hS
 repeat'(first|refine ZE ?_|refine ZD ?_|refine ZG Y ?_|refine Zp Y Y ?_|refine ZB Y ?_|refine ZC ?_|(refine cm0 Y Y Y ?_ ?_<;>intro _<;>try omega)|refine ZF Y ?_|refine Zc Y Y Y ?_|refine ZCJ Y ?_|refine ZQ Y Y Y (Z0 _) ?_|refine Zw Y (QI _) (Qc _) ?_|refine ZA Y Y (by first|rfl|(simp only[lE,lN,lC,Zm,Zb,ZZ];first|done|rfl)) (hS) ?_|refine ZH ?_|refine ZS ?_)
 all_goals try contradiction
 have hAn:A.length=st.A.length+1:=by rw[hA'];simp
 have hhl:=hrun.len
 refine Z2 (α:=Bool × Nat × AR × (Nat->Ro) × List Blk) (fun p=>match p.1 with
  | true=>[(4,.ptr A.length 1 0 0 0),(5,.ref A.length 2 p.2.1 0 p.2.1),(6,.int .i64 0),(7,.ptr A.length 4 0 0 0),(18,.bool false)]
  | false=>[(4,.ptr A.length 1 0 0 0),(5,.ref A.length 2 p.2.1 0 p.2.1),(7,.ptr A.length 4 0 0 0)])
  (fun p=>⟨(Qy st la b p.2.2.1).ps,false,p.2.2.2.2⟩)
  (fun p=>PenS ⟨(Qy st la b p.2.2.1).ps,false,p.2.2.2.2⟩ A.length 4 tx ver la b cs its F keys rx p.2.2.2.1 p.2.1/\AROk p.2.2.1/\RunOk (its.drop p.2.1) p.2.2.1 p.2.2.2.1 r' ρ' (hs.drop p.2.1)/\p.2.1<=its.length/\p.2.2.2.2[1]?=some (.arr 5 0 [Ro.zero.av])/\p.2.2.2.2[2]?=some (.arr 1 p.2.1 ((hs.take p.2.1).map Qj)))
  (fun p=>its.length-p.2.1) (true,0,r,ρ,L2) rfl ?_ ?_ ?_
 ·simp only[hA.same,<- hA']
 ·simp only[hA.same,<- hA']
  exact⟨hps,ho,hrun,Nat.zero_le _,g1,g2⟩
 rintro⟨fst,j,rj,ρj,Lj⟩ ⟨q1,q2,q3,q4,q5,q6⟩
 simp only at q1 q2 q3 q4 q5 q6
 have hHj:Has ⟨(Qy st la b rj).ps,false,Lj⟩ la b rj:=(hA.put rj).push rfl;obtain⟨td,t1,t2⟩:=q1.pen
 have hAl:A.length=(Qy st la b rj).ps.length:=by rw[hAn];simp[ZKb]
 rcases Nat.lt_or_ge j its.length with hlt|hge
 ·obtain⟨it,hit⟩:∃it,its[j]?=some it:=⟨its[j]'hlt,by simp[hlt]⟩
  have hd:its.drop j=it::its.drop (j+1):=by
   rw[List.drop_eq_getElem_cons hlt];rw[jE hlt]at hit;rw[Option.some.inj hit]
  rw[hd]at q3;obtain⟨hs2,e1,hn1,hx1,hk1,hr1⟩:=q3.inv
  have hdj:hs[j]?=some rj.next:=by
   have:=List.getElem?_drop (xs:=hs) (i:=j) (j:=0)
   rw[e1]at this
   simpa using this.symm
  have hd2:hs.drop (j+1)=hs2:=by
   rw[<- List.drop_drop,e1];rfl
  obtain⟨p1,p2,p3⟩:=q1.step hHj q2 hn1 hit hx1 hk1;rw[ZrY hle rj _ hAn]at p1 p2
  have hjc:j<cs.length:=by rw[hcl];exact hlt
  have hne:cs≠[]:=fun q=>by rw[q]at hjc;simp at hjc
  rcases t2 with⟨w,_⟩|⟨_,rfl,t3⟩
  ·exact absurd w hne
  obtain⟨k1,_⟩:=q1.key it (jM hit);have hk5':=hk5 _ k1
  have hl4:Lj[4]?=some (.arr 3 0 [.agg [.ptr la (b+5) 0 0 0,.ref A.length tx ver j (cs.length-j),.ptr A.length rx 0 0 0]]):=by
   rw[hAl]at t1;rw[St.get_cur]at t1;rw[hAl];exact (ZBL t1).1
  obtain⟨r2,hr2⟩:∃r2,r2=rj.add (JN ρj it.c):=⟨_,rfl⟩;rw[<- hr2]at p1 p2 hr1
  have ho2:AROk r2:=by rw[hr2];exact q2.add hn1 _
  have hAl2:A.length=(Qy st la b r2).ps.length:=by rw[hAn];simp[ZKb]
  obtain⟨L3,hL3⟩:∃L3,L3=(Lj.set it.rx (.arr 5 0 [((ρj it.rx).wr rj.next).av])).set 4 (.arr 3 0 [.agg [.ptr la (b+5) 0 0 0,.ref A.length tx ver (j+1) (cs.length-j-1),.ptr A.length rx 0 0 0]]):=⟨_,rfl⟩;rw[<- hL3]at p1 p2
  have h31:L3[1]?=some (.arr 5 0 [Ro.zero.av]):=by rw[hL3,jS (by omega),jS (by omega)];exact q5
  have h32:L3[2]?=some (.arr 1 j ((hs.take j).map Qj)):=by rw[hL3,jS (by omega),jS (by omega)];exact q6
  have hj2:j=((hs.take j).map Qj).length:=by simp;omega
  have hj3:∀x:AV,((hs.take j).map Qj).length+[x].length<4294967296:=fun x=>by have:=q1.len;simp;omega
  have hinv:∀L4,L4=L3.set 2 (.arr 1 (j+1) ((hs.take j).map Qj++[.int .u64 rj.next]))->PenS ⟨(Qy st la b r2).ps,false,L4⟩ A.length 4 tx ver la b cs its F keys rx (ZQI ρj it.rx rj.next) (j+1)/\AROk r2/\RunOk (its.drop (j+1)) r2 (ZQI ρj it.rx rj.next) r' ρ' (hs.drop (j+1))/\j+1<=its.length/\L4[1]?=some (.arr 5 0 [Ro.zero.av])/\L4[2]?=some (.arr 1 (j+1) ((hs.take (j+1)).map Qj)):=by
   rintro L4 rfl
   refine⟨?_,ho2,by rw[hd2];exact hr1,hlt,by rw[jS (by omega)];exact h31,?_⟩
   ·refine p2.frm hAl2 (fun i hi=>jS ?_)
    rcases hi with rfl|⟨hc,rfl⟩|q|⟨p,hp,rfl⟩
    ·omega
    ·have:=hB.tlo hc;omega
    ·have:=hk5 i q;omega
    ·have:=hB.flo p hp;omega
   ·rw[List.getElem?_set_self (List.getElem?_eq_some_iff.1 h32).1,Zs hdj,List.map_append];rfl
  obtain⟨A2,hA2⟩:∃A2,A2=(Qy st la b r2).ps:=⟨_,rfl⟩;obtain⟨A1,hA1⟩:∃A1,A1=(Qy st la b rj).ps:=⟨_,rfl⟩;rw[<- hA1]at p1 hAl ⊢;rw[<- hA2]at p1 hAl2;have hA12:A1.length=A2.length:=hAl.symm.trans hAl2;rw[hAl]at hl4 p1 hinv ⊢
  cases fst
  all_goals simp only
  all_goals repeat'(first|refine ZA Y Y Y p1 ?_|refine ZE ?_|refine ZD ?_|refine ZG Y ?_|refine ZI Y Y ?_|refine Zp Y Y ?_|refine ZB Y ?_|refine ZC ?_|refine Ze Y Y ?_|refine JI Y ?_|(refine cm0 Y Y Y ?_ ?_<;>intro _<;>try omega)|refine ZU Y ?_|refine ZF Y ?_|refine Q2 Y Y Y Y ?_|refine ZQ Y hl4 Y Y ?_|refine ZH ?_|refine ZS ?_)
  all_goals try first|contradiction|omega
  all_goals rw[hA12]
  all_goals repeat'(first|refine ZQD Y Y h32 hj2 Y Y (hj3 _) (by decide) ?_|refine ZG Y ?_|refine ZB Y ?_|refine Z5 ?_|refine QJ ?_)
  all_goals rw[hA12,hA2]at hinv
  all_goals rw[hA2]
  all_goals exact⟨(false,j+1,r2,ZQI ρj it.rx rj.next,_),⟨rfl,rfl⟩,hinv _ Y,by simp only;omega⟩
 ·obtain rfl:j=its.length:=by omega
  rw[List.drop_length,<- hhl,List.drop_length]at q3;obtain⟨_,rfl,rfl⟩:=q3.nil_inv;rw[<- hhl,List.take_length]at q6;have hRt:=ZvU q1 hcl.symm;rw[hro]at hRt;obtain⟨A1,hA1⟩:∃A1,A1=(Qy st la b r').ps:=⟨_,rfl⟩;rw[<- hA1]at hRt hAl ⊢
  have hl4:∃w,Lj[4]?=some (.arr 3 0 [.agg [.ptr la (b+5) 0 0 0,td,w]])/\(td=.nils\/∃v,td=.ref A.length tx v its.length 0):=by
   rw[hAl,hA1,St.get_cur]at t1;refine⟨_,(ZBL t1).1,?_⟩
   rcases t2 with⟨_,w⟩|⟨_,w,_⟩
   ·exact .inl w
   ·refine .inr ⟨ver,?_⟩
    rw[w,hcl,Nat.sub_self]
  obtain⟨w4,hl4,htd⟩:=hl4
  rw[<- hhl]at *
  have hl1:=(List.getElem?_eq_some_iff.1 q5).1;rw[hAl]at hRt htd ⊢
  rcases htd with rfl|⟨v,rfl⟩
  all_goals cases fst
  all_goals simp only
  all_goals repeat'(first|refine ZA Y Y Y hRt ?_|refine ZE ?_|refine ZD ?_|refine ZG Y ?_|refine ZI Y Y ?_|refine Zp Y Y ?_|refine ZB Y ?_|refine ZC ?_|refine Ze Y Y ?_|refine JI Y ?_|refine J8 Y ?_|(refine cm0 Y Y Y ?_ ?_<;>intro _<;>try omega)|refine ZF Y ?_|refine ZQ Y hl4 Y Y ?_|refine Zz ?_|refine Zk ?_|refine Zh Y ?_|refine Zx ?_)
  all_goals try omega
  all_goals refine Qs q5 Y Y Y Y Y ?_
  all_goals repeat'(first|refine ZE ?_|refine ZD ?_|refine ZG Y ?_|refine ZB Y ?_|refine ZC ?_|refine ZQ Y (List.getElem?_set_self hl1) Y Y ?_)
  all_goals refine Qs (List.getElem?_set_self hl1) Y Y Y Y Y ?_
  all_goals rw[List.set_set]
  all_goals repeat'(first|refine ZG Y ?_|refine ZB Y ?_|refine ZC ?_|refine ZP ?_|refine ZL ?_)
  all_goals exact ZrZ (ro:=ro) hA1 (.inr Y) Y (List.getElem?_set_self hl1) Y ((jS (by omega)).trans q6) (by simp) Y
end Go.Q15
namespace Go.QAbs
variable {v:AV}{ro:Bool}{e:Env}{f g:FuncId}{a z:Int}{Q:Jh}{A:List (Bool × List Blk)}{args caps cls es:LV}{k:List Fr}{l:List Nat}{s:B8}{c4 c5 d i ip ix j j4 la mb mx n o ob ox rx tx v4 ver w w4 wb:Nat}{x:Opd}{O:Orc}{st:St}
def TLe(T T':Tab):Prop:=∀f x,T f=some x->T' f=some x
theorem Zgp{T T':Tab}(h:TLe T T'):∀n,Le (Q0 T n) (Q0 T' n)
 | 0=>fun _ _ _ _ q=>by simp[Q0]at q
 | n+1=>fun f _ _ _ q=>Qp (fun x q=>h f x q) (fun x _ q=>by
  cases x with
  | pf pf=>exact ZLg (Zgp h n) (ZhI (Nat.le_refl n)) q
  | base o=>exact q) q
theorem Zra{T T':Tab}(h:TLe T T'):Le (S T) (S T'):=fun f a st r q=>by
 obtain⟨n,hn⟩:=S_iff.1 q;exact S_iff.2 ⟨n,Zgp h n _ _ _ _ hn⟩
theorem Zrb:∀(A:List (Bool × List Blk)) (r:Bool × List Blk),pop (A++[r])=some (A,r)
 | [],r=>rfl
 | [a],r=>rfl
 | a::b::A,r=>by
  have:=Zrb (b::A) r
  rw[lC,lC,pop];rw[lC]at this;rw[this];rfl
theorem ZlA(v:AV)(st:St)(ro:Bool)(L:List Blk):Jt (v,⟨st.ps,ro,L⟩)=some (v,st):=by
 simp only[Jt,Zrb,oS,ZNa]
section
variable {k:List Fr}{Q:Jh}{e:Env}{st:St}{keep:List Nat}{is:List PI}{d:Nat}{T:Tab}
theorem Zrc{st':St}{f:Opd}{args:List Opd}{lv:Nat}{cs vs ws:LV}(hf:Zg e f=some (.func (.yield lv) [] cs))(ha:ZIH e args=some vs)(hw:Zm (vs++cs)=ws)(hc:S T (yB+lv) ws st=some (v,st'))
 (h:Is (S T) is keep k Q ((d,v)::e) st'):Is (S T) (⟨some d,none,false,.call .norm f args⟩::is) keep k Q e st:=by
 refine Z4 (od:=some d) (v:=v) (st':=st') ?_ h;simp only[Zl,ZJ hf,Y9 ha,ZAq,JC,hw,hc]
theorem ZlB{nt:Nat}{rg:Rng}{st':St}(hl:args.length=rg.ps.length+nt)
 (h:∀A,A=st.ps->Ru (S T) rg.assign [] (fun x e s=>x=.norm/\Ru (S T) rg.body [] (fun x e s=>x=.norm/\s.A=st'.ps) e s) (ZNt rg.ps args (JA 0 (args.drop rg.ps.length))) ⟨A,false,[]⟩):ZA3 (S T) itS nt rg args st=some (.bool true,st'):=by
 obtain⟨x,e1,s1,h1,h2⟩:=(h _ rfl).h;obtain⟨rfl,⟨x,e2,s2,h3,h4⟩⟩:=h2;obtain⟨rfl,h5⟩:=h4;unfold ZA3;rw[if_pos hl]
 have:st.push=⟨st.ps,false,[]⟩:=rfl
 rw[this,h1,oS];simp only[ZQj,h3,oS,Zj1];obtain⟨A,ro,L⟩:=s2
 simp only at h5
 subst h5;exact ZlA _ _ _ _
theorem Zrd{OT:Nat->Orc}{nt:Nat}{rg:Rng}{first cap:LV}{L:List Blk}{st2:St}(hg:Zg e rg.g=some (.func (.func g) first cap))(hy:g<yB)
 (hc:OT (st.A.length+1) g (Zm (first++[.func (.yield (st.A.length+1)) [] (ZLi nt e)]++cap)) ⟨st.ps,false,[]⟩=some (v,⟨st2.ps,ro,L⟩)):ZUJ OT nt rg e st=some (.norm,e,st2):=by
 unfold ZUJ;rw[ZJ hg];simp only[if_pos hy]
 have:st.push=⟨st.ps,false,[]⟩:=rfl
 rw[this,hc,oS,Zop,ZlA,oS]
theorem s_rf{T0:Tab}{rf:RF}{r:AV × St}(hT:T f=some (.base (rfO T0 rf)))
 (h:∀A,A=st.ps->Ru (S T0) rf.pre [] (fun x e s=>(x=.ret/\Jm false rf.res (.ret,e,s)=some r)\/(x=.norm/\∃s2,ZUJ (fun lv=>S (ZUK T0 lv (ZA3 (S T0) itS rf.nt rf.rng))) rf.nt rf.rng e s=some (.norm,e,s2)/\Ru (S T0) rf.post [] (fun x e s=>Jm false rf.res (x,e,s)=some r) e s2)) (JA 0 args) ⟨A,false,[]⟩):S T f args st=some r:=by
 refine Zlu (o:=rfO T0 rf) hT ?_;obtain⟨x,e1,s1,h1,h2⟩:=(h _ rfl).h;unfold rfO rfG ZLj
 have:st.push=⟨st.ps,false,[]⟩:=rfl
 rw[this,h1,oS]
 rcases h2 with⟨rfl,h3⟩|⟨rfl,s2,h3,⟨x,e3,s3,h5,h6⟩⟩
 ·simp only[YJ,oS];exact h3
 ·simp only[YJ,h3,oS,h5];exact h6
end
theorem Zn7{T:Tab}(hT:∀f x,T f=some x->f<yB)(lv:Nat)(o:LV->St->OS):TLe T (ZUK T lv o):=fun f x hx=>by
 unfold ZUK;rw[if_neg]
 ·exact hx
 ·intro q;exact ZhS (hT f x hx) q
theorem Zn8(T:Tab)(lv:Nat)(o:LV->St->OS)(args:LV)(st:St){r:AV × St}(h:o args st=some r):S (ZUK T lv o) (yB+lv) args st=some r :=
 Zlu (o:=o) (by unfold ZUK;rw[if_pos rfl]) h
end Go.QAbs
namespace Go.Q15
open Go Go.QAbs
variable {r':AR}{v:AV}{ro:Bool}{e:Env}{f g:FuncId}{a z:Int}{Q:Jh}{A:List (Bool × List Blk)}{args caps cls es:LV}{k:List Fr}{l:List Nat}{s:B8}{c4 c5 d i ip ix j j4 la mb mx n o ob ox rx tx v4 ver w w4 wb:Nat}{x:Opd}{O:Orc}{st:St}{t:Tr}
def QP(N:ZO)(o:Nat):Nd:=(lk N o).getD ⟨0,[],none⟩
theorem Q5{N:ZO}{x:Nd}(h:lk N o=some x):QP N o=x:=by unfold QP;rw[h];rfl
def ZAp(N:ZO):Nat->Nat->List Nat
 | 0,o=>[o]
 | n+1,o=>o::(QP N o).ks.flatMap fun k=>ZAp N n k.at_
def ZpO(x:Nd):AV:=.agg [.int .i64 x.h,.str x.text,.lit (x.ks.map Kid.av),.int .i64 0]
theorem ZQJ{s:St}{l:Nat}{b:Blk}(h:s.get l i=some b)(more:List (Bool × List Blk))(ro:Bool)(L:List Blk):St.get ⟨s.ps++more,ro,L⟩ l i=some b:=by
 have hl:=St.get_le h;have h1:=ZV (A:=s.ps) rfl (ro:=ro) (L:=L) h;unfold St.get at h1 ⊢
 have e1:l≠s.ps.length:=by simp;omega
 have e2:l≠(s.ps++more).length:=by simp;omega
 simp only[if_neg e1,if_neg e2]at h1 ⊢
 rw[jL (by simp;omega)]
 exact h1
theorem Rd.more{s:St}{lv:Nat}{N:ZO}(h:Rd s lv ix N)(more:List (Bool × List Blk))(ro:Bool)(L:List Blk):Rd ⟨s.ps++more,ro,L⟩ lv ix N:=by
 obtain⟨a0,a1,im,a3,a4,a5,h1,h2⟩:=h;exact⟨a0,a1,im,a3,a4,a5,ZQJ h1 _ _ _,ZQJ h2 _ _ _⟩
theorem Zn9{N:ZO}{h:Nat}{x:Nd}(hx:lk N h=some x)(hok:NdOk x)(hh:x.h=n):ZAp N n h=h::x.ks.flatMap fun k=>ZAp N (n-1) k.at_:=by
 cases n with
 | zero =>
  have:x.ks=[]:=by
   rcases hok with q|⟨m,ks,q⟩
   ·exact q.ks
   ·have:=congrArg Nd.h q.eq;simp only at this;omega
  rw[this];rfl
 | succ n=>rw[ZAp,Q5 hx];rfl
theorem Zre{N:ZO}(hN:GoodN N):∀(n h:Nat) (x:Nd),lk N h=some x->x.h=n->3*(ZAp N n h).length+1<=4 ^ (n+1):=by
 intro n
 induction n with
 | zero=>intro h x hx hh;simp[ZAp]
 | succ n ih =>
  intro h x hx hh;obtain⟨hok,hk⟩:=hN h x hx;rw[ZAp,Q5 hx,List.length_cons]
  have h6:4 ^ (n+1+1)=4*4 ^ (n+1):=by rw[Nat.pow_succ,Nat.mul_comm]
  rw[h6];clear h6
  have hP1:1<=4 ^ (n+1):=Nat.pow_pos (by decide)
  generalize 4 ^ (n+1)=P at *
  have key:∀l:List Kid,(∀k∈l,k∈x.ks)->3*(l.flatMap fun k=>ZAp N n k.at_).length+l.length<=l.length*P:=by
   intro l
   induction l with
   | nil=>intro _;simp
   | cons k l ih2 =>
    intro hm
    obtain⟨_,y,y1,y2,_⟩:=hk k (hm k (by simp))
    have h1:=ih k.at_ y y1 (by omega)
    have h2:=ih2 fun q hq=>hm q (by simp[hq])
    rw[List.flatMap_cons,lL,List.length_cons,Nat.add_mul,Nat.one_mul];omega
  have h1:=key x.ks fun _ h=>h
  have h4:=hok.len;have h5:x.ks.length*P<=4*P:=Nat.mul_le_mul_right _ h4
  rcases hok with q|⟨m,ks,q⟩
  ·have:=q.h;omega
  ·have e:=q.eq
   have h7:=q.lo;subst e;simp only[Nd.ks,Option.getD_some]at h1 h4 h5 ⊢;have h8:(4-ks.length)*1<=(4-ks.length)*P:=Nat.mul_le_mul_left _ hP1
   have h9:ks.length*P+(4-ks.length)*P=4*P:=by rw[<- Nat.add_mul];congr 1;omega
   omega
structure NW(σ:List Nat->St)(lv:Nat)(caps:LV)(la b:Nat)(more:List (Bool × List Blk))(ro:Bool)(L:List Blk)(l1 i1 l2 i2 l3 i3:Nat):Prop where
 a:∀v,St.get ⟨(σ v).ps++more,ro,L⟩ l1 i1=some (.arr 1 0 [.ptr la (b+5) 0 0 0])
 y:∀v,St.get ⟨(σ v).ps++more,ro,L⟩ l2 i2=some (.arr 1 0 [.func (.yield lv) [] caps])
 w:∀v,St.get ⟨(σ v).ps++more,ro,L⟩ l3 i3=some (.arr 1 0 [.func (.func YU) [] [.ptr l1 i1 0 0 0,.ptr l2 i2 0 0 0,.ptr l3 i3 0 0 0]])
theorem NW.push{σ:List Nat->St}{lv:Nat}{b:Nat}{more:List (Bool × List Blk)}{L:List Blk}{l1 i1 l2 i2 l3 i3:Nat}(h:NW σ lv caps la b more ro L l1 i1 l2 i2 l3 i3)(L':List Blk):NW σ lv caps la b (more++[(ro,L)]) false L' l1 i1 l2 i2 l3 i3 :=
 ⟨fun v=>ZV (st:=⟨(σ v).ps++more,ro,L⟩) (by rw[<- List.append_assoc]) (h.a v),fun v=>ZV (st:=⟨(σ v).ps++more,ro,L⟩) (by rw[<- List.append_assoc]) (h.y v),fun v=>ZV (st:=⟨(σ v).ps++more,ro,L⟩) (by rw[<- List.append_assoc]) (h.w v)⟩
theorem ZvX{TY:Tab}(hT:TLe Tb TY){σ:List Nat->St}{N:ZO}(hN:GoodN N){b lv:Nat}(hcw:Zm caps=caps)(hRd:∀v,Rd (σ v) la (b+5) N)(hlen:∀v,(σ v).A.length=(σ []).A.length)
 {B:Nat} (hy:∀v h x more ro L,v.length<B->lk N h=some x->S TY (yB+lv) (.int .u64 (h:Nat)::ZpO x::caps) ⟨(σ v).ps++more,ro,L⟩=some (.bool true,⟨(σ (v++[h])).ps++more,ro,L⟩)) :
 ∀n h x,lk N h=some x->x.h=n->∀v more ro L l1 i1 l2 i2 l3 i3,v.length+(ZAp N n h).length<=B->NW σ lv caps la b more ro L l1 i1 l2 i2 l3 i3 ->
  S TY YU [.int .u64 (h:Nat),.ptr l1 i1 0 0 0,.ptr l2 i2 0 0 0,.ptr l3 i3 0 0 0] ⟨(σ v).ps++more,ro,L⟩=some (.bool true,⟨(σ (v++ZAp N n h)).ps++more,ro,L⟩):=by
 intro n
 induction n using Nat.strongRecOn with
 | ind n ih =>
  intro h x hx hh v more ro L l1 i1 l2 i2 l3 i3 hB hw;have hok:=(hN h x hx).1;rw[Zn9 hx hok hh,List.length_cons]at hB;have hkids:=(hN h x hx).2;have hk4:=hok.len
  refine Jz (hT _ _ Y) (fun A hA=>?_)
  have hA2:A=(σ v).ps++(more++[(ro,L)]):=by rw[hA,List.append_assoc]
  clear hA;subst hA2
  have hw2:=fun L'=>hw.push L'
  have hG:∀v' L',S TY QH [.ptr la (b+5) 0 0 0,.int .u64 h] ⟨(σ v').ps++(more++[(ro,L)]),false,L'⟩=some (.tup [.agg [.int .i64 x.h,.str x.text,.lit (x.ks.map Kid.av)],.int .i64 0],⟨(σ v').ps++(more++[(ro,L)]),false,L'⟩):=fun v' L'=>Zra hT _ _ _ _ (ZL6 ((hRd v').more _ _ _) hx hk4)
  have hY:=fun L'=>hy v h x (more++[(ro,L)]) false L' (by omega) hx
  unfold ZpO at hY
  have hwk:Zm ([AV.int .u64 h,.agg [.int .i64 x.h,.str x.text,.lit (x.ks.map Kid.av),.int .i64 0]]++caps)=.int .u64 h::.agg [.int .i64 x.h,.str x.text,.lit (x.ks.map Kid.av),.int .i64 0]::caps:=by
   simp only[lC,lE,Zm,weak,hcw]
  repeat'(first|refine Zrc Y Y hwk (hY _) ?_|refine ZE ?_|refine ZD ?_|refine ZG Y ?_|refine ZI Y Y ?_|refine ZQ Y Y Y Y ?_|refine Z9 Y ?_|refine Zi Y Y Y Y ?_|refine Zp Y Y ?_|refine ZB Y ?_|refine ZC ?_|(refine cm0 Y Y Y ?_ ?_<;>intro _<;>try omega)|refine ZF Y ?_|refine YA Y Y ?_|refine Zn Y Y Y ?_|refine Zc Y Y Y ?_|refine Zy Y Y Y Y Y Y ?_|refine Zt Y ((hw2 _).a v) Y Y ?_|refine Zt Y ((hw2 _).y v) Y Y ?_|refine ZA Y Y Y (hG _ _) ?_|refine ZH ?_)
  all_goals try contradiction
  have hl2:∀v v',((σ v).ps++(more++[(ro,L)])).length=((σ v').ps++(more++[(ro,L)])).length:=fun v v'=>by
   simp only[lL];rw[hlen v,hlen v'];rfl
  rw[hl2 v (v++[h])];rw[Zn9 hx hok hh]
  repeat'(first|refine ZG Y ?_|refine ZQ Y Y Y Y ?_|refine ZB Y ?_|refine ZC ?_|refine Qo Y ?_|refine ZS ?_)
  refine Z2 (α:=Nat × List Blk) (fun p=>[(3,.ptr l3 i3 0 0 0),(28,.lit (x.ks.map Kid.av)),(29,.int .i64 x.ks.length),(30,.int .i64 p.1)])
   (fun p=>⟨(σ (v++h::(x.ks.take p.1).flatMap fun k=>ZAp N (n-1) k.at_)).ps++(more++[(ro,L)]),false,.arr 3 0 [.agg [.int .i64 x.h,.str x.text,.lit (x.ks.map Kid.av)]]::p.2⟩) (fun p=>p.1<=x.ks.length) (fun p=>x.ks.length-p.1) (0,[]) rfl rfl (Nat.zero_le _) ?_
  rintro⟨i,G⟩ hi
  simp only at hi ⊢
  rcases Nat.lt_or_ge i x.ks.length with hlt|hge
  ·obtain⟨kd,hk'⟩:∃k,x.ks[i]?=some k:=⟨x.ks[i]'(by omega),by simp[hlt]⟩
   obtain⟨_,y,y1,y2,y3⟩:=hkids kd (jM hk')
   have hk1:0<=((i:Nat):Int)/\x.ks[((i:Nat):Int).toNat]?=some kd:=⟨by omega,by rw[show ((i:Nat):Int).toNat=i by omega];exact hk'⟩
   have ihk:=fun v' L' hb=>ih y.h (by omega) kd.at_ y y1 rfl v' _ _ L' l1 i1 l2 i2 l3 i3 hb (hw2 L')
   have hfin:(v++h::(x.ks.take i).flatMap fun k=>ZAp N (n-1) k.at_)++ZAp N y.h kd.at_=v++h::(x.ks.take (i+1)).flatMap fun k=>ZAp N (n-1) k.at_:=by
    rw[Zs hk',List.flatMap_append,List.append_assoc,show n-1=y.h by omega]
    simp
   obtain⟨v1,hv1⟩:∃v1,v1=v++h::(x.ks.take i).flatMap fun k=>ZAp N (n-1) k.at_:=⟨_,rfl⟩
   rw[<- hv1]at hfin ⊢
   have hb1:v1.length+(ZAp N y.h kd.at_).length<=B:=by
    rw[<- lL,hfin,lL,List.length_cons]
    have h1:(x.ks.flatMap fun k=>ZAp N (n-1) k.at_)=(x.ks.take (i+1)).flatMap (fun k=>ZAp N (n-1) k.at_)++(x.ks.drop (i+1)).flatMap (fun k=>ZAp N (n-1) k.at_):=by
     rw[<- List.flatMap_append,List.take_append_drop]
    have h2:=congrArg List.length h1;rw[lL]at h2;omega
   repeat'(first|refine Jw Y Y hk1 (fun _=>rfl) ?_|refine ZA Y Y Y (ihk v1 _ hb1) ?_|refine ZE ?_|refine ZD ?_|refine ZG Y ?_|refine ZI Y Y ?_|refine ZB Y ?_|refine ZC ?_|refine Ql Y Y Y ?_|refine Qt Y Y ?_|(refine cm0 Y Y Y ?_ ?_<;>intro _<;>try omega)|refine ZU Y ?_|refine ZF Y ?_|refine YA Y Y ?_|refine Zr Y Y (by omega) ?_|refine Zw Y Y Y ?_|refine Q1 Y Y Y Y Y Y ?_|refine Zt Y ((hw2 _).w v1) Y Y ?_|refine ZH ?_|refine ZS ?_|refine Z5 ?_|refine QJ ?_)
   refine⟨(i+1,G++[Blk.arr 4 0 [kd.av]]),⟨rfl,?_⟩,by simp only;omega,by simp only;omega⟩
   rw[hfin];rfl
  ·obtain rfl:i=x.ks.length:=by omega
   rw[List.take_length]
   repeat'(first|refine ZE ?_|refine ZD ?_|refine ZG Y ?_|refine ZB Y ?_|refine ZC ?_|(refine cm0 Y Y Y ?_ ?_<;>intro _<;>try omega)|refine ZF Y ?_|refine ZP ?_|refine Zz ?_|refine ZL ?_|refine Zk ?_|refine Zh Y ?_|refine Zx ?_)
   all_goals try omega
   refine ZX (st:=⟨(σ _).ps++more,ro,L⟩) (by rw[<- List.append_assoc]) (.inr rfl) rfl rfl rfl rfl ?_
   rfl
theorem ZKe:∀ {l:List (FuncId × Ent)},(l.all fun p=>decide (p.1<yB))=true->∀f x,ZAr l f=some x->f<yB
 | [],_,f,x,h=>by simp[ZAr]at h
 | p::l,ha,f,x,h=>by
  simp only[List.all_cons,Bool.and_eq_true,decide_eq_true_eq]at ha;simp only[ZAr]at h
  split at h
  ·rename_i e;rw[<- e];exact ha.1
  ·exact ZKe ha.2 f x h
theorem Zrf:∀f x,Tb f=some x->f<yB:=ZKe (l:=tl) (by decide +kernel)
def RtOk(N:ZO)(r:Ro):Prop:=r=.zero\/(r.at_≠0/\∃x,lk N r.at_=some x/\NdOk x/\x.h=r.h/\x.mea=r.m)
def Ya(N:ZO)(r:Ro):List Nat:=if r.at_=0 then [] else ZAp N r.h r.at_
theorem RtOk.h13{N:ZO}(hN:GoodN N){r:Ro}(hr:RtOk N r):r.h<=13:=by
 rcases hr with rfl|⟨h0,x,h1,h2,h3,h4⟩
 ·decide
 ·have hv:Val N (.keep r):=.kept h0 h1 h2 h3 h4 rfl
  have hb:(Tr.keep r).bytes=r.m.b:=by simp[Tr.keep,Tr.bytes,Tr.bytesO]
  have:=h2.mea_pos
  exact hv.height hN (by rw[hb,<- h4];omega)
theorem ZcW{N:ZO}(hN:GoodN N){r:Ro}(hr:RtOk N r):(Ya N r).length<100000000:=by
 have h13:=hr.h13 hN;unfold Ya
 split
 ·simp
 ·rename_i q
  rcases hr with rfl|⟨h0,x,h1,h2,h3,h4⟩
  ·exact absurd Y q
  ·have:=Zre hN r.h r.at_ x h1 h3
   have h5:4 ^ (r.h+1)<=4 ^ 14:=Nat.pow_le_pow_right (by decide) (by omega)
   have h6:(4:Nat) ^ 14=268435456:=by decide
   omega
def ZAJ(r:Ro):Tr:=if r.at_=0 then .zero else .keep r
theorem ZjA{lv:Nat}{N:ZO}(hr:Rd st lv ix N){r:Ro}(h:RtOk N r):S Tb XB [.ptr lv ix 0 0 0,r.av] st=some (.tup [(ZAJ r).av,.int .i64 0],st):=by
 unfold ZAJ
 rcases h with rfl|⟨h0,x,h1,h2,h3,h4⟩
 ·rw[if_pos (by rfl)];exact Zo2
 ·rw[if_neg h0];exact ZvK hr h1 h2 h0 h3 h4
theorem ZoA{L:List Blk}{b:Nat}{r:Ro}:S Tb ZAR [.ptr la (b+5) 0 0 0,r.av] ⟨A,false,L⟩=some (.func (.func Jg) [] [.ptr A.length L.length 0 0 0,.ptr A.length (L.length+1) 0 0 0],⟨A,false,L++[.arr 1 0 [.ptr la (b+5) 0 0 0],.arr 5 0 [r.av]]⟩):=by
 refine XW Y ?_
 have e0:(⟨A,false,L⟩:St)=⟨A,false,L++[]⟩:=by rw[lN]
 rw[e0];unfold Ro.av
 repeat'(first|refine Xu Y Y Y Y Y ?_|refine ZE ?_|refine ZD ?_|refine ZG Y ?_|refine ZB Y ?_|refine ZC ?_|refine YN Y Y ?_|refine ZP ?_|refine ZL ?_)
 refine (Jo (.inr Y) Y Y Y Y).trans ?_;rfl
theorem ZlC{b a1 a2 a3 x1 x2 x3:Nat}(st:St)(h1:a1<b)(h2:a2<b)(h3:a3<b):ZY QO b st (.func (.func f) [] [.ptr a1 x1 0 0 0,.ptr a2 x2 0 0 0,.ptr a3 x3 0 0 0])=some (.func (.func f) [] [.ptr a1 x1 0 0 0,.ptr a2 x2 0 0 0,.ptr a3 x3 0 0 0],st):=by
 simp only[ZY,QO,ZjO,if_true,mapSt,oS,if_pos h1,if_pos h2,if_pos h3,Yd]
theorem Zuy{TY:Tab}(hT:TLe Tb TY){σ:List Nat->St}{N:ZO}(hN:GoodN N){b lv:Nat}(hcw:Zm caps=caps)(hRd:∀v,Rd (σ v) la (b+5) N)(hlen:∀v,(σ v).A.length=(σ []).A.length)
 {B:Nat} (hy:∀v h x more ro L,v.length<B->lk N h=some x->S TY (yB+lv) (.int .u64 (h:Nat)::ZpO x::caps) ⟨(σ v).ps++more,ro,L⟩=some (.bool true,⟨(σ (v++[h])).ps++more,ro,L⟩))
 {r:Ro} (hr:RtOk N r) (hB:(Ya N r).length<=B) {l1 i1 l4 i4:Nat} (ha:∀v,(σ v).get l1 i1=some (.arr 1 0 [.ptr la (b+5) 0 0 0])) (hro:∀v,(σ v).get l4 i4=some (.arr 5 0 [r.av])) :
 S TY Jg [.func (.yield lv) [] caps,.ptr l1 i1 0 0 0,.ptr l4 i4 0 0 0] ⟨(σ []).ps,false,[]⟩=some (.tup [],⟨(σ (Ya N r)).ps,false,[]⟩):=by
 refine Jz (hT _ _ Y) (fun A hA=>?_)
 have hA0:A=(σ []).ps++[(false,[])]:=hA
 have g4:∀L,St.get ⟨A,false,L⟩ l4 i4=some (.arr 5 0 [r.av]):=fun L=>by rw[hA0];exact ZQJ (hro []) _ _ _
 have l1l:l1<A.length+1:=by have:=St.get_le (ha []);rw[hA0];simp;omega
 unfold Ro.av at g4
 have hNW:∀yv wv,yv=Blk.arr 1 0 [.func (.yield lv) [] caps]->wv=Blk.arr 1 0 [.func (.func YU) [] [.ptr l1 i1 0 0 0,.ptr A.length 0 0 0 0,.ptr A.length 1 0 0 0]]->NW σ lv caps la b [(false,[])] false [yv,wv] l1 i1 A.length 0 A.length 1:=by
  rintro yv wv rfl rfl
  have hl:∀v,A.length=((σ v).ps++[(false,([]:List Blk))]).length:=fun v=>by rw[hA0];simp[hlen v]
  refine⟨fun v=>ZQJ (ha v) _ _ _,fun v=>?_,fun v=>?_⟩
  ·rw[hl v,St.get_cur];rfl
  ·rw[hl v,St.get_cur];rfl
 by_cases h0:r.at_=0
 ·have e:Ya N r=[]:=by unfold Ya;rw[if_pos h0]
  rw[e]
  repeat'(first|refine ZE ?_|refine ZD ?_|refine ZI Y Y ?_|refine ZB Y ?_|refine ZC ?_|(refine cm0 Y Y Y ?_ ?_<;>intro _<;>try omega)|refine ZF Y ?_|refine YN Y Y ?_|refine Zc Y Y Y ?_|refine Zy Y Y Y (ZlC _ l1l (Nat.lt_succ_self _) (Nat.lt_succ_self _)) Y Y ?_|refine Zt Y (g4 _) Y Y ?_|refine ZH ?_|refine ZL ?_)
  all_goals try omega
  refine ZX hA (.inl Y) Y Y Y Y ?_;rfl
 ·have e:Ya N r=ZAp N r.h r.at_:=by unfold Ya;rw[if_neg h0]
  rw[e]at hB ⊢
  obtain⟨x,h1,h2,h3,h4⟩:∃x,lk N r.at_=some x/\NdOk x/\x.h=r.h/\x.mea=r.m:=by
   rcases hr with rfl|q
   ·exact absurd Y h0
   ·exact q.2
  have hW:=ZvX hT hN hcw hRd hlen hy r.h r.at_ x h1 h3 [] [(false,[])] false _ l1 i1 A.length 0 A.length 1 (by simpa using hB) (hNW _ _ rfl rfl)
  rw[<- hA0,lE]at hW
  repeat'(first|refine ZA Y Y Y hW ?_|refine ZE ?_|refine ZD ?_|refine ZI Y Y ?_|refine ZQ Y Y Y Y ?_|refine ZB Y ?_|refine ZC ?_|(refine cm0 Y Y Y ?_ ?_<;>intro _<;>try omega)|refine ZU Y ?_|refine YN Y Y ?_|refine Zc Y Y Y ?_|refine Zy Y Y Y (ZlC _ l1l (Nat.lt_succ_self _) (Nat.lt_succ_self _)) Y Y ?_|refine Zt Y (g4 _) Y Y ?_|refine ZL ?_)
  all_goals try omega
  refine ZX (st:=⟨(σ _).ps,false,[]⟩) Y (.inl Y) Y Y Y Y ?_;rfl
noncomputable def t1:List (FuncId × Ent):=(ZAQ,.base (rfO Tb p_rope_Check))::tl
noncomputable def T1:Tab:=ZAr t1
theorem le1:TLe Tb T1:=fun g y hg=>by
 unfold T1 t1;simp only[ZAr];rw[if_neg]
 ·exact hg
 ·intro e;subst e
  have:ZAr tl ZAQ=none:=by decide +kernel
  unfold Tb at hg;rw[this]at hg;simp at hg
theorem ZuO{b:Nat}{N:ZO}(hN:GoodN N)(hR:Rd st la (b+5) N){r:Ro}(hr:RtOk N r):S T1 ZAQ [.ptr la (b+5) 0 0 0,r.av] st=some (.int .i64 0,st):=by
 refine s_rf (rf:=p_rope_Check) Y (fun A hA=>?_)
 have hK:=fun L=>ZjA (hR.push hA (ro:=false) (L:=L)) hr
 have hNd:=fun L=>ZoA (A:=A) (L:=L) (la:=la) (b:=b) (r:=r)
 obtain⟨LF,hLF⟩:∃LF:List Blk,LF=[.arr 5 0 [r.av],.arr 7 0 [(ZAJ r).av],.arr 1 0 [.int .i64 0],.arr 1 0 [.ptr la (b+5) 0 0 0],.arr 5 0 [r.av]]:=⟨_,rfl⟩
 have hseq:=fun (caps:LV) (hcw:Zm caps=caps) (o:LV->St->OS) hy=>Zuy (TY:=ZUK Tb (A.length+1) o) (Zn7 Zrf _ _) (σ:=fun _=>⟨A,false,LF⟩) hN (lv:=A.length+1) (caps:=caps) hcw (fun _=>hR.push hA) (fun _=>rfl) (B:=(Ya N r).length) hy hr (Nat.le_refl _) (l1:=A.length) (i1:=3) (l4:=A.length) (i4:=4) (fun _=>by rw[St.get_cur,hLF];rfl) (fun _=>by rw[St.get_cur,hLF];rfl)
 unfold Ro.av at *
 repeat'(first|refine ZE ?_|refine ZD ?_|refine ZG Y ?_|refine ZQ Y Y Y Y ?_|refine Zp Y Y ?_|refine ZB Y ?_|refine ZC ?_|(refine cm0 Y Y Y ?_ ?_<;>intro _<;>try omega)|refine ZF Y ?_|refine Zc Y Y Y ?_|refine Zy Y Y Y Y Y Y ?_|refine Zy Y Y Y (Qn _ _ _) (JR _ _) Y ?_|refine ZA Y Y (by first|rfl|(simp only[lE,lN,lC,Zm,Zb,ZZ];first|done|rfl)) (hK _) ?_|refine ZA Y Y (by first|rfl|(simp only[lE,lN,lC,Zm,Zb,ZZ];first|done|rfl)) (hNd _) ?_|refine ZH ?_|refine ZL ?_)
 all_goals try contradiction
 have hS:=hseq (ZLi 30 [(7,.ptr A.length 2 0 0 0),(21,.func (.func Jg) [] [.ptr A.length 3 0 0 0,.ptr A.length 4 0 0 0]),(23,.any)]) rfl (ZA3 (S Tb) itS p_rope_Check.nt p_rope_Check.rng) (fun v h x more ro L _ hx=>Zn8 _ _ _ _ _ (ZlB rfl (fun A' hA'=>by
  unfold ZpO
  repeat'(first|refine ZD ?_|refine ZB Y ?_|refine Zc Y Y Y ?_|refine Zy Y Y Y Y Y Y ?_|refine ZL ?_)
  all_goals try omega
  refine⟨rfl,?_⟩
  repeat'(first|refine ZE ?_|refine ZD ?_|refine ZI Y Y ?_|refine ZQ Y Y Y Y ?_|refine ZB Y ?_|refine ZC ?_|(refine cm0 Y Y Y ?_ ?_<;>intro _<;>try omega)|refine ZF Y ?_|refine ZH ?_|refine ZS ?_|refine ZL ?_|refine Z5 ?_)
  all_goals try contradiction
  exact⟨rfl,hA'⟩)))
 rw[hLF]at hS
 refine .inr ⟨rfl,_,Zrd (g:=Jg) Y (by decide) hS,?_⟩
 repeat'(first|refine ZE ?_|refine ZD ?_|refine ZG Y ?_|refine ZQ Y Y Y Y ?_|refine ZB Y ?_|refine ZC ?_|refine ZH ?_|refine ZP ?_|refine ZL ?_)
 refine ZX hA (by simp) Y Y Y Y ?_
 rfl
end Go.Q15
namespace Go.QAbs
variable {v:AV}{ro:Bool}{e:Env}{f g:FuncId}{a z:Int}{Q:Jh}{A:List (Bool × List Blk)}{args caps cls es:LV}{k:List Fr}{l:List Nat}{s:B8}{c4 c5 d i ip ix j j4 la mb mx n o ob ox rx tx v4 ver w w4 wb:Nat}{x:Opd}{O:Orc}{st:St}
theorem ZCq{s:St}{l:Nat}{b:Blk}(h:s.get l i=some b)(more:List (Bool × List Blk))(ro:Bool)(L:List Blk):St.get ⟨s.ps++more,ro,L⟩ l i=some b:=by
 have hl:=St.get_le h;have h1:=ZV (A:=s.ps) rfl (ro:=ro) (L:=L) h;unfold St.get at h1 ⊢
 have e1:l≠s.ps.length:=by simp;omega
 have e2:l≠(s.ps++more).length:=by simp;omega
 simp only[if_neg e1,if_neg e2]at h1 ⊢
 rw[jL (by simp;omega)]
 exact h1
theorem ZoB{s:St}{lv:Nat}(hl:lv<=s.A.length)(h:s.wr lv)(more:List (Bool × List Blk))(ro:Bool)(L:List Blk):St.wr ⟨s.ps++more,ro,L⟩ lv:=by
 have h1:=XL (A:=s.ps) rfl hl h (ro:=ro) (L:=L);unfold St.wr at h1 ⊢
 have e1:lv≠s.ps.length:=by simp;omega
 have e2:lv≠(s.ps++more).length:=by simp;omega
 simp only[if_neg e1,if_neg e2]at h1 ⊢
 rw[jL (by simp;omega)]
 exact h1
theorem ZlD{s:St}{lv:Nat}{b:Blk}(hl:lv<=s.A.length)(more:List (Bool × List Blk))(ro:Bool)(L:List Blk):St.upd ⟨s.ps++more,ro,L⟩ lv ix b=⟨(s.upd lv ix b).ps++more,ro,L⟩:=by
 have h1:=Yt (A:=s.ps) (ro:=ro) (L:=L) rfl hl (ix:=ix) (b:=b);unfold St.upd at h1 ⊢
 have e1:lv≠s.ps.length:=by simp;omega
 have e2:lv≠(s.ps++more).length:=by simp;omega
 simp only[if_neg e1,if_neg e2]at h1 ⊢;simp only[St.mk.injEq,and_true]at h1 ⊢
 rw[jL (by simp;omega),List.set_append_left _ _ (by simp;omega),h1]
theorem ZTb:∀ {ks:List (Nat × Nat)} {s:St} {bs:List Blk} {more:List (Bool × List Blk)} {ro:Bool} {L:List Blk},(∀k∈ks,k.1<=s.A.length)->Zv ⟨s.ps++more,ro,L⟩ ks bs=⟨(Zv s ks bs).ps++more,ro,L⟩
 | [],_,bs,_,_,_,_=>by cases bs<;>rfl
 | _::_,_,[],_,_,_,_=>rfl
 | k::ks,s,b::bs,more,ro,L,hk=>by
  rw[Zv,ZlD (hk k (by simp)),ZTb (s:=s.upd k.1 k.2 b) (fun q hq=>by rw[St.upd_A];exact hk q (by simp[hq]))]
  rfl
theorem Cl.more{s:St}{ks:List (Nat × Nat)}{bs:List Blk}(h:Cl s ks bs)(more:List (Bool × List Blk))(ro:Bool)(L:List Blk):Cl ⟨s.ps++more,ro,L⟩ ks bs :=
 ⟨h.nd,h.len,fun k hk=>ZoB (h.le k hk) (h.wr k hk) _ _ _,fun j lv ix b h1 h2=>ZCq (h.get j lv ix b h1 h2) _ _ _⟩
end Go.QAbs
namespace Go.Q15
open Go Go.QAbs
variable {r':AR}{v:AV}{ro:Bool}{e:Env}{f g:FuncId}{a z:Int}{Q:Jh}{A:List (Bool × List Blk)}{args caps cls es:LV}{k:List Fr}{l:List Nat}{s:B8}{c4 c5 d i ip ix j j4 la mb mx n o ob ox rx tx v4 ver w w4 wb:Nat}{x:Opd}{O:Orc}{st:St}{t:Tr}
theorem Zrg:∀f x,T1 f=some x->f<yB:=ZKe (l:=t1) (by decide +kernel)
noncomputable def t3:List (FuncId × Ent):=(ZEi,.base (rfO T1 p_rope_Leaves))::(ZN1,.base (rfO T1 ZGd))::t1
noncomputable def T3:Tab:=ZAr t3
theorem ZcX{l:List (FuncId × Ent)}{x:Ent}(h:ZAr l f=none):TLe (ZAr l) (ZAr ((f,x)::l)):=fun g y hg=>by
 simp only[ZAr];rw[if_neg]
 ·exact hg
 ·intro e;subst e;rw[h]at hg;simp at hg
theorem le13:TLe T1 T3:=fun g y hg=>ZcX (l:=(ZN1,.base (rfO T1 ZGd))::t1) (by decide +kernel) g y (ZcX (l:=t1) (by decide +kernel) g y hg)
theorem le3:TLe Tb T3:=fun g y hg=>le13 g y (le1 g y hg)
theorem up3{r:AV × St}(h:S Tb f args st=some r):S T3 f args st=some r:=Zra le3 _ _ _ _ h
theorem up1{r:AV × St}(h:S Tb f args st=some r):S T1 f args st=some r:=Zra le1 _ _ _ _ h
def QX(N:ZO)(v:List Nat):List B8:=v.filterMap fun h=>if (QP N h).h=0 then some (QP N h).text else none
theorem Zf3(N:ZO)(v:List Nat)(h:Nat):QX N (v++[h])=QX N v++if (QP N h).h=0 then [(QP N h).text] else []:=by
 unfold QX;rw[List.filterMap_append]
 by_cases q:(QP N h).h=0<;>simp[q]
theorem ZpP(n b:Nat)(st:St)(l:List B8):mapSt (ZY (n+1) b) st (l.map AV.str)=some (l.map AV.str,st):=by
 induction l with
 | nil=>rfl
 | cons x s ih =>
  rw[jC,mapSt]
  show ((some (AV.str x,st)).bind fun r=>(mapSt (ZY (n+1) b) r.2 (s.map AV.str)).bind (Yd r.1))=_
  rw[oS,ih];rfl
def lvL(A:List (Bool × List Blk))(la b:Nat)(r:Ro)(es:LV):List Blk:=[.arr 5 0 [r.av],.arr 1 es.length es,.arr 1 0 [.ref A.length 1 es.length 0 es.length],.arr 1 0 [.ptr la (b+5) 0 0 0],.arr 5 0 [r.av]]
def lvF(A:List (Bool × List Blk))(N:ZO)(la b:Nat)(r:Ro)(v:List Nat):St:=⟨A,false,lvL A la b r ((QX N v).map .str)⟩
theorem ZwH(A:List (Bool × List Blk))(la b:Nat)(r:Ro)(es:LV):Cl ⟨A,false,lvL A la b r es⟩ [(A.length,1),(A.length,2)] [.arr 1 es.length es,.arr 1 0 [.ref A.length 1 es.length 0 es.length]]:=by
 refine⟨by simp,rfl,fun k hk=>?_,fun j lv ix b h1 h2=>?_⟩
 ·simp only[List.mem_cons,List.not_mem_nil,or_false]at hk
  rcases hk with rfl|rfl<;>simp[St.wr]
 ·match j,h1,h2 with
  | 0,h1,h2=>obtain⟨rfl,rfl⟩:=Prod.mk.inj (Option.some.inj h1);obtain rfl:=Option.some.inj h2;exact St.get_cur ..
  | 1,h1,h2=>obtain⟨rfl,rfl⟩:=Prod.mk.inj (Option.some.inj h1);obtain rfl:=Option.some.inj h2;exact St.get_cur ..
  | n+2,h1,h2=>simp at h1
theorem ZvY(A:List (Bool × List Blk))(la b:Nat)(r:Ro)(es fs:LV):Zv ⟨A,false,lvL A la b r es⟩ [(A.length,1),(A.length,2)] [.arr 1 fs.length fs,.arr 1 0 [.ref A.length 1 fs.length 0 fs.length]]=⟨A,false,lvL A la b r fs⟩:=by
 simp[Zv,St.upd,lvL]
theorem Zrh{N:ZO}{b:Nat}{r:Ro}(hc7:∃rest,caps=.any::.any::.any::.any::.any::.any::.any::.ptr A.length 2 0 0 0::rest/\rest.length=24)(v:List Nat)(hlim:(QX N v).length<4000000000)(h:Nat)(x:Nd)(more:List (Bool × List Blk))(ro:Bool)(L:List Blk)(hx:lk N h=some x):
 ZA3 (S T1) itS p_rope_Leaves.nt p_rope_Leaves.rng (.int .u64 (h:Nat)::ZpO x::caps) ⟨(lvF A N la b r v).ps++more,ro,L⟩=some (.bool true,⟨(lvF A N la b r (v++[h])).ps++more,ro,L⟩):=by
 obtain⟨rest,rfl,hrl⟩:=hc7;have hs:=Zf3 N v h;have hnd:=Q5 hx;rw[hnd]at hs;unfold lvF
 have hel:((QX N v).map AV.str).length=(QX N v).length:=List.length_map ..
 rw[hs,List.map_append];rw[<- hel]at hlim
 generalize (QX N v).map AV.str=es at *
 have H:=(ZwH A la b r es).more more ro L
 refine ZlB (by simp[hrl];rfl) (fun A' hA'=>?_)
 rw[<- H.same]at hA'
 have g2:=fun L'=>H.old hA' rfl rfl (ro:=false) (L:=L') (j:=1) rfl rfl
 unfold ZpO
 repeat'(first|refine ZD ?_|refine ZB Y ?_|refine Zc Y Y Y ?_|refine Zy Y Y Y Y Y Y ?_|refine ZL ?_)
 all_goals try omega
 all_goals refine⟨rfl,?_⟩
 all_goals repeat'(first|refine ZE ?_|refine ZD ?_|refine ZI Y Y ?_|refine ZQ Y Y Y Y ?_|refine ZB Y ?_|refine ZC ?_|(refine cm0 Y Y Y ?_ ?_<;>intro _<;>try omega)|refine ZU Y ?_|refine ZF Y ?_|refine Q2 Y Y Y Y ?_|refine Zt Y (g2 _) Y Y ?_|refine ZH ?_|refine ZS ?_|refine ZL ?_|refine Z5 ?_)
 ·rename_i hz
  have hz':x.h=0:=by omega
  refine ZXo H hA' Y Y (j:=0) Y Y Y Y Y Y (ZpP 5 _ _ [x.text]) (by simp only[List.length_singleton];omega) (by decide) (fun A2 hA2 hl2=>?_)
  refine ZH5 H hA2 Y Y (j:=1) Y Y Y Y Y (Qu _ (Nat.lt_succ_self _)) Y (fun A3 hA3 hl3=>?_)
  repeat'(first|refine ZB Y ?_|refine ZL ?_|refine Z5 ?_)
  refine⟨rfl,hA3.trans ?_⟩;have e:=ZvY A la b r es (es++[.str x.text]);rw[if_pos hz',jC,List.map_nil,<- e]
  rw[<- ZTb (fun k hk=>by simp only[List.mem_cons,List.not_mem_nil,or_false]at hk;rcases hk with rfl|rfl<;>exact Nat.le_refl _)]
  simp only[lL,List.length_singleton];rfl
 ·rename_i hz
  have hz':¬ x.h=0:=by omega
  refine⟨rfl,hA'.trans ?_⟩;rw[H.same,if_neg hz',List.map_nil,lN]
theorem ZQK(N:ZO)(v:List Nat):(QX N v).length<=v.length:=List.length_filterMap_le _ _
theorem Zri{b:Nat}{N:ZO}(hN:GoodN N)(hR:Rd st la (b+5) N){r:Ro}(hr:RtOk N r):S T3 ZEi [.ptr la (b+5) 0 0 0,r.av] st=some (.tup [.lit ((QX N (Ya N r)).map .str),.int .i64 0],st):=by
 refine s_rf (rf:=p_rope_Leaves) Y (fun A hA=>?_)
 have hK:=fun L=>ZuO hN (hR.push hA (ro:=false) (L:=L)) hr
 have hNd:=fun L=>up1 (ZoA (A:=A) (L:=L) (la:=la) (b:=b) (r:=r))
 have hlen:=ZcW hN hr
 have hseq:=fun (caps:LV) (hcw:Zm caps=caps) (o:LV->St->OS) hy=>Zuy (TY:=ZUK T1 (A.length+1) o) (fun g y hg=>Zn7 Zrg _ _ g y (le1 g y hg)) (σ:=lvF A N la b r) hN (lv:=A.length+1) (caps:=caps) hcw (fun _=>hR.push hA) (fun _=>rfl) (B:=100000000) hy hr (by omega) (l1:=A.length) (i1:=3) (l4:=A.length) (i4:=4) (fun _=>St.get_cur ..) (fun _=>St.get_cur ..)
 have hS:=hseq (ZLi 32 [(7,.ptr A.length 2 0 0 0),(18,.func (.func Jg) [] [.ptr A.length 3 0 0 0,.ptr A.length 4 0 0 0]),(20,.any)]) rfl (ZA3 (S T1) itS p_rope_Leaves.nt p_rope_Leaves.rng) (fun v h x more ro L hv hx=>Zn8 _ _ _ _ _ (Zrh ⟨_,rfl,rfl⟩ v (by have:=ZQK N v;omega) h x more ro L hx))
 unfold lvF at hS;have hl0:(QX N (Ya N r)).map AV.str=(QX N (Ya N r)).map AV.str:=rfl
 generalize hes:QX N (Ya N r)=l at *
 have e0:lvL A la b r ((QX N []).map .str)=lvL A la b r []:=rfl;rw[e0]at hS;unfold lvL at hS
 unfold Ro.av at *
 repeat'(first|refine ZE ?_|refine ZD ?_|refine ZG Y ?_|refine ZQ Y Y Y Y ?_|refine ZB Y ?_|refine ZC ?_|(refine cm0 Y Y Y ?_ ?_<;>intro _<;>try omega)|refine ZF Y ?_|refine Zc Y Y Y ?_|refine ZCm Y ?_|refine ZA Y Y Y (hK _) ?_|refine ZA Y Y Y (hNd _) ?_|refine ZH ?_|refine ZL ?_)
 all_goals try contradiction
 refine .inr ⟨rfl,_,Zrd (g:=Jg) Y (by decide) hS,?_⟩
 repeat'(first|refine ZE ?_|refine ZD ?_|refine ZG Y ?_|refine ZQ Y Y Y Y ?_|refine ZB Y ?_|refine ZC ?_|refine ZH ?_|refine ZP ?_|refine ZL ?_)
 exact ZNx hA (.inr Y) Y Y Y (fun v hv=>by obtain⟨x,_,rfl⟩:=List.mem_map.1 hv;rfl) rfl rfl
def ZAv(w:List Nat)(h:Nat):List Nat:=if h∈w then w else w++[h]
def ZlE(r:AR)(o:Nat):Prop:=ZCd o/\r.states[o % 65536]?=some 1/\r.gens[o % 65536]?=some ((o / 65536:Nat):Int)
instance (r:AR) (o:Nat):Decidable (ZlE r o):=by unfold ZlE;exact inferInstance
theorem AROk.live{r:AR}(h:AROk r){x:Nd}(hx:lk r.nodes o=some x):ZlE r o/\o<18446744073709551616:=by
 obtain⟨s,g,k1,k2,k3,k4⟩:=h.key o x hx;obtain⟨h1,h2⟩:=h.hnd hx
 have:=h.n16
 have hm:o % 65536=s:=by omega
 have hd:o / 65536=g:=by omega
 unfold ZlE;rw[hm,hd];refine⟨⟨h1,k3,k4⟩,?_⟩;unfold ZCd at h1;omega
theorem ZlF:∀l:List Tr,(∀t∈l,4*(t.cnt:Int)+4<=t.bytes)->4*(Tr.cntL l:Int)+4*l.length<=Tr.bytesL l
 | [],_=>by simp[Tr.cntL,Tr.bytesL]
 | t::l,h=>by
  have h1:=h t (by simp)
  have h2:=ZlF l fun u hu=>h u (by simp[hu])
  simp only[Tr.cntL,Tr.bytesL,List.length_cons];omega
theorem Zrj{N:ZO}(hN:GoodN N)(hv:Val N t):(t.cnt:Int)<=t.bytes/\(Big t->4*(t.cnt:Int)+4<=t.bytes):=by
 have hsz:=hv.size hN;have hps:=hv.pos.2
 induction hv with
 | @kept o h m k x h0 hx hok hh hm hk =>
  have ec:(Tr.mk o h m [] k).cnt=0:=by rw[Tr.cnt,Tr.cntO_getD,hk,if_neg h0];rfl
  have hl:h<=16:=by
   rcases hok with q|⟨n,ks,q⟩
   ·rw[<- hh,q.h];omega
   ·have:=q.n15;have e:=q.eq;subst e;simp only at hh;omega
  rw[ec]
  refine⟨by omega,fun q=>?_⟩
  have h1:=hsz q;have h2:=(ZF5 hl).1;simp only[Tr.h]at h1;omega
 | @leaf s k h1 h2 hk =>
  have ec:(Tr.mk 0 0 .zero s k).cnt=1:=by rw[Tr.cnt,Tr.cntO_getD,hk];rfl
  rw[ec]
  refine⟨by omega,fun q=>?_⟩
  have:=q rfl
  omega
 | @inner h l hh h2 h4 hl hb hv ih =>
  have ec:(Tr.mk 0 (h+1) .zero [] (some l)).cnt=Tr.cntL l+1:=by rw[Tr.cnt,Tr.cntO];simp;omega
  have eb:(Tr.mk 0 (h+1) .zero [] (some l)).bytes=Tr.bytesL l:=by rw[Tr.bytes,Tr.bytesO];simp[Mea.zero]
  have:=ZlF l fun u hu=>(ih u hu ((hv u hu).size hN) (hv u hu).pos.2).2 (fun q=>hb u hu (by rw[<- hl u hu];exact q))
  rw[ec,eb]
  exact⟨by omega,fun _=>by omega⟩
theorem ZwI{N:ZO}(hN:GoodN N)(hv:VE N t):(nw t:Int)<=t.bytes:=by
 rcases hv with he|hv
 ·unfold nw;rw[if_pos ⟨he.old,he.h,he.text⟩,he.bytes];decide
 ·rw[ZTa hv];exact (Zrj hN hv).1
theorem Zmr{L:List Blk}{b:Nat}{r:AR}(hA:HasR ⟨A,false,L⟩ la b r)(hN:r.n<=r.blk.length)(h16:r.states.length<=16384)(h6:r.n<65536)(hg:GoodN r.nodes)(hv:VE r.nodes t)(hb:t.bytes<=65536)(hn:r.n<nw t):
 S Tb XN [.ptr la (b+5) 0 0 0,t.av] ⟨A,false,L⟩=some (.tup [.nilptr,.int .i64 6],⟨A,false,L++[.arr 7 0 [t.av]]⟩):=by
 have hv:Val r.nodes t:=by
  rcases hv with he|hv
  ·unfold nw at hn;rw[if_pos ⟨he.old,he.h,he.text⟩]at hn;omega
  ·exact hv
 rw[ZTa hv]at hn;have hcb:=(Zrj hg hv).1
 have hCk:=fun T=>ZTU (hA.app T).rd hv hb
 have hNw:=fun st=>Zuw hv (by omega) st
 have hSt:=fun T=>Zi6 (hA.app T) hN h16 h6
 unfold AR.statsAV at hSt;refine XW Y ?_
 have e0:(⟨A,false,L⟩:St)=⟨A,false,L++[]⟩:=by rw[lN]
 rw[e0]
 repeat'(first|refine Xu Y (QI _) (Qc _) Y Y ?_|refine ZDs Y Y Y (Z0 _) ?_|refine ZE ?_|refine ZD ?_|refine ZG Y ?_|refine ZB Y ?_|refine ZC ?_|refine ZYi (agg:=false) Y Y ?_|(refine cm0 Y Y Y ?_ ?_<;>intro _<;>try omega)|(refine cm0 Y Y Y ?_ ?_<;>intro _<;>try omega)|refine ZU Y ?_|refine ZF Y ?_|refine ZA Y Y (by first|rfl|(simp only[lE,lN,lC,Zm,Zb,ZZ];first|done|rfl)) (hCk _) ?_|refine ZA Y Y (by first|rfl|(simp only[lE,lN,lC,Zm,Zb,ZZ];first|done|rfl)) (hNw _) ?_|refine ZA Y Y (by first|rfl|(simp only[lE,lN,lC,Zm,Zb,ZZ];first|done|rfl)) (hSt _) ?_|refine ZH ?_|refine ZP ?_|refine ZL ?_|refine ZW ?_)
 all_goals try omega
 refine (Jo (.inr Y) Y Y Y Y).trans ?_;rfl
theorem Zms{b:Nat}{r:AR}(hA:Has st la b r)(ho:AROk r)(hg:GoodN r.nodes)(hv:VE r.nodes t)(hb:t.bytes<=65536)(hn:r.n<nw t):
 S Tb ZAP [.ptr la (b+5) 0 0 0,t.av] st=some (.tup [Ro.zero.av,.lit [],.int .i64 6],st):=by
 refine Jz Y (fun A hA'=>?_)
 have hS:=fun L=>Zmr (L:=L) (hA.push hA').r ho.nb ho.n16 (by have:=ho.nn;have:=ho.n16;omega) hg hv hb hn
 repeat'(first|refine ZE ?_|refine ZD ?_|refine ZG Y ?_|refine Zp Y Y ?_|refine ZB Y ?_|refine ZC ?_|(refine cm0 Y Y Y ?_ ?_<;>intro _<;>try omega)|refine ZU Y ?_|refine Zn Y Y Y ?_|refine Zc Y Y Y ?_|refine Zy Y Y Y Y Y Y ?_|refine ZCJ Y ?_|refine ZQ Y Y Y (Z0 _) ?_|refine Zw Y (QI _) (Qc _) ?_|refine ZA Y Y (by first|rfl|(simp only[lE,lN,lC,Zm,Zb,ZZ];first|done|rfl)) (hS _) ?_|refine ZP ?_|refine ZL ?_|refine ZW ?_)
 all_goals try first|contradiction|omega
 exact ZrZ (ro:=.zero) (l:=[]) hA' (.inr Y) Y Y Y Y Y Y
theorem ZcY{x:B8}{l:List B8}(h:l[i]?=some x):(l.take (i+1)).flatten=(l.take i).flatten++x:=by
 rw[List.take_add_one,h];simp
theorem ZoC(l:List B8)(i:Nat):(l.take i).flatten.length<=l.flatten.length:=by
 have:=congrArg List.length (congrArg List.flatten (List.take_append_drop i l))
 rw[List.flatten_append,lL]at this;omega
theorem Zrk{b:Nat}{N:ZO}(hN:GoodN N)(hR:Rd st la (b+5) N){r:Ro}(hr:RtOk N r)(hlim:(QX N (Ya N r)).flatten.length<=65536):S T3 ZBU [.ptr la (b+5) 0 0 0,r.av] st=some (.tup [.str (QX N (Ya N r)).flatten,.int .i64 0],st):=by
 refine QA (le3 ZBU (.pf ZJl) Y) (fun A hA=>?_)
 have hL:=fun L=>Zri hN (hR.push hA (ro:=false) (L:=L)) hr
 have hll:(QX N (Ya N r)).length<4000000000:=by have:=ZQK N (Ya N r);have:=ZcW hN hr;omega
 unfold Ro.av at *
 generalize QX N (Ya N r)=l at *
 repeat'(first|refine ZE ?_|refine ZD ?_|refine ZG Y ?_|refine ZQ Y Y Y Y ?_|refine Zp Y Y ?_|refine ZB Y ?_|refine ZC ?_|refine Qo Y ?_|(refine cm0 Y Y Y ?_ ?_<;>intro _<;>try omega)|refine ZF Y ?_|refine Zc Y Y Y ?_|refine ZCJ Y ?_|refine ZA Y Y Y (hL _) ?_|refine ZH ?_|refine ZS ?_)
 all_goals try first|contradiction|omega
 refine Z2 (α:=Nat) (fun i=>[(8,.ref A.length 1 i 0 (l.take i).flatten.length),(20,.lit (l.map .str)),(21,.int .i64 l.length),(22,.int .i64 i)])
  (fun i=>⟨A,false,[.arr 5 0 [r.av],.arr 1 i (Za (l.take i).flatten)]⟩) (fun i=>i<=l.length) (fun i=>l.length-i) 0 rfl rfl (by simp) ?_
 rintro i hi
 have hfl:=ZoC l i
 repeat'(first|refine ZE ?_|refine ZD ?_|refine ZG Y ?_|refine ZB Y ?_|refine ZC ?_|refine Qt Y Y ?_|refine Yi Y Y (by omega) (fun _=>rfl) (fun _ _=>?_)|(refine cm0 Y Y Y ?_ ?_<;>intro _<;>try omega)|refine ZU Y ?_|refine ZF Y ?_|refine ZH ?_|refine Zz ?_|refine ZS ?_|refine Zk ?_|refine Zh Y ?_|refine Zx ?_)
 ·rename_i x hx
  have hx2:l[i]?=some x:=hx;have hf2:=ZoC l (i+1);rw[ZcY hx2]at hf2;rw[lL]at hf2
  refine ZXm (ix:=1) (ver:=i) (n:=(l.take i).flatten.length) (es:=Za (l.take i).flatten) (vx:=.str x) (ys:=Za x) Y Y Y ?_ (ZBf _).symm ?_ (by decide) (Zmh _) (Zmi _ _ _) Y ?_
  ·rfl
  ·rw[ZBf,ZBf];omega
  repeat'(first|refine ZD ?_|refine ZG Y ?_|refine ZB Y ?_|refine ZC ?_|refine Zr Y Y (by omega) ?_|refine Z5 ?_|refine QJ ?_)
  refine⟨i+1,⟨?_,?_⟩,by omega,by omega⟩
  ·simp only[ZcY hx2,lL,ZBf];rfl
  ·simp only[ZcY hx2,ZcM]
 ·have hi':i=l.length:=by omega
  subst hi';rw[List.take_length]
  skip
  refine ZYh Y (v:=.str l.flatten) ?_ ?_
  ·have hl:=ZBf l.flatten
   show (ZBh l.length 0 l.flatten.length (St.get _ A.length 1)).bind _=_
   rw[St.get_cur]
   show (ZBh l.length 0 l.flatten.length (some (Blk.arr 1 l.length (Za l.flatten)))).bind _=_
   simp only[ZBh,true_and,hl,Nat.zero_add,Nat.le_refl,if_true,List.drop_zero,oS]
   rw[List.take_of_length_le (by omega),ZDv];rfl
  repeat'(first|refine ZG Y ?_|refine ZB Y ?_|refine ZC ?_|refine ZP ?_|refine ZL ?_)
  refine ZX hA (by simp) Y Y Y Y ?_
  rfl
theorem PI.ok{r:AR}(ho:AROk r)(hg:GoodN r.nodes)(hv:VE r.nodes t)(hb:t.bytes<=65536)(hn:nw t<=r.n){its:List It}{ρ:Nat->Ro}(h:PI t its rx ρ):
 WrB r (nw t) (wrV t r).1 (wrV t r).2.2/\(IsEmpty t/\(wrV t r).2.1=.zero\/Val r.nodes t/\WrOk r.nodes t (wrV t r).1 (wrV t r).2.1):=by
 rcases h with⟨h1,_,h2⟩|⟨⟨M,hM⟩,R,h1,h2,h3⟩
 ·have e:nw t=0:=by unfold nw;rw[if_pos ⟨h1.old,h1.h,h1.text⟩]
  rw[Zgo h1,e];exact⟨.refl ho hg,.inl ⟨h1,rfl⟩⟩
 ·rcases hv with hv|hv
  ·exact absurd hv hM.not_empty
  ·rw[Zn4 hv,ZTa hv]
   rw[ZTa hv]at hn;obtain⟨ρ',a1,a2,a3,a4,a5⟩:=exec_ok hg hv hb r ho hg (.refl _) hn rx its R ρ h1 h2 h3;exact⟨a4,.inr ⟨hv,a5⟩⟩
theorem ZwJ{b:Nat}{r:AR}(hA:Has st la b r)(ho:AROk r)(hg:GoodN r.nodes)(hv:VE r.nodes t)(hb:t.bytes<=65536)(hn:nw t<=r.n):
 WrB r (nw t) (wrV t r).1 (wrV t r).2.2/\(IsEmpty t/\(wrV t r).2.1=.zero\/Val r.nodes t/\WrOk r.nodes t (wrV t r).1 (wrV t r).2.1):=by
 obtain⟨L2,tx,ver,cs,its,F,keys,rx,ρ,hS,hB⟩:=Zn5 (L:=[]) (hA.push rfl).r ho.nb ho.n16 (by have:=ho.nn;have:=ho.n16;omega) hv hb hn
 exact hB.pi.ok ho hg hv hb hn
def ZGC(N:ZO)(r:Ro):B8:=if r.at_=0 then [] else QT N r.h r.at_
structure Rt(N:ZO)(r:Ro)(s:B8):Prop where
 rt:RtOk N r
 tx:ZGC N r=s
theorem RtOk.ext{N M:ZO}(hE:Ext N M){r:Ro}(h:RtOk N r):RtOk M r:=h.imp id fun ⟨h0,x,h1,h2⟩=>⟨h0,x,hE _ _ h1,h2⟩
theorem Rt.ext{N M:ZO}(hN:GoodN N)(hE:Ext N M){r:Ro}(h:Rt N r s):Rt M r s:=by
 refine⟨h.rt.ext hE,?_⟩;rw[<- h.tx];unfold ZGC
 split
 ·rfl
 ·rename_i q
  rcases h.rt with e|⟨_,x,h1,_,h2,_⟩
  ·rw[e]at q;exact absurd Y q
  ·exact ZK2 hN hE _ _ x h1 h2
theorem Rt.zero(N:ZO):Rt N .zero []:=⟨.inl rfl,rfl⟩
theorem Rt.m{N:ZO}(hN:GoodN N){r:Ro}(h:Rt N r s):r.m=JQ s:=by
 obtain⟨h,rfl⟩:=h;unfold ZGC
 rcases h with rfl|⟨h0,x,h1,h2,h3,h4⟩
 ·rfl
 ·rw[if_neg h0,ZBA hN _ _ x h1 h3,h4]
theorem Rt.wr{r:AR}(ho:AROk r){N:ZO}{ro:Ro}(h:WrOk N t r ro):Rt r.nodes ro (t.txt N):=by
 obtain⟨y,h1,h2,h3,h4⟩:=h.live;have h0:=(ho.hnd h1).2
 refine⟨.inr ⟨h0,y,h1,h2,by rw[h3,h.rh],by rw[h4,h.rm]⟩,?_⟩
 unfold ZGC;rw[if_neg h0,h.rh,h.txt]
theorem Rt.keep{N:ZO}{r:Ro}(h:Rt N r s):VE N (ZAJ r)/\(ZAJ r).txt N=s:=by
 obtain⟨h,rfl⟩:=h;unfold ZGC ZAJ
 rcases h with rfl|⟨h0,x,h1,h2,h3,h4⟩
 ·rw[if_pos (by rfl),if_pos (by rfl)];exact⟨.inl zero_empty,rfl⟩
 ·rw[if_neg h0,if_neg h0]
  exact⟨.inr (.kept h0 h1 h2 h3 h4 Y),by rw[Tr.keep,Tr.txt,if_neg h0];simp[Tr.txtO]⟩
theorem Rt.b{N:ZO}(hN:GoodN N){r:Ro}(h:Rt N r s):(ZAJ r).bytes=s.length/\r.m.b=s.length:=by
 have h1:=h.keep;have h2:=h1.1.len hN;rw[h1.2]at h2
 exact⟨h2.symm,by rw[h.m hN];rfl⟩
theorem Zrl{b:Nat}{r:AR}(hA:Has st la b r)(ho:AROk r)(hg:GoodN r.nodes)(hv:VE r.nodes t)(hb:t.bytes<=65536)(hn:nw t<=r.n):
 WrB r (nw t) (wrV t r).1 (wrV t r).2.2/\Rt (wrV t r).1.nodes (wrV t r).2.1 (t.txt r.nodes):=by
 obtain⟨h1,h2⟩:=ZwJ hA ho hg hv hb hn;refine⟨h1,?_⟩
 rcases h2 with⟨he,h2⟩|⟨hv,h2⟩
 ·rw[h2,he.txt];exact .zero _
 ·exact .wr h1.ok h2
theorem ZIZ(N:ZO)(v w:List Nat):QX N (v++w)=QX N v++QX N w:=by unfold QX;rw[List.filterMap_append]
theorem ZlG{N:ZO}(hN:GoodN N):∀n o x,lk N o=some x->x.h=n->(QX N (ZAp N n o)).flatten=QT N n o:=by
 intro n
 induction n with
 | zero =>
  intro o x hx hh;rw[ZAp,QT,hx]
  simp[QX,Q5 hx,hh]
 | succ n ih =>
  intro o x hx hh;rw[ZAp,QT,hx,Q5 hx]
  have h0:QX N [o]=[]:=by simp[QX,Q5 hx];omega
  have e:=ZIZ N [o] (x.ks.flatMap fun k=>ZAp N n k.at_)
  rw[h0]at e;simp only[Option.map_some,Option.getD_some]
  rw[show (o::x.ks.flatMap fun k=>ZAp N n k.at_)=[o]++x.ks.flatMap fun k=>ZAp N n k.at_ from rfl,e,lE]
  have hk:=(hN o x hx).2
  have key:∀l:List Kid,(∀k∈l,k∈x.ks)->(QX N (l.flatMap fun k=>ZAp N n k.at_)).flatten=l.flatMap fun k=>QT N n k.at_:=by
   intro l
   induction l with
   | nil=>intro _;rfl
   | cons k l ih2 =>
    intro h
    obtain⟨_,y,y1,y2,_⟩:=hk k (h k (by simp))
    rw[List.flatMap_cons,List.flatMap_cons,ZIZ,List.flatten_append,ih k.at_ y y1 (by omega),ih2 (fun q hq=>h q (by simp[hq]))]
  exact key _ fun _ h=>h
theorem Rt.leaves{N:ZO}(hN:GoodN N){r:Ro}(h:Rt N r s):(QX N (Ya N r)).flatten=s:=by
 obtain⟨h,rfl⟩:=h;unfold ZGC Ya
 split
 ·rfl
 ·rename_i q
  rcases h with rfl|⟨_,x,h1,_,h2,_⟩
  ·exact absurd Y q
  ·exact ZlG hN _ _ x h1 h2
theorem ZXu(A:List (Bool × List Blk))(L0 T:List Blk)(r:AR):Has ⟨A,false,L0++(arB A.length L0.length r++T)⟩ A.length L0.length r:=by
 have h:∀i b,(arB A.length L0.length r++T)[i]?=some b->vis (some b)=some b->St.get ⟨A,false,L0++(arB A.length L0.length r++T)⟩ A.length (L0.length+i)=some b:=by
  intro i b hb hv;rw[St.get_cur,JJ,hb,hv]
 exact⟨by simp[St.wr],h 0 _ Y Y,h 1 _ Y Y,h 2 _ Y Y,h 3 _ Y Y,h 4 _ Y Y,h 5 _ Y Y⟩
theorem Zrm(A:List (Bool × List Blk))(L0 T:List Blk)(r r':AR):Qy ⟨A,false,L0++(arB A.length L0.length r++T)⟩ A.length L0.length r'=⟨A,false,L0++(arB A.length L0.length r'++T)⟩:=by
 have h:∀(X:List Blk) (i:Nat) (b:Blk),St.upd ⟨A,false,L0++X⟩ A.length (L0.length+i) b=⟨A,false,L0++X.set i b⟩:=fun X i b=>by
  unfold St.upd;simp only[if_true,ZXr]
 have h0:∀(X:List Blk) (b:Blk),St.upd ⟨A,false,L0++X⟩ A.length L0.length b=⟨A,false,L0++X.set 0 b⟩:=fun X b=>h X 0 b
 simp only[Qy,arK,arB,Zv,h,h0];rfl
theorem ZvZ{L:List Blk}{x:Ex}{ro:Ro}(hA:A=st.A++[(st.ro,st.L)])(hx:x=.norm\/x=.ret)(h4:Jx e c4=some (.ptr A.length j4 v4 0 0))(hg4:L[j4]?=some (.arr w4 v4 [ro.av]))
 (h6:Jx e c5=some (.int .i64 z)):Jm false [.c c4 true 5,.s c5] (x,e,⟨A,false,L⟩)=some (.tup [ro.av,.int .i64 z],st):=by
 refine ZC2 (v:=.tup [ro.av,.int .i64 z]) hA hx ?_ (L':=L) Y Y
 have h1:ZAo ⟨A,false,L⟩ e (.c c4 true 5)=some ro.av:=by
  simp only[ZAo,QQ h4,loadP,St.get_cur,hg4,vis,ZE4,if_true,List.getElem?_cons_zero,oS];rfl
 simp only[Qk,ZDz,h1,oS];simp only[ZAo,QQ h6,oS,Option.map_some,ZE5]
theorem ZoD{b:Nat}{r:AR}(hA:Has st la b r)(ho:AROk r)(hg:GoodN r.nodes)(s:B8)(hs:s.length<=65536)(hn:nw (Jv s)<=r.n):
 S Tb ZC4 [.ptr la (b+5) 0 0 0,.str s] st=some (.tup [(wrV (Jv s) r).2.1.av,.int .i64 0],Qy st la b (wrV (Jv s) r).1):=by
 obtain⟨b1,b2,b3⟩:=ZGA hg hs
 refine Jz Y (fun A hA'=>?_)
 have hB:=fun L=>Znu hg s hs ⟨A,false,L⟩
 have hle:=hA.le
 have hW:=fun L=>Zn6 (st:=⟨A,false,L⟩) (hA.push hA') ho hg b1 (by rw[b3];omega) hn
 simp only[ZCp hA' hle]at hW
 generalize (wrV (Jv s) r).1=r' at *
 generalize (wrV (Jv s) r).2.1=ro at *
 repeat'(first|refine ZE ?_|refine ZD ?_|refine ZG Y ?_|refine Zp Y Y ?_|refine ZB Y ?_|refine ZC ?_|(refine cm0 Y Y Y ?_ ?_<;>intro _<;>try omega)|refine ZF Y ?_|refine JM Y Y Y Y ?_|refine Zc Y Y Y ?_|refine ZQ Y Y Y (Z0 _) ?_|refine Zy Y Y Y (Qn _ _ _) (JR _ _) Y ?_|refine ZA Y Y (by first|rfl|(simp only[lE,lN,lC,Zm,Zb,ZZ];first|done|rfl)) (hB _) ?_|refine ZH ?_)
 all_goals try first|contradiction|omega
 obtain⟨A2,hA2⟩:∃A2,A2=(Qy st la b r').ps:=⟨_,rfl⟩;simp only[<- hA2]at hW
 have hAl:A.length=A2.length:=by rw[hA',hA2];simp[St.ps,ZKb]
 refine ZA Y Y (ZwE Y _) (hW _) ?_;rw[hAl]
 repeat'(first|refine Qs Y Y Y Y Y Y ?_|refine ZQ Y Y Y Y ?_|refine ZE ?_|refine ZD ?_|refine ZG Y ?_|refine Zp Y Y ?_|refine ZB Y ?_|refine ZC ?_|refine Zc Y Y Y ?_|refine ZP ?_|refine ZL ?_)
 exact ZvZ hA2 (.inr Y) Y Y Y
theorem ZcZ(n g:Nat)(hn:n<=16384)(hg:1<=g/\g<=4294967295):AROk (JT n g):=by
 have hb:∀i,i<n->(JT n g).blk[i]?=some ((n:Int)-1-i):=fun i hi=>by simp[JT,hi]
 refine⟨by simp[JT],by simp[JT];exact hn,by simp[JT],by simp[JT],fun i hi=>⟨n-1-i,?_,?_,?_⟩,fun i j hi hj q=>?_,fun s hs=>⟨1,?_,by omega,?_⟩,?_,fun h x hx=>?_,?_,?_,?_⟩
 ·have hi':i<n:=hi
  rw[hb i hi'];congr 1
  show (n:Int)-1-i=((n-1-i:Nat):Int)
  omega
 ·have hi':i<n:=hi
  show n-1-i<(List.replicate n (0:Int)).length
  rw[List.length_replicate];omega
 ·have hi':i<n:=hi
  show (List.replicate n (0:Int))[n-1-i]?=some 0
  rw[List.getElem?_replicate,if_pos (by omega)]
 ·have hi':i<n:=hi
  have hj':j<n:=hj;rw[hb i hi',hb j hj']at q
  have:=Option.some.inj q
  omega
 ·have hs':s<n:=by simpa [JT] using hs
  simp[JT,hs']
 ·show ((1:Nat):Int)<=(g:Int);omega
 ·show (g:Int)<=_;omega
 ·simp[JT,lk]at hx
 ·simp[JT]
 ·simp[JT]
 ·simp[JT];omega
def Zca(x n:Int):Int:=(x % 18446744073709551616) % (n+1)
theorem ZQL{x n:Int}(h:0<=n):0<=Zca x n/\Zca x n<=n:=by
 unfold Zca
 have:=Int.emod_nonneg (x % 18446744073709551616) (show n+1≠0 by omega)
 have:=Int.emod_lt_of_pos (x % 18446744073709551616) (show 0<n+1 by omega)
 omega
theorem Zuz(x:Int):IntKind.u64.wrap x=x % 18446744073709551616:=by
 have e1:IntKind.u64.signed=false:=rfl;have e2:IntKind.u64.bits=64:=rfl;simp only[IntKind.wrap,e1,e2,Bool.false_and,if_false,jB];rfl
theorem ZGD(k:Option (List Tr)):(Tr.ownO k).getD []=(k.getD []).map Tr.own:=by
 cases k with
 | none=>rfl
 | some l=>simp[Tr.ownO,Tr.ownL_map]
theorem ZwK(t:Tr):t.own.h=t.h:=by cases t;rfl
theorem Zgq(t:Tr):t.own.bytes=t.bytes:=by
 induction t using Tr.ind with
 | step o h m s k ih =>
  rw[Tr.own,Tr.bytes,Tr.bytes,Tr.bytesO_getD,Tr.bytesO_getD,ZGD];generalize k.getD []=l at ih
  congr 1
  induction l with
  | nil=>rfl
  | cons a l ih2=>rw[jC,Tr.bytesL,Tr.bytesL,ih a (by simp),ih2 (fun t ht=>ih t (by simp[ht]))]
theorem ZuP(N:ZO)(t:Tr):t.own.txt N=t.txt N:=by
 induction t using Tr.ind with
 | step o h m s k ih =>
  rw[Tr.own,Tr.txt,Tr.txt,Tr.txtO_getD,Tr.txtO_getD,ZGD];generalize k.getD []=l at ih
  congr 1
  induction l with
  | nil=>rfl
  | cons a l ih2=>rw[jC,Tr.txtL,Tr.txtL,ih a (by simp),ih2 (fun t ht=>ih t (by simp[ht]))]
theorem ZuQ{N:ZO}(hv:Val N t):Val N t.own:=by
 induction hv with
 | kept h0 hx hok hh hm hk =>
  rw[Tr.own]
  exact .kept h0 hx hok hh hm (by rw[ZGD,hk];rfl)
 | leaf h1 h2 hk =>
  rw[Tr.own]
  exact .leaf h1 h2 (by rw[ZGD,hk];rfl)
 | inner hh h2 h4 hl hb hv ih =>
  rename_i h l
  rw[Tr.own,Tr.ownO,Tr.ownL_map]
  refine .inner hh (by rw[List.length_map];exact h2) (by rw[List.length_map];exact h4) ?_ ?_ ?_
  ·intro t ht
   obtain⟨u,hu,rfl⟩:=List.mem_map.1 ht;rw[ZwK];exact hl u hu
  ·intro t ht q
   obtain⟨u,hu,rfl⟩:=List.mem_map.1 ht;rw[Zgq];exact hb u hu q
  ·intro t ht
   obtain⟨u,hu,rfl⟩:=List.mem_map.1 ht;exact ih u hu
theorem Zva{N:ZO}(h:VE N t):VE N t.own:=by
 rcases h with h|h
 ·obtain⟨o,h',m,s,k⟩:=t
  obtain⟨h1,h2,h3,h4,h5⟩:=h
  exact .inl ⟨h1,h2,h3,h4,by show (Tr.ownO k).getD []=[];rw[ZGD];simp only[Tr.ks]at h5;rw[h5];rfl⟩
 ·exact .inr (ZuQ h)
theorem Zvb(x n:Int)(h0:0<=n)(h1:n<4611686018427387904)(st:St):S Tb X6 [.int .i64 x,.int .i64 n] st=some (.int .i64 (Zca x n),st):=by
 have hp:=ZQL (x:=x) h0
 have hw:IntKind.u64.wrap (n+1)=n+1:=by rw[Zuz];omega
 have hx:=Int.emod_nonneg x (show (18446744073709551616:Int)≠0 by decide)
 have hrem:ZE2 .rem (.int .u64 (IntKind.u64.wrap x)) (.int .u64 (n+1))=some (.int .u64 (Zca x n)):=by
  rw[Zuz]
  show (if n+1=0 then none else some (AV.int .u64 ((x % 18446744073709551616).tmod (n+1))))=_
  rw[if_neg (by omega),Int.tmod_eq_emod_of_nonneg hx];rfl
 refine QA Y (fun A hA=>?_)
 repeat'(first|refine ZE ?_|refine ZD ?_|refine ZG Y ?_|refine ZB Y ?_|refine ZC ?_)
 refine Zth Y ?_
 repeat'(first|refine ZG Y ?_|refine Zr Y Y (by omega) ?_)
 refine ZNv Y hw ?_;refine ZYg Y Y hrem ?_
 refine ZNv Y (ZQn (by omega) (by omega)) ?_
 repeat'(first|refine ZG Y ?_|refine ZB Y ?_|refine ZC ?_|refine ZP ?_|refine ZL ?_)
 refine ZX hA (by simp) Y Y Y Y ?_
 rfl
structure Ed where
 what:Nat
 n:Int
 at_:Int
 len:Int
 text:B8
theorem ZIF(r:Ro):Jk r.av true 0 5=some r.av:=by cases r;rfl
theorem ZEd{keep:List Nat}{is:List QAbs.PI}{α:Type}{f:α->AV}{l:List α}(hx:Zg e x=some (.lit (l.map f)))(h:Is O is keep k Q ((d,.int .i64 l.length)::e) st):Is O (⟨some d,none,false,.len 1 x⟩::is) keep k Q e st:=by
 refine ZhU hx ?_;rw[List.length_map];exact h
theorem ZuR{lv:Nat}{n m:Int}:ZZ (Zm ([]++[.ptr lv ix 0 0 0,t.av,.int .i64 n,.int .i64 m,.str s]++[]))=some [.ptr lv ix 0 0 0,t.av,.int .i64 n,.int .i64 m,.str s]:=by
 simp only[lE,lN,lC,Zm,Zb,ZZ];rfl
def ZQM:Nat->List B8->Nat
 | n,[]=>n
 | n,t::ts=>if n<=900 then ZQM (n+min t.length 1000) ts else n
def ZlH(l:List B8):Prop:=4<l.length\/900<ZQM 0 l
instance (l:List B8):Decidable (ZlH l):=by unfold ZlH;infer_instance
theorem ZTc{α:Type}{l:List α}{a:α}(h:l[i]?=some a):l.drop i=a::l.drop (i+1):=by
 obtain⟨h1,h2⟩:=List.getElem?_eq_some_iff.1 h;subst h2;exact List.drop_eq_getElem_cons h1
def ZoE(l:List Ed):Prop:=(∃s∈l.take 100,200<s.text.length)\/60<l.length
open Classical in
noncomputable instance (l:List Ed):Decidable (ZoE l):=Classical.propDecidable _
structure Comp(p:Mea->Int):Prop where
 zero:p .zero=0
 add:∀x y:Mea,p (x.add y)=p x+p y
 fit:∀(x:Mea) n,x.Fit n->0<=p x/\p x<=n
theorem comp_b:Comp Mea.b:=⟨rfl,fun _ _=>rfl,fun _ _ h=>⟨h.1,h.2⟩⟩
theorem Zcb:Comp Mea.l:=⟨rfl,fun _ _=>rfl,fun _ _ h=>⟨h.5,h.6⟩⟩
def QU(p:Mea->Int):List Kid->Int->Nat × Int
 | [],a=>(0,a)
 | k::l,a=>if a<p k.m then (0,a) else ((QU p l (a-p k.m)).1+1,(QU p l (a-p k.m)).2)
def Qw(p:Mea->Int)(ks:List Kid)(i:Nat):Int:=p (Z7 ((ks.take i).map Kid.m))
theorem ZK4{p:Mea->Int}(hp:Comp p){ks:List Kid}{k:Kid}(h:ks[i]?=some k):Qw p ks (i+1)=Qw p ks i+p k.m:=by
 unfold Qw;rw[Zs h,List.map_append,ZAH,hp.add]
 simp[Z7,hp.add,hp.zero]
theorem ZGE{p:Mea->Int}(hp:Comp p):∀(ks:List Kid) (a:Int),(∀k∈ks,k.m.Fit 65536)->0<=a->a<p (Z7 (ks.map Kid.m)) ->
 (QU p ks a).1<ks.length/\(QU p ks a).2=a-Qw p ks (QU p ks a).1/\0<=(QU p ks a).2/\∀k,ks[(QU p ks a).1]?=some k->(QU p ks a).2<p k.m:=by
 intro ks
 induction ks with
 | nil=>intro a _ h0 h1;simp only[List.map_nil,Z7,hp.zero]at h1;omega
 | cons k l ih =>
  intro a hf h0 h1;simp only[jC,Z7,hp.add]at h1;rw[QU]
  by_cases q:a<p k.m
  ·rw[if_pos q]
   refine⟨by simp,by simp[Qw,Z7,hp.zero],h0,fun z hz=>?_⟩
   simp at hz;subst hz;exact q
  ·rw[if_neg q]
   obtain⟨i1,i2,i3,i4⟩:=ih (a-p k.m) (fun z hz=>hf z (List.mem_cons_of_mem _ hz)) (by omega) (by omega)
   refine⟨by simp;omega,?_,i3,fun z hz=>i4 z (by simpa using hz)⟩
   simp only
   rw[i2]
   show _=a-p (Z7 (((k::l).take (_+1)).map Kid.m))
   rw[List.take_succ_cons,jC,Z7,hp.add];unfold Qw;omega
theorem Zmt{p:Mea->Int}{ks:List Kid}{k:Kid}(h:ks[i]?=some k)(a:Int):QU p (ks.drop i) a=if a<p k.m then (0,a) else ((QU p (ks.drop (i+1)) (a-p k.m)).1+1,(QU p (ks.drop (i+1)) (a-p k.m)).2):=by
 rw[ZTc h,QU]
def ZNQ(g:FuncId)(p:Mea->Int):Prop:=∀m st,S Tb g [Mea.av m] st=some (.int .i64 (p m),st)
theorem ZlJ{p:Mea->Int}(hg:ZNQ g p)(hp:Comp p)(n:Nat)(ks:List Kid)(hx:NdOk ⟨n+1,[],some ks⟩)(a:Int)(h0:0<=a)(h1:a<p (Z7 (ks.map Kid.m)))(hb:a<=1000000)(st:St):
 S Tb Xg [Nd.av ⟨n+1,[],some ks⟩,.int .i64 a,.func (.func g) [] []] st=some (.tup [.int .i64 (QU p ks a).1,.int .i64 (QU p ks a).2,.int .i64 0],st):=by
 refine QA Y (fun A hA=>?_)
 have hCk:=fun st=>ZP2 ⟨n+1,[],some ks⟩ hx st
 have hin:(∀k∈ks,k.m.Fit 65536)/\ks.length<=4/\n<=15:=by
  rcases hx with q|⟨m,l,q⟩
  ·have:=q.h;simp at this
  ·have e:=q.eq
   simp only[Nd.mk.injEq,true_and,oJ]at e;obtain⟨e1,e2⟩:=e;subst e2
   have:=q.n15
   exact⟨fun k hk=>(q.kid k hk).fit,q.hi,by omega⟩
 obtain⟨hf,hl4,hn15⟩:=hin;obtain⟨s1,s2,s3,s4⟩:=ZGE hp ks a hf h0 h1;simp only[Nd.av,slV]at hCk ⊢
 repeat'(first|refine ZE ?_|refine ZD ?_|refine ZG Y ?_|refine ZI Y Y ?_|refine ZQ Y Y Y Y ?_|refine ZB Y ?_|refine ZC ?_|refine Qo Y ?_|(refine cm0 Y Y Y ?_ ?_<;>intro _<;>try omega)|refine ZF Y ?_|refine Zc Y Y Y ?_|refine ZA Y Y Y (hCk _) ?_|refine ZH ?_|refine ZS ?_)
 all_goals try first|contradiction|omega
 refine Z2 (α:=Nat × Int × List Blk) (fun q=>[(1,.int .i64 q.2.1),(2,.func (.func g) [] []),(23,.lit (ks.map Kid.av)),(24,.int .i64 ks.length),(25,.int .i64 q.1)])
  (fun q=>⟨A,false,.arr 3 0 [.agg [.int .i64 ((n+1:Nat):Int),.str [],.lit (ks.map Kid.av)]]::q.2.2⟩) (fun q=>q.1<=ks.length/\0<=q.2.1/\q.2.1<=a/\q.1<=(QU p ks a).1/\QU p ks a=((QU p (ks.drop q.1) q.2.1).1+q.1,(QU p (ks.drop q.1) q.2.1).2)) (fun q=>ks.length-q.1) (0,a,[]) rfl rfl ⟨Nat.zero_le _,h0,Int.le_refl _,Nat.zero_le _,rfl⟩ ?_
 rintro⟨i,b,G⟩ ⟨hi,hb0,hba,hle,he⟩
 simp only at hi hb0 hba hle he ⊢
 rcases Nat.lt_or_ge i ks.length with hlt|hge
 ·obtain⟨k,hk⟩:∃k,ks[i]?=some k:=⟨ks[i]'hlt,jE _⟩
  have q:0<=((i:Nat):Int)/\ks[((i:Nat):Int).toNat]?=some k:=⟨by omega,by rw[show ((i:Nat):Int).toNat=i by omega];exact hk⟩
  have hgm:=fun st=>hg k.m st
  obtain⟨f1,f2⟩:=hp.fit k.m _ (hf k (jM hk));have hd:=Zmt (p:=p) hk b;obtain⟨ka,km⟩:=k
  simp only at hgm f1 f2 hd
  unfold Mea.av at hgm
  generalize hpm:p km=z at *
  simp only[Kid.av]at *
  rcases Int.lt_or_le b z with hz|hz
  ·rw[if_pos hz]at hd
   rw[hd]at he;rw[he]
   have e1:(((0+i:Nat)):Int)=i:=by omega
   simp only[e1]
   repeat'(first|refine Jw (f:=Kid.av) Y Y q (fun _=>rfl) ?_|refine ZE ?_|refine ZD ?_|refine ZG Y ?_|refine ZI Y Y ?_|refine ZB Y ?_|refine ZC ?_|refine Ql Y Y Y ?_|refine Qt Y Y ?_|(refine cm0 Y Y Y ?_ ?_<;>intro _<;>try omega)|refine ZU Y ?_|refine Zw Y Y Y ?_|refine Q1 Y Y Y Y Y Y ?_|refine ZA Y Y Y (hgm _) ?_|refine ZH ?_|refine ZP ?_|refine ZS ?_|refine ZL ?_|refine ZW ?_|refine QS ?_|refine ZC0 ?_)
   all_goals try first|contradiction|omega
   refine ZX hA (by simp) Y Y Y Y ?_
   rfl
  ·rw[if_neg (by omega)]at hd
   repeat'(first|refine Jw (f:=Kid.av) Y Y q (fun _=>rfl) ?_|refine ZE ?_|refine ZD ?_|refine ZG Y ?_|refine ZI Y Y ?_|refine ZB Y ?_|refine ZC ?_|refine Ql Y Y Y ?_|refine Qt Y Y ?_|(refine cm0 Y Y Y ?_ ?_<;>intro _<;>try omega)|refine ZU Y ?_|refine ZF Y ?_|refine Zr Y Y (by omega) ?_|refine Qe Y Y (by omega) ?_|refine Zw Y Y Y ?_|refine Q1 Y Y Y Y Y Y ?_|refine ZA Y Y Y (hgm _) ?_|refine ZH ?_|refine ZS ?_|refine Z5 ?_|refine QJ ?_)
   all_goals try first|contradiction|omega
   refine⟨(i+1,b-z,G++[.arr 4 0 [Kid.av ⟨ka,km⟩]]),⟨rfl,rfl⟩,⟨by simp only;omega,by simp only;omega,by simp only;omega,?_,?_⟩,by simp only;omega⟩
   ·simp only;rw[he,hd];simp only;omega
   ·simp only;rw[he,hd];simp only;congr 1;omega
 ·exfalso
  omega
noncomputable def exR:AR:=(wrV (Jv exS) (JT 8 4)).1
def exRo:Ro:=⟨65538,1,⟨17,17,0⟩⟩
theorem Zu0:(wrV (Jv exS) (JT 8 4)).2.1=exRo:=by
 rw[Zk4];rfl
theorem Zu1:nw (Jv exS)=3:=by rw[Zk4];rfl
theorem ZwL:AROk exR/\GoodN exR.nodes/\Rt exR.nodes exRo exS:=by
 obtain⟨b1,b2,b3⟩:=ZGA ZDt (s:=exS) (by decide)
 have ho:=ZcZ 8 4 (by omega) (by omega)
 obtain⟨w1,w2⟩:=Zrl (r:=JT 8 4) (ZXu [] [] [] _) ho ZDt b1 (by rw[b3];decide) (by rw[Zu1];decide)
 rw[show (JT 8 4).nodes=[] from rfl,b2,Zu0]at w2
 exact⟨w1.ok,w1.good,w2⟩
theorem ZwM(a b c d f x y z u v:Int):eqV [(0,0),(1,0),(2,0),(3,0),(4,0)] 0 (.agg [.int .u64 a,.int .i64 b,.int .i64 c,.int .i64 d,.int .i64 f]) (.agg [.int .u64 x,.int .i64 y,.int .i64 z,.int .i64 u,.int .i64 v])=some (decide (a=x/\b=y/\c=z/\d=u/\f=v)):=by
 show (if decide (a=x)=true then (if decide (b=y)=true then (if decide (c=z)=true then (if decide (d=u)=true then (if decide (f=v)=true then some true else some false) else some false) else some false) else some false) else some false)=_
 by_cases h1:a=x<;>by_cases h2:b=y<;>by_cases h3:c=z<;>by_cases h4:d=u<;>by_cases h5:f=v<;>simp[h1,h2,h3,h4,h5]
theorem ZDx{b:Nat}{N:ZO}(hR:Rd st la (b+5) N){r:Ro}(hr:RtOk N r):S Tb XM [.ptr la (b+5) 0 0 0,r.av] st=some (.int .i64 0,st):=by
 refine QA Y (fun A hA=>?_)
 rcases hr with rfl|⟨h0,x,h1,h2,h3,h4⟩
 ·repeat'(first|refine ZE ?_|refine ZD ?_|refine ZG Y ?_|refine ZQ Y Y Y Y ?_|refine ZB Y ?_|refine ZC ?_|refine ZU Y ?_|refine ZF Y ?_|refine Zn Y Y Y ?_|refine JM Y Y Y Y ?_|refine Zc Y Y Y ?_|refine ZH ?_|refine ZP ?_|refine ZL ?_|refine ZW ?_)
  all_goals try contradiction
  all_goals refine ZX hA (by simp) Y Y Y Y ?_
  all_goals rfl
 ·have hG:=fun L=>ZL6 (hR.push hA (ro:=false) (L:=L)) h1 h2.len
  have hok:NdOk x.copy:=by
   rcases h2 with q|⟨n,ks,q⟩
   ·left;exact⟨q.h,q.lo,q.hi,q.ks⟩
   ·right;have e:=q.eq;subst e;exact⟨n,ks,q⟩
  have hMe:=fun st=>ZH6 x.copy hok st
  have hm:x.copy.mea=x.mea:=rfl;have hh:x.copy.h=x.h:=rfl;rw[hm,h4]at hMe
  have h0i:((r.at_:Nat):Int)≠0:=by omega
  have hne:¬ ((r.at_:Int)=0/\(r.h:Int)=0/\r.m.b=0/\r.m.r=0/\r.m.l=0):=fun q=>h0i q.1
  obtain⟨ra,rh,rm⟩:=r
  simp only at h0 h1 h3 h4 hMe h0i hne
  have hcp:x.copy.av=.agg [.int .i64 x.h,.str x.text,.lit (x.ks.map Kid.av)]:=rfl;rw[hcp]at hG hMe
  generalize x.ks=yk at *
  obtain rfl:x.h=rh:=h3
  unfold Ro.av Mea.av at *
  simp only at *
  repeat'(first|refine ZE ?_|refine ZD ?_|refine ZG Y ?_|refine ZI Y Y ?_|refine ZQ Y Y Y Y ?_|refine Z9 Y ?_|refine Zi Y Y Y Y ?_|refine Zp Y Y ?_|refine ZB Y ?_|refine ZC ?_|(refine cm0 Y Y Y ?_ ?_<;>intro _<;>try omega)|refine ZU Y ?_|refine ZF Y ?_|refine Zn Y Y Y ?_|refine JM Y Y Y Y ?_|refine Zc Y Y Y ?_|refine Zy Y Y Y Y Y Y ?_|refine ZA Y Y Y (hG _) ?_|refine ZA Y Y Y (hMe _) ?_|(refine ZEO Y Y (ZrA _ _ _ _ _ _) (fun _=>?_) (fun _=>?_))|(refine ZEO Y Y (ZwM _ _ _ _ _ _ _ _ _ _) (fun _=>?_) (fun _=>?_))|refine ZH ?_|refine ZP ?_|refine ZL ?_|refine ZW ?_)
  all_goals try first|contradiction|omega
  all_goals first|exact absurd ‹_› hne|(refine ZX hA (by simp) Y Y Y Y ?_;rfl)|exact absurd (And.intro rfl (And.intro rfl Y)) ‹_›
theorem ZpQ:ZNQ ZDC Mea.b:=fun m st=>by
 refine QA Y (fun A hA=>?_)
 unfold Mea.av
 repeat'(first|refine ZE ?_|refine ZD ?_|refine ZG Y ?_|refine ZI Y Y ?_|refine ZQ Y Y Y Y ?_|refine ZB Y ?_|refine ZC ?_|refine Zc Y Y Y ?_|refine ZP ?_|refine ZL ?_)
 refine ZX hA (by simp) Y Y Y Y ?_
 rfl
theorem ZuS(n:Nat)(ks:List Kid)(hx:NdOk ⟨n+1,[],some ks⟩)(a:Int)(h0:0<=a)(h1:a<(Z7 (ks.map Kid.m)).b)(hb:a<=1000000)(st:St):
 S Tb ZAT [Nd.av ⟨n+1,[],some ks⟩,.int .i64 a] st=some (.tup [.int .i64 (QU Mea.b ks a).1,.int .i64 (QU Mea.b ks a).2,.int .i64 0],st):=by
 refine QA Y (fun A hA=>?_)
 have hC:=fun st=>ZlJ ZpQ comp_b n ks hx a h0 h1 hb st
 unfold Nd.av at *
 simp only[slV]at *
 repeat'(first|refine ZE ?_|refine ZD ?_|refine ZG Y ?_|refine ZQ Y Y Y Y ?_|refine Zp Y Y ?_|refine ZB Y ?_|refine ZC ?_|refine Zc Y Y Y ?_|refine ZA Y Y Y (hC _) ?_|refine ZP ?_|refine ZL ?_)
 refine ZX hA (by simp) Y Y Y Y ?_
 rfl
structure Pass(σ:Int->St)(q:Mea->Int)(g:FuncId)(caps:LV)(N:Nat):Prop where
 comp:Comp q
 len:∀s,(σ s).ps.length=N
 call:∀s m L,0<=s->s<=1000000000->m.Fit 65536->∃v,S Tb g ([Mea.av m]++caps) ⟨(σ s).ps,false,L⟩=some (v,⟨(σ (s+q m)).ps,false,L⟩)
 wk:∀m,ZZ (Zm ([]++[Mea.av m]++caps))=some ([Mea.av m]++caps)
theorem ZuT{keep:List Nat}{is:List QAbs.PI}{b:Opd}{ks:List Kid}(hx:Zg e x=some (.lit (ks.map Kid.av)))(hb:Zg e b=some (.int .i64 i))(hi:i<=ks.length)
 (h:Is O is keep k Q ((d,.lit ((ks.take i).map Kid.av))::e) st):Is O (⟨some d,none,false,.slc 4 x none (some b)⟩::is) keep k Q e st:=by
 refine ZC1 hx hb ⟨by omega,by simp;omega⟩ (Zge _) ?_
 rw[show ((i:Nat):Int).toNat=i by omega,<- List.map_take]
 exact h
theorem ZpR{σ:Int->St}{q:Mea->Int}{N:Nat}(hp:Pass σ q g caps N){ks:List Kid}{L:List Blk}{v0 v3 v10 v12 v14 v16 v17:AV}(s0:Int){A0:List (Bool × List Blk)}(hA0:A0=(σ s0).ps)
 (hQ:∀G,Rk (S Tb) k Q .norm [(0,v0),(3,v3),(4,.func (.func g) [] caps),(10,v10),(12,v12),(14,v14),(16,v16),(17,v17),(63,.lit (ks.map Kid.av)),(64,.int .i64 ks.length),(65,.int .i64 ks.length),(66,.bool false)] ⟨(σ (s0+q (Z7 (ks.map Kid.m)))).ps,false,L++G⟩) (hl:ks.length<100) (hs0:0<=s0/\s0<=900000000) (hfit:∀k∈ks,k.m.Fit 65536) :
 Ru (S Tb) p_seek_walk_18.loop (.blk 2::k) Q [(0,v0),(3,v3),(4,.func (.func g) [] caps),(10,v10),(12,v12),(14,v14),(16,v16),(17,v17),(63,.lit (ks.map Kid.av)),(64,.int .i64 ks.length),(65,.int .i64 0)] ⟨A0,false,L⟩:=by
 subst hA0
 refine Z2 (α:=Nat × List Blk) (fun p=>[(0,v0),(3,v3),(4,.func (.func g) [] caps),(10,v10),(12,v12),(14,v14),(16,v16),(17,v17),(63,.lit (ks.map Kid.av)),(64,.int .i64 ks.length),(65,.int .i64 p.1)])
  (fun p=>⟨(σ (s0+Qw q ks p.1)).ps,false,L++p.2⟩) (fun p=>p.1<=ks.length) (fun p=>ks.length-p.1) (0,[]) rfl (by simp[Qw,Z7,hp.comp.zero]) (Nat.zero_le _) ?_
 rintro⟨i,G⟩ hi
 simp only at hi ⊢
 rcases Nat.lt_or_ge i ks.length with hlt|hge
 ·obtain⟨kd,hk⟩:∃k,ks[i]?=some k:=⟨ks[i]'hlt,jE _⟩
  have qk:0<=((i:Nat):Int)/\ks[((i:Nat):Int).toNat]?=some kd:=⟨by omega,by rw[show ((i:Nat):Int).toNat=i by omega];exact hk⟩
  have hsu:=ZK4 hp.comp hk
  have hsf:=hp.comp.fit _ _ (ZDo (l:=(ks.take i).map Kid.m) (fun m hm=>by obtain⟨z,hz,rfl⟩:=List.mem_map.1 hm;exact hfit z (List.mem_of_mem_take hz)))
  rw[List.length_map,List.length_take,Nat.min_eq_left hi]at hsf
  change 0<=Qw q ks i/\Qw q ks i<=_ at hsf
  obtain⟨v,hc⟩:=hp.call (s0+Qw q ks i) kd.m (L++G++[.arr 4 0 [kd.av]]) (by omega) (by omega) (hfit kd (jM hk))
  have hwk:=hp.wk kd.m
  have hG:L++G++[.arr 4 0 [kd.av]]=L++(G++[.arr 4 0 [kd.av]]):=List.append_assoc ..
  rw[show s0+Qw q ks i+q kd.m=s0+Qw q ks (i+1) by omega]at hc
  generalize hG3:L++(G++[.arr 4 0 [kd.av]])=L3 at *
  generalize hA1:(σ (s0+Qw q ks i)).ps=A1 at *
  obtain⟨ka,km⟩:=kd
  unfold Kid.av Mea.av at *
  simp only at *
  repeat'(first|refine Jw (f:=Kid.av) Y Y qk (fun _=>rfl) ?_|refine ZA Y Y hwk hc ?_|refine ZE ?_|refine ZD ?_|refine ZG Y ?_|refine ZI Y Y ?_|refine ZB Y ?_|refine ZC ?_|refine Ql Y Y Y ?_|refine Qt Y Y ?_|(refine cm0 Y Y Y ?_ ?_<;>intro _<;>try omega)|refine ZU Y ?_|refine Zr Y Y (by omega) ?_|refine Zw Y Y Y ?_|refine Q1 Y Y Y Y Y Y ?_|refine ZH ?_|refine ZS ?_|refine Z5 ?_|refine QJ ?_)
  all_goals try first|contradiction|omega
  refine⟨(i+1,G++[.arr 4 0 [Kid.av ⟨ka,km⟩]]),⟨rfl,?_⟩,by simp only;omega,by simp only;omega⟩
  simp only
  rw[<- hG3]at hG;exact congrArg (St.mk _ false) hG
 ·obtain rfl:i=ks.length:=by omega
  repeat'(first|refine ZE ?_|refine ZD ?_|refine ZB Y ?_|refine ZC ?_|(refine cm0 Y Y Y ?_ ?_<;>intro _<;>try omega)|refine ZF Y ?_|refine Zz ?_|refine Zk ?_|refine Zh Y ?_|refine Zx ?_)
  all_goals try omega
  unfold Qw;rw[List.take_length];exact hQ G
theorem ZpS{keep:List Nat}{is:List QAbs.PI}{α:Type}{f:α->AV}{l:List α}{i:Opd}{bs:List Opd}{n:Int}{a:α}(hx:Zg e x=some (.lit (l.map f)))(hi:Zg e i=some (.int .i64 n))(ha:0<=n/\l[n.toNat]?=some a)(hw:(f a).wide=some w)
 (h:Is O is keep k Q ((d,.lptr (f a) 0)::e) st):Is O (⟨some d,none,false,.w (.hide bs) (.ixS w x i)⟩::is) keep k Q e st:=by
 have hlt:=(List.getElem?_eq_some_iff.1 ha.2).1
 have hn:0<=n/\n<((l.map f).length:Nat):=by rw[List.length_map];omega
 have hv:(l.map f)[n.toNat]?=some (f a):=by rw[jG,ha.2];rfl
 exact Zkn (st':=st) (by simp only[QF,PO.reads,if_true,evalPO,ZJ hx,ZJ hi,ixSV,Xl,if_pos hn,hv,if_pos hw,oS,Qv,Qd]) h
theorem Zmu{keep:List Nat}{is:List QAbs.PI}{a:Opd}{bs:List Opd}{x:AV}{agg:Bool}(ha:Zg e a=some (.lptr x o))(hv:Jk x agg o n=some v)(h:Is O is keep k Q ((d,v)::e) st):Is O (⟨some d,none,false,.w (.hide bs) (.ld agg n a)⟩::is) keep k Q e st :=
 Zkn (st':=st) (by simp only[QF,PO.reads,if_true,evalPO,ZJ ha,loadP,hv,oS,Qv,Qd]) h
def Zmv(M:Nat)(G:List Blk)(pv:AV)(path:List Nat):Prop:=(path=[]/\pv=.nils)\/∃j ver,pv=.ref M (j+3) ver 0 path.length/\G[j]?=some (.arr 1 ver (path.map Qj))
theorem ZpT{b0 b1 box:Blk}{pv v0 v3 v4 v10 v14 v15 v31:AV}{path:List Nat}{G:List Blk}(hP:Zmv A.length G pv path)(hl:path.length<100)
 (h:∀G' pv',Zmv A.length G' pv' (path++[o])->G'[G.length]?=some box->Rk (S Tb) k Q .norm [(0,v0),(3,v3),(4,v4),(10,v10),(12,.ptr A.length 2 0 0 0),(14,v14)] ⟨A,false,b0::b1::.arr 3 0 [.agg [.str s,.int .i64 z,pv']]::G'⟩) :
 Ru (S Tb) ZLt k Q [(0,v0),(3,v3),(4,v4),(10,v10),(12,.ptr A.length 2 0 0 0),(13,.int .u64 o),(14,v14),(15,v15),(31,v31)] ⟨A,false,b0::b1::.arr 3 0 [.agg [.str s,.int .i64 z,pv]]::(G++[box])⟩:=by
 rcases hP with⟨rfl,rfl⟩|⟨j,ver,rfl,hg⟩
 ·repeat'(first|refine ZD ?_|refine ZG Y ?_|refine ZI Y Y ?_|refine ZQ Y Y Y Y ?_|refine Q2 Y Y Y Y ?_)
  refine ZDu (vx:=.lit [.int .u64 o]) (ys:=[.int .u64 o]) (bytes:=8) Y Y Y (by simp) (by decide) Y ?_
  repeat'(first|refine ZI Y Y ?_|refine ZB Y ?_|refine Qs Y Y Y Y (Qu _ (Nat.lt_succ_self _)) Y ?_)
  refine h (G++[box]++[.arr 1 0 [.int .u64 o]]) _ (.inr ⟨(G++[box]).length,0,?_,List.getElem?_concat_length ..⟩) ?_
  ·rfl
  ·rw[jL (by simp)];exact List.getElem?_concat_length ..
 ·have hj:=(List.getElem?_eq_some_iff.1 hg).1
  have hg2:(b0::b1::Blk.arr 3 0 [.agg [.str s,.int .i64 z,.ref A.length (j+3) ver 0 path.length]]::(G++[box]))[j+3]?=some (.arr 1 ver (path.map Qj)):=by
   show (G++[box])[j]?=_
   rw[jL hj];exact hg
  repeat'(first|refine ZD ?_|refine ZG Y ?_|refine ZI Y Y ?_|refine ZQ Y Y Y Y ?_|refine Q2 Y Y Y Y ?_)
  refine ZQD (es:=path.map Qj) (ys:=[.int .u64 o]) Y Y hg2 (by rw[List.length_map]) rfl rfl (by simp;omega) (by decide) ?_
  repeat'(first|refine ZI Y Y ?_|refine ZB Y ?_|refine Qs Y Y Y Y (Qu _ (Nat.lt_succ_self _)) Y ?_)
  refine h ((G++[box]).set j (.arr 1 (ver+1) (path.map Qj++[.int .u64 o]))) (.ref A.length (j+3) (ver+1) 0 (path.length+1)) (.inr ⟨j,ver+1,by simp,?_⟩) ?_
  ·rw[List.getElem?_set_self (by simp;omega),List.map_append];rfl
  ·rw[jS (by omega)];exact List.getElem?_concat_length ..
theorem Zrp{b lv q:Nat}(st:St)(hl:lv<b):ZY QO b st (.agg [.str s,.int .i64 z,.ref lv ix ver q n])=some (.agg [.str s,.int .i64 z,.ref lv ix ver q n],st):=by
 show (mapSt (keepN (ZY 5 b)) _ _).bind ZE1=_
 simp only[mapSt,keepN,Y5,jB,if_false,ZY,oS,if_pos hl,Yd,ZE1]
theorem ZuU{L:List Blk}{z2:Int}(hg:L[ix]?=some (.arr 1 ver (l.map Qj)))(hn:n=l.length):
 ZY QO A.length ⟨A,false,L⟩ (.tup [.agg [.str s,.int .i64 z,.ref A.length ix ver 0 n],.int .i64 z2])=some (.tup [.agg [.str s,.int .i64 z,.lit (l.map Qj)],.int .i64 z2],⟨A,false,L.set ix .dead⟩):=by
 subst hn
 have h1:=ZFF (n:=3) (A:=A) (s:=0) (m:=l.length) hg (by simp) (es':=l.map Qj) (by
  rw[List.drop_zero,List.take_of_length_le (by simp)]
  exact ZK1 (k:=.u64) (fun n:Nat=>(n:Int)) 2 0 _ l)
 show (mapSt (ZY 5 A.length) _ _).bind Zcy=_
 have h2:ZY 5 A.length ⟨A,false,L⟩ (.agg [.str s,.int .i64 z,.ref A.length ix ver 0 l.length])=some (.agg [.str s,.int .i64 z,.lit (l.map Qj)],⟨A,false,L.set ix .dead⟩):=by
  show (mapSt (keepN (ZY 4 A.length)) _ _).bind ZE1=_
  simp only[mapSt,keepN,Y5,jB,if_false,oS];simp only[ZY,oS]at h1 ⊢;simp only[h1,oS,Yd,ZE1]
 simp only[mapSt,h2,oS];rfl
theorem Zvc{L:List Blk}{x:Ex}{z2:Int}(hA:A=st.A++[(st.ro,st.L)])(hx:x=.norm\/x=.ret)(h4:Jx e c4=some (.ptr A.length j4 v4 0 0))(hg4:L[j4]?=some (.arr w4 v4 [.agg [.str s,.int .i64 z,.ref A.length ix ver 0 n]]))
 (hg:L[ix]?=some (.arr 1 ver (l.map Qj))) (hn:n=l.length) (h5:Jx e c5=some (.int .i64 z2)):Jm false [.c c4 true 3,.s c5] (x,e,⟨A,false,L⟩)=some (.tup [.agg [.str s,.int .i64 z,.lit (l.map Qj)],.int .i64 z2],st):=by
 refine ZC2 (v:=.tup [.agg [.str s,.int .i64 z,.ref A.length ix ver 0 n],.int .i64 z2]) hA hx ?_ (ZuU hg hn) Y
 have h1:ZAo ⟨A,false,L⟩ e (.c c4 true 3)=some (.agg [.str s,.int .i64 z,.ref A.length ix ver 0 n]):=by
  simp only[ZAo,QQ h4,loadP,St.get_cur,hg4,vis,ZE4,if_true,List.getElem?_cons_zero,oS];rfl
 simp only[Qk,ZDz,h1,oS];simp only[ZAo,QQ h5,oS,Option.map_some,ZE5]
end Go.Q15
namespace Go.QAbs
variable {v:AV}{ro:Bool}{e:Env}{f g:FuncId}{a z:Int}{Q:Jh}{A:List (Bool × List Blk)}{args caps cls es:LV}{k:List Fr}{l:List Nat}{s:B8}{c4 c5 d i ip ix j j4 la mb mx n o ob ox rx tx v4 ver w w4 wb:Nat}{x:Opd}{O:Orc}{st:St}
section
variable {O:Orc}{k:List Fr}{Q:Jh}{e:Env}{A:List (Bool × List Blk)}{L:List Blk}{keep:List Nat}{is:List PI}{d:Nat}{st:St}
theorem Zrq{a b:Opd}{lv v1 i1 o1 v2 i2 o2:Nat}{vx:AV}(ha:Zg e a=some (.ptr lv ix v1 i1 o1))(hb:Zg e b=some (.ptr lv ix v2 i2 o2))(hx:Zg e x=some vx)(hi:imm 6 vx=true)
 (h:Is O (⟨none,none,false,.st n a x⟩::is) keep k Q e st):Is O (⟨none,none,false,.w (.plain b) (.st n a x)⟩::is) keep k Q e st:=by
 refine Zn0 ?_ h
 have hs:ZGJ (.ptr lv ix v1 i1 o1) (.ptr lv ix v2 i2 o2)=true:=by simp[ZGJ]
 simp only[Zl,QF,ZMC,ZJ ha,ZJ hb,ZJ hx,hs,hi,and_self,if_true]
end
end Go.QAbs
namespace Go.Q15
open Go Go.QAbs
variable {r':AR}{v:AV}{ro:Bool}{e:Env}{f g:FuncId}{a z:Int}{Q:Jh}{A:List (Bool × List Blk)}{args caps cls es:LV}{k:List Fr}{l:List Nat}{s:B8}{c4 c5 d i ip ix j j4 la mb mx n o ob ox rx tx v4 ver w w4 wb:Nat}{x:Opd}{O:Orc}{st:St}{t:Tr}
structure NextOk(f:FuncId)(ch:List Kid->Int->Nat × Int)(D:Mea->Int->Prop):Prop where
 call:∀n ks,NdOk ⟨n+1,[],some ks⟩->∀a,D (Z7 (ks.map Kid.m)) a->∀st,S Tb f [Nd.av ⟨n+1,[],some ks⟩,.int .i64 a] st=some (.tup [.int .i64 (ch ks a).1,.int .i64 (ch ks a).2,.int .i64 0],st)
 ok:∀ks a,(∀k∈ks,k.m.Fit 65536)->D (Z7 (ks.map Kid.m)) a->(ch ks a).1<ks.length/\∀k,ks[(ch ks a).1]?=some k->D k.m (ch ks a).2
theorem ZlK:NextOk ZAT (QU Mea.b) (fun m a=>0<=a/\a<m.b/\m.b<=1000000) where
 call n ks hx a ha st:=ZuS n ks hx a ha.1 ha.2.1 (by omega) st
 ok ks a hf ha:=by
  obtain⟨h1,h2,h3,h4⟩:=ZGE comp_b ks a hf ha.1 ha.2.1
  exact⟨h1,fun k hk=>⟨h3,h4 k hk,by have:=(hf k (jM hk)).2;omega⟩⟩
def JS(ch:List Kid->Int->Nat × Int)(q:Mea->Int)(N:ZO):Nat->Nat->Int->(B8 × Int) × List Nat × Int
 | 0,o,a=>(((QP N o).text,a),[o],0)
 | n+1,o,a =>
  let c:=ch (QP N o).ks a
  let r:=JS ch q N n (((QP N o).ks[c.1]?.map Kid.at_).getD 0) c.2
  (r.1,o::r.2.1,Qw q (QP N o).ks c.1+r.2.2)
structure WkS where
 n:Nat
 o:Nat
 a:Int
 s:Int
 path:List Nat
 pv:AV
 G:List Blk
structure WkInv(N:ZO)(D:Mea->Int->Prop)(M:Nat)(p:WkS)(ch:List Kid->Int->Nat × Int)(q:Mea->Int)(s0:Int)(R:(B8 × Int) × List Nat × Int):Prop where
 nd:∃x,lk N p.o=some x/\NdOk x/\x.h=p.n/\D x.mea p.a
 path:Zmv M p.G p.pv p.path
 len:p.path.length+p.n<100
 sb:0<=p.s/\p.s<=1000+300000*p.path.length
 res:R=((JS ch q N p.n p.o p.a).1,p.path++(JS ch q N p.n p.o p.a).2.1,p.s-s0+(JS ch q N p.n p.o p.a).2.2)
theorem Zcc{σ:Int->St}{q:Mea->Int}{M:Nat}(hp:Pass σ q g caps M){ch:List Kid->Int->Nat × Int}{D:Mea->Int->Prop}(hf:NextOk f ch D){N:ZO}(hN:GoodN N){b:Nat}(hR:∀s,Rd (σ s) la (b+5) N){r:Ro}(hr:RtOk N r)(h0:r.at_≠0)(a:Int)(ha:D r.m a)(s0:Int)(hs0:0<=s0/\s0<=1000):
 S Tb ZBX [.ptr la (b+5) 0 0 0,r.av,.int .i64 a,.func (.func f) [] [],.func (.func g) [] caps] (σ s0)=some (.tup [.agg [.str (JS ch q N r.h r.at_ a).1.1,.int .i64 (JS ch q N r.h r.at_ a).1.2,.lit ((JS ch q N r.h r.at_ a).2.1.map Qj)],.int .i64 0],σ (s0+(JS ch q N r.h r.at_ a).2.2)):=by
 refine Jz Y (fun A hA=>?_)
 obtain⟨x0,x1,x2,x3,x4⟩:∃x,lk N r.at_=some x/\NdOk x/\x.h=r.h/\x.mea=r.m:=by
  rcases hr with rfl|w
  ·exact absurd Y h0
  ·exact w.2
 have h13:=hr.h13 hN;have hM:=hp.len s0;obtain⟨R,hRes⟩:∃R,R=JS ch q N r.h r.at_ a:=⟨_,rfl⟩;rw[<- hRes];have hA':A=(σ s0).ps:=hA
 have hAM:A.length=M:=by rw[hA'];exact hM
 unfold Ro.av
 repeat'(first|refine Zw Y Y Y ?_|refine ZE ?_|refine ZD ?_|refine ZG Y ?_|refine ZI Y Y ?_|refine ZQ Y Y Y Y ?_|refine ZB Y ?_|refine ZC ?_|refine Zn Y Y Y ?_|refine Q1 Y Y Y Y Y Y ?_|refine ZS ?_)
 rw[hAM,hA']
 refine Z2 (α:=WkS) (fun p=>[(0,.ptr la (b+5) 0 0 0),(3,.func (.func f) [] []),(4,.func (.func g) [] caps),(10,.ptr M 1 0 0 0),(12,.ptr M 2 0 0 0),(13,.int .u64 p.o)])
  (fun p=>⟨(σ p.s).ps,false,.arr 5 0 [r.av]::.arr 3 0 [.agg [.str [],.int .i64 0,.nils]]::.arr 3 0 [.agg [.str [],.int .i64 p.a,p.pv]]::p.G⟩)
  (fun p=>WkInv N D M p ch q s0 R) (fun p=>p.n) ⟨r.h,r.at_,a,s0,[],.nils,[]⟩ rfl rfl ⟨⟨x0,x1,x2,x3,by rw[x4];exact ha⟩,.inl ⟨rfl,rfl⟩,by simp only[List.length_nil];omega,by simp only[List.length_nil];omega,by rw[hRes];simp⟩ ?_
 rintro⟨n,o,a,s,path,pv,G⟩ hI
 obtain⟨⟨x,y1,y2,y3,y4⟩,hPa,hln,hsb,hres⟩:=hI
 simp only at y1 y3 y4 hPa hln hsb hres ⊢
 have hG:=fun L=>ZL6 ((hR s).push rfl (ro:=false) (L:=L)) y1 y2.len
 have hcp:x.copy.av=.agg [.int .i64 x.h,.str x.text,.lit (x.ks.map Kid.av)]:=rfl;rw[hcp,y3]at hG;have hlA:=hp.len s;obtain⟨A1,hA1⟩:∃A1,A1=(σ s).ps:=⟨_,rfl⟩
 have e1:M=A1.length:=by rw[hA1];exact hlA.symm
 have hpl:=fun s'=>hp.len s'
 simp only[show (σ s).A++[((σ s).ro,(σ s).L)]=(σ s).ps from rfl,<- hA1]at hG
 rw[<- hA1];clear hlA;subst e1
 have hpath:=fun (v0 v3 v4 v10 v14 v15 v31:AV) (box b0 b1:Blk) (k:List Fr) (Q:Jh)=>ZpT (A:=A1) (b0:=b0) (b1:=b1) (box:=box) (s:=[]) (z:=a) (v0:=v0) (v3:=v3) (v4:=v4) (v10:=v10) (v14:=v14) (v15:=v15) (v31:=v31) (o:=o) (k:=k) (Q:=Q) hPa (by omega)
 have hnd:=Q5 y1
 cases n with
 | zero =>
  repeat'(first|refine hpath _ _ _ _ _ _ _ _ _ _ _ _ (fun G' pv' hP' hb=>?_)|refine ZE ?_|refine ZD ?_|refine ZG Y ?_|refine ZI Y Y ?_|refine Zp Y Y ?_|refine ZB Y ?_|refine ZC ?_|(refine cm0 Y Y Y ?_ ?_<;>intro _<;>try omega)|refine ZF Y ?_|refine Zw Y Y Y ?_|refine Q1 Y Y Y Y Y Y ?_|refine ZA Y Y Y (hG _) ?_|refine ZH ?_|refine ZS ?_)
  all_goals try contradiction
  rcases hP' with⟨w,_⟩|⟨j,ver,rfl,hg⟩
  ·exact absurd w (by simp)
  have hg3:∀b0 b1 b2:Blk,(b0::b1::b2::G')[j+3]?=some (.arr 1 ver ((path++[o]).map Qj)):=fun _ _ _=>hg
  repeat'(first|refine ZQ Y hb Y Y ?_|refine Qs Y Y Y Y (Zrp _ (Nat.lt_succ_self _)) Y ?_|refine ZE ?_|refine ZD ?_|refine ZG Y ?_|refine ZI Y Y ?_|refine ZQ Y Y Y Y ?_|refine ZB Y ?_|refine ZC ?_|(refine cm0 Y Y Y ?_ ?_<;>intro _<;>try omega)|refine ZU Y ?_|refine Qs Y Y Y Y Y Y ?_|refine ZP ?_|refine ZL ?_|refine ZW ?_|refine QS ?_|refine ZC0 ?_)
  all_goals try contradiction
  refine (Zvc (st:=σ s) hA1 (.inr Y) Y Y (hg3 _ _ _) Y Y).trans ?_;rw[hres];simp only[JS,hnd,Int.add_zero]
  rw[show s0+(s-s0)=s by omega]
 | succ n =>
  obtain⟨ks,hi⟩:∃ks,InnerOk x n ks:=by
   rcases y2 with w|⟨m,ks,w⟩
   ·have:=w.h;omega
   ·have e:=w.eq
    have:m=n:=by rw[e]at y3;simpa using y3
    exact⟨ks,this▸w⟩
  have e:=hi.eq;have hkids:=(hN o x y1).2
  have hfit:∀k∈ks,k.m.Fit 65536:=fun k hk=>(hi.kid k hk).fit
  subst e;have hks:Nd.ks ⟨n+1,[],some ks⟩=ks:=rfl;rw[hks]at hG;have hD:D (Z7 (ks.map Kid.m)) a:=y4
  have hCl:=fun st=>hf.call n ks y2 a hD st
  obtain⟨c1,c2⟩:=hf.ok ks a hfit hD;obtain⟨k,hk⟩:∃k,ks[(ch ks a).1]?=some k:=⟨_,jE c1⟩;have c3:=c2 k hk
  have hseek:JS ch q N (n+1) o a=((JS ch q N n k.at_ (ch ks a).2).1,o::(JS ch q N n k.at_ (ch ks a).2).2.1,Qw q ks (ch ks a).1+(JS ch q N n k.at_ (ch ks a).2).2.2):=by
   rw[JS,hnd];simp only[hks,hk,Option.map_some,Option.getD_some]
  have hi2:=hi.hi
  have qk:0<=(((ch ks a).1:Nat):Int)/\ks[(((ch ks a).1:Nat):Int).toNat]?=some k:=⟨by omega,by rw[show (((ch ks a).1:Nat):Int).toNat=(ch ks a).1 by omega];exact hk⟩
  have hsf:=hp.comp.fit _ _ (ZDo (l:=(ks.take (ch ks a).1).map Kid.m) (fun m hm=>by obtain⟨z,hz,rfl⟩:=List.mem_map.1 hm;exact hfit z (List.mem_of_mem_take hz)))
  rw[List.length_map,List.length_take,Nat.min_eq_left (Nat.le_of_lt c1)]at hsf
  change 0<=Qw q ks (ch ks a).1/\Qw q ks (ch ks a).1<=_ at hsf
  have hsumK:q (Z7 ((ks.take (ch ks a).1).map Kid.m))=Qw q ks (ch ks a).1:=rfl
  generalize (ch ks a).1=ci at *
  generalize (ch ks a).2=cr at *
  unfold Nd.av at hCl;simp only[slV]at hCl
  have hlt:(ks.take ci).length=ci:=by simp;omega
  repeat'(first|refine hpath _ _ _ _ _ _ _ _ _ _ _ _ (fun G' pv' hP' hb=>?_)|refine ZE ?_|refine ZD ?_|refine ZG Y ?_|refine ZI Y Y ?_|refine Zp Y Y ?_|refine ZB Y ?_|refine ZC ?_|(refine cm0 Y Y Y ?_ ?_<;>intro _<;>try omega)|refine ZF Y ?_|refine Zw Y Y Y ?_|refine Q1 Y Y Y Y Y Y ?_|refine ZA Y Y Y (hG _) ?_|refine ZH ?_|refine ZS ?_)
  all_goals try contradiction
  repeat'(first|refine ZQ Y hb Y Y ?_|refine ZuT Y Y (Nat.le_of_lt c1) ?_|refine ZEd Y ?_|refine ZE ?_|refine ZD ?_|refine ZG Y ?_|refine ZI Y Y ?_|refine ZQ Y Y Y Y ?_|refine Zp Y Y ?_|refine ZB Y ?_|refine ZC ?_|(refine cm0 Y Y Y ?_ ?_<;>intro _<;>try omega)|refine ZF Y ?_|refine ZA Y Y Y (hCl _) ?_|refine ZH ?_|refine ZS ?_)
  all_goals try first|contradiction|omega
  refine ZpR hp s hA1 (fun G2=>?_) (by omega) (by omega) (fun z hz=>hfit z (List.mem_of_mem_take hz))
  rw[hsumK];obtain⟨A2,hA2⟩:∃A2,A2=(σ (s+Qw q ks ci)).ps:=⟨_,rfl⟩
  have e2:A1.length=A2.length:=by rw[hA2];exact (hpl _).symm
  rw[<- hA2,e2];rw[e2]at hP';have hb2:=hb.symm▸jL (m:=G2) (List.getElem?_eq_some_iff.1 hb).1
  have hb3:∀b0 b1 b2:Blk,(b0::b1::b2::G'++G2)[G.length+1+1+1]?=_:=fun _ _ _=>hb2
  rcases hP' with⟨w,_⟩|⟨j,ver,rfl,hg⟩
  ·exact absurd w (by simp)
  repeat'(first|refine ZF8 Y Y Y (hb3 _ _ _) Y Y ?_|refine ZpS (f:=Kid.av) Y Y qk Y ?_|refine Zmu Y Y ?_|refine Zrq Y Y Y Y ?_|refine Qs Y Y Y Y Y Y ?_|refine ZD ?_|refine ZG Y ?_|refine ZI Y Y ?_|refine ZB Y ?_|refine ZC ?_|refine Z5 ?_|refine QJ ?_)
  all_goals try contradiction
  obtain⟨_,y,z1,z2,z3⟩:=hkids k (jM hk);rw[hA2]
  refine⟨⟨n,k.at_,cr,s+Qw q ks ci,path++[o],.ref (σ (s+Qw q ks ci)).ps.length (j+3) ver 0 (path++[o]).length,G'++G2⟩,⟨rfl,rfl⟩,⟨⟨y,z1,(hN _ y z1).1,by simp only at z2 ⊢;omega,by rw[z3];exact c3⟩,.inr ⟨j,ver,rfl,?_⟩,by simp only[lL,List.length_singleton];omega,by simp only[lL,List.length_singleton];omega,?_⟩,Nat.lt_succ_self _⟩
  ·show (G'++G2)[j]?=_
   rw[jL (List.getElem?_eq_some_iff.1 hg).1];exact hg
  ·rw[hres,hseek]
   simp only[List.append_assoc,List.singleton_append]
   congr 2
   omega
theorem Zcd{N:ZO}:∀ {ks:List Kid},(∀k∈ks,JQ (QT N n k.at_)=k.m)->JQ (ks.flatMap fun k=>QT N n k.at_)=Z7 (ks.map Kid.m):=by
 intro ks
 induction ks with
 | nil=>intro _;rfl
 | cons k l ih =>
  intro h
  rw[List.flatMap_cons,ZEb,h k (by simp),ih (fun z hz=>h z (List.mem_cons_of_mem _ hz)),jC,Z7]
theorem NdOk.ksFit{x:Nd}(h:NdOk x):∀k∈x.ks,k.m.Fit 65536:=by
 rcases h with q|⟨n,ks,q⟩
 ·rw[q.ks];intro k hk;simp at hk
 ·have e:=q.eq;subst e;exact fun k hk=>(q.kid k hk).fit
theorem ZTd{p q:Mea->Int}(hp:Comp p)(hq:Comp q){N:ZO}(hN:GoodN N):∀(n o:Nat) (x:Nd) (a:Int),lk N o=some x->x.h=n->0<=a->a<p x.mea ->
 ∃pre leaf post,QT N n o=pre++leaf++post/\(JS (QU p) q N n o a).1=(leaf,a-p (JQ pre))/\0<=a-p (JQ pre)/\a-p (JQ pre)<p (JQ leaf)/\(JS (QU p) q N n o a).2.2=q (JQ pre):=by
 intro n
 induction n with
 | zero =>
  intro o x a hx hh h0 h1
  have hm:x.mea=JQ x.text:=by unfold Nd.mea;rw[if_pos hh]
  have e:p (JQ [])=0:=by rw[Zkk];exact hp.zero
  have e2:q (JQ [])=0:=by rw[Zkk];exact hq.zero
  refine⟨[],x.text,[],?_,?_,by rw[e];omega,by rw[e,<- hm];omega,by rw[e2];rfl⟩
  ·rw[QT,hx];simp
  ·rw[JS,Q5 hx,e];simp
 | succ n ih =>
  intro o x a hx hh h0 h1;obtain⟨hok,hkids⟩:=hN o x hx
  have hm:x.mea=Z7 (x.ks.map Kid.m):=by unfold Nd.mea;rw[if_neg (by omega)]
  rw[hm]at h1;obtain⟨c1,c2,c3,c4⟩:=ZGE hp x.ks a hok.ksFit h0 h1;obtain⟨k,hk⟩:∃k,x.ks[(QU p x.ks a).1]?=some k:=⟨_,jE c1⟩;have c5:=c4 k hk;obtain⟨_,y,y1,y2,y3⟩:=hkids k (jM hk)
  have hmk:∀k∈x.ks,JQ (QT N n k.at_)=k.m:=fun k hk=>by
   obtain⟨_,y,y1,y2,y3⟩:=hkids k hk
   rw[ZBA hN n k.at_ y y1 (by omega),y3]
  obtain⟨pre,leaf,post,t1,t2,t3,t4,t5⟩:=ih k.at_ y (QU p x.ks a).2 y1 (by omega) c3 (by rw[y3];exact c5)
  have hseek:JS (QU p) q N (n+1) o a=((JS (QU p) q N n k.at_ (QU p x.ks a).2).1,o::(JS (QU p) q N n k.at_ (QU p x.ks a).2).2.1,Qw q x.ks (QU p x.ks a).1+(JS (QU p) q N n k.at_ (QU p x.ks a).2).2.2):=by
   rw[JS,Q5 hx];simp only[hk,Option.map_some,Option.getD_some]
  rw[hseek,c2]at *
  generalize hci:(QU p x.ks a).1=ci at *
  have hsplit:x.ks=x.ks.take ci++k::x.ks.drop (ci+1):=by
   have:=List.take_append_drop ci x.ks
   rw[ZTc hk]at this;exact this.symm
  have hpm:JQ ((x.ks.take ci).flatMap fun k=>QT N n k.at_)=Z7 ((x.ks.take ci).map Kid.m):=Zcd (fun z hz=>hmk z (List.mem_of_mem_take hz))
  have e3:p (JQ ((x.ks.take ci).flatMap (fun k=>QT N n k.at_)++pre))=Qw p x.ks ci+p (JQ pre):=by
   rw[ZEb,hp.add,hpm];rfl
  have e4:q (JQ ((x.ks.take ci).flatMap (fun k=>QT N n k.at_)++pre))=Qw q x.ks ci+q (JQ pre):=by
   rw[ZEb,hq.add,hpm];rfl
  refine⟨(x.ks.take ci).flatMap (fun k=>QT N n k.at_)++pre,leaf,post++(x.ks.drop (ci+1)).flatMap (fun k=>QT N n k.at_),?_,?_,?_,?_,?_⟩
  ·rw[QT,hx]
   simp only[Option.map_some,Option.getD_some];rw[hsplit,List.flatMap_append,List.flatMap_cons,t1]
   have e:((x.ks.take ci++k::x.ks.drop (ci+1)).take ci)=x.ks.take ci:=by rw[<- hsplit]
   have e':((x.ks.take ci++k::x.ks.drop (ci+1)).drop (ci+1))=x.ks.drop (ci+1):=by rw[<- hsplit]
   rw[e,e'];simp only[List.append_assoc]
  ·simp only
   rw[t2,e3]
   congr 1
   omega
  ·rw[e3];omega
  ·rw[e3];omega
  ·simp only
   rw[t5,e4]
structure CLv where
 n:Nat
 o:Nat
 f:Int
 t:Int
deriving DecidableEq
def ZBC(N:ZO)(o:Nat)(b:Int):Nat:=(QU Mea.b (QP N o).ks b).1
def X7(N:ZO)(o:Nat)(b:Int):Int:=Qw Mea.b (QP N o).ks (ZBC N o b)
def Zce(N:ZO)(o:Nat)(b:Int):Nat:=(((QP N o).ks[ZBC N o b]?).map Kid.at_).getD 0
def ZKf(N:ZO)(o:Nat)(b:Int):Int:=(((QP N o).ks[ZBC N o b]?).map fun k=>k.m.b).getD 0
def CLv.down(N:ZO)(l:CLv)(a:Int):CLv:=⟨l.n-1,Zce N l.o (a-l.f),l.f+X7 N l.o (a-l.f),l.f+X7 N l.o (a-l.f)+ZKf N l.o (a-l.f)⟩
def QR(N:ZO)(a:Int):Nat->CLv->List CLv
 | 0,l=>[l]
 | n+1,l=>l::QR N a n (l.down N a)
structure CLvOk(N:ZO)(s:B8)(l:CLv):Prop where
 nd:∃x,lk N l.o=some x/\x.h=l.n/\x.mea.b=l.t-l.f
 tx:∃pre post,s=pre++QT N l.n l.o++post/\(pre.length:Int)=l.f
theorem Zmw(s:B8):(JQ s).b=s.length:=rfl
theorem CLvOk.len{N:ZO}(hN:GoodN N){l:CLv}(h:CLvOk N s l):((QT N l.n l.o).length:Int)=l.t-l.f/\0<=l.f/\l.t<=s.length:=by
 obtain⟨⟨x,h1,h2,h3⟩,pre,post,h4,h5⟩:=h;have h6:=ZBA hN l.n l.o x h1 h2
 have h7:((QT N l.n l.o).length:Int)=l.t-l.f:=by rw[<- Zmw,h6];exact h3
 have h8:=congrArg List.length h4;simp only[lL]at h8
 exact⟨h7,by omega,by omega⟩
theorem CLvOk.down{N:ZO}(hN:GoodN N){l:CLv}(h:CLvOk N s l)(hn:l.n=n+1)(h0:l.f<=a)(h1:a<l.t):
 CLvOk N s (l.down N a)/\(l.down N a).f<=a/\a<(l.down N a).t/\l.f<=(l.down N a).f/\(l.down N a).t<=l.t/\∃k,(QP N l.o).ks[ZBC N l.o (a-l.f)]?=some k/\Zce N l.o (a-l.f)=k.at_/\ZKf N l.o (a-l.f)=k.m.b:=by
 obtain⟨⟨x,x1,x2,x3⟩,pre,post,x4,x5⟩:=h;obtain⟨hok,hkids⟩:=hN l.o x x1
 have hm:x.mea=Z7 (x.ks.map Kid.m):=by unfold Nd.mea;rw[if_neg (by omega)]
 have hnd:=Q5 x1;rw[hm]at x3
 obtain⟨c1,c2,c3,c4⟩:=ZGE comp_b x.ks (a-l.f) hok.ksFit (by omega) (by omega)
 obtain⟨k,hk⟩:∃k,x.ks[(QU Mea.b x.ks (a-l.f)).1]?=some k:=⟨_,jE c1⟩;have c5:=c4 k hk;obtain⟨_,y,y1,y2,y3⟩:=hkids k (jM hk)
 have eI:ZBC N l.o (a-l.f)=(QU Mea.b x.ks (a-l.f)).1:=by unfold ZBC;rw[hnd]
 have eO:Zce N l.o (a-l.f)=k.at_:=by unfold Zce;rw[eI,hnd,hk];rfl
 have eB:ZKf N l.o (a-l.f)=k.m.b:=by unfold ZKf;rw[eI,hnd,hk];rfl
 have eF:X7 N l.o (a-l.f)=Qw Mea.b x.ks (QU Mea.b x.ks (a-l.f)).1:=by unfold X7;rw[eI,hnd]
 generalize hci:(QU Mea.b x.ks (a-l.f)).1=ci at *
 have hsplit:x.ks=x.ks.take ci++k::x.ks.drop (ci+1):=by
  have:=List.take_append_drop ci x.ks
  rw[ZTc hk]at this;exact this.symm
 have hmk:∀k∈x.ks,JQ (QT N n k.at_)=k.m:=fun k hk=>by
  obtain⟨_,y,y1,y2,y3⟩:=hkids k hk
  rw[ZBA hN n k.at_ y y1 (by omega),y3]
 have hpm:JQ ((x.ks.take ci).flatMap fun k=>QT N n k.at_)=Z7 ((x.ks.take ci).map Kid.m):=Zcd (fun z hz=>hmk z (List.mem_of_mem_take hz))
 have hpl:(((x.ks.take ci).flatMap fun k=>QT N n k.at_).length:Int)=Qw Mea.b x.ks ci:=by rw[<- Zmw,hpm];rfl
 have hpm2:JQ ((x.ks.drop (ci+1)).flatMap fun k=>QT N n k.at_)=Z7 ((x.ks.drop (ci+1)).map Kid.m):=Zcd (fun z hz=>hmk z (List.mem_of_mem_drop hz))
 have hpl2:(((x.ks.drop (ci+1)).flatMap fun k=>QT N n k.at_).length:Int)=(Z7 ((x.ks.drop (ci+1)).map Kid.m)).b:=by rw[<- Zmw,hpm2]
 have hsum:(Z7 (x.ks.map Kid.m)).b=Qw Mea.b x.ks ci+k.m.b+(Z7 ((x.ks.drop (ci+1)).map Kid.m)).b:=by
  have e1:=congrArg (fun l=>(Z7 (l.map Kid.m)).b) hsplit
  simp only[List.map_append,jC,ZAH,Z7]at e1;have e2:=comp_b.add;rw[e1,e2,e2];unfold Qw;omega
 refine⟨⟨⟨y,?_,?_,?_⟩,pre++(x.ks.take ci).flatMap (fun k=>QT N n k.at_),(x.ks.drop (ci+1)).flatMap (fun k=>QT N n k.at_)++post,?_,?_⟩,?_,?_,?_,?_,k,?_,eO,eB⟩
 ·show lk N (Zce _ _ _)=_;rw[eO];exact y1
 ·show _=l.n-1;omega
 ·show _=l.f+X7 N l.o (a-l.f)+ZKf N l.o (a-l.f)-(l.f+X7 N l.o (a-l.f));rw[eB,y3];omega
 ·show s=_++QT N (l.n-1) (Zce _ _ _)++_
  rw[x4,eO,hn,QT,x1];simp only[Option.map_some,Option.getD_some,Nat.add_sub_cancel]
  have e:=congrArg (fun l=>l.flatMap fun k=>QT N n k.at_) hsplit
  simp only[List.flatMap_append,List.flatMap_cons]at e;rw[e];simp only[List.append_assoc]
 ·show _=l.f+X7 N l.o (a-l.f)
  rw[lL,eF];omega
 ·show l.f+X7 N l.o (a-l.f)<=a;rw[eF];omega
 ·show a<l.f+X7 N l.o (a-l.f)+ZKf N l.o (a-l.f);rw[eF,eB];omega
 ·show l.f<=l.f+X7 N l.o (a-l.f);rw[eF];omega
 ·show l.f+X7 N l.o (a-l.f)+ZKf N l.o (a-l.f)<=l.t;rw[eF,eB];omega
 ·rw[eI,hnd];exact hk
theorem ZCr(N:ZO)(a:Int):∀(n:Nat) (l:CLv),(QR N a n l).length=n+1
 | 0,_=>rfl
 | n+1,l=>by rw[QR,List.length_cons,ZCr N a n]
theorem ZoF(N:ZO)(a:Int)(n:Nat)(l:CLv):(QR N a n l)[0]?=some l:=by cases n<;>rfl
theorem Zcf(N:ZO)(a:Int):∀(n:Nat) (l:CLv) (i:Nat) (x:CLv),i<n->(QR N a n l)[i]?=some x->(QR N a n l)[i+1]?=some (x.down N a)
 | n+1,l,0,x,_,h=>by
  rw[QR]at h ⊢;simp only[List.getElem?_cons_zero,oJ]at h;subst h;rw[List.getElem?_cons_succ,ZoF]
 | n+1,l,i+1,x,hi,h=>by
  rw[QR]at h ⊢;rw[List.getElem?_cons_succ]at h ⊢
  exact Zcf N a n _ i x (by omega) h
theorem ZAm{N:ZO}(hN:GoodN N){s:B8}{a:Int}:∀(n:Nat) (l:CLv),l.n=n->CLvOk N s l->l.f<=a->a<l.t->∀i x,(QR N a n l)[i]?=some x->CLvOk N s x/\x.n+i=n/\x.f<=a/\a<x.t/\l.f<=x.f/\x.t<=l.t
 | 0,l,hn,h,h0,h1,i,x,hx=>by
  match i,hx with
  | 0,hx =>
   simp only[QR,List.getElem?_cons_zero,oJ]at hx;subst hx
   exact⟨h,by omega,h0,h1,by omega,by omega⟩
  | i+1,hx=>simp[QR]at hx
 | n+1,l,hn,h,h0,h1,i,x,hx=>by
  match i,hx with
  | 0,hx =>
   simp only[QR,List.getElem?_cons_zero,oJ]at hx;subst hx
   exact⟨h,by omega,h0,h1,by omega,by omega⟩
  | i+1,hx =>
   rw[QR,List.getElem?_cons_succ]at hx;obtain⟨d1,d2,d3,d4,d5,_⟩:=h.down hN hn h0 h1
   obtain⟨e1,e2,e3,e4,e5,e6⟩:=ZAm hN n _ (show (l.down N a).n=n by show l.n-1=n;omega) d1 d2 d3 i x hx
   exact⟨e1,by omega,e3,e4,by omega,by omega⟩
def cmL(N:ZO)(p a:Int):Nat->CLv->Nat
 | 0,_=>1
 | n+1,l=>1+if l.down N p=l.down N a then cmL N p a n (l.down N a) else 0
theorem Zcg(N:ZO)(p a:Int):∀(n:Nat) (l:CLv),1<=cmL N p a n l/\cmL N p a n l<=n+1
 | 0,l=>by simp[cmL]
 | n+1,l=>by
  rw[cmL]
  have:=Zcg N p a n (l.down N a)
  split<;>omega
theorem ZlL(N:ZO)(a:Int):∀(n:Nat) (l:CLv),cmL N a a n l=n+1
 | 0,l=>rfl
 | n+1,l=>by rw[cmL,if_pos rfl,ZlL N a n];omega
theorem Zch(N:ZO)(p a:Int):∀(n:Nat) (l:CLv),(QR N p n l).take (cmL N p a n l)=(QR N a n l).take (cmL N p a n l)
 | 0,l=>rfl
 | n+1,l=>by
  rw[cmL,QR,QR]
  split
  ·rename_i e
   rw[Nat.add_comm,List.take_succ_cons,List.take_succ_cons,e,Zch N p a n]
  ·rfl
theorem ZQN{ks:List Kid}(hf:∀k∈ks,0<=k.m.b):∀ {i:Nat} {k:Kid} {b:Int},ks[i]?=some k->Qw Mea.b ks i<=b->b<Qw Mea.b ks i+k.m.b->(QU Mea.b ks b).1=i:=by
 induction ks with
 | nil=>intro i k b h;simp at h
 | cons z l ih =>
  intro i k b h h0 h1
  cases i with
  | zero =>
   simp only[List.getElem?_cons_zero,oJ]at h;subst h
   have:Qw Mea.b (z::l) 0=0:=rfl
   rw[QU,if_pos (by omega)]
  | succ i =>
   rw[List.getElem?_cons_succ]at h
   have e:Qw Mea.b (z::l) (i+1)=z.m.b+Qw Mea.b l i:=by
    unfold Qw;rw[List.take_succ_cons,jC,Z7,comp_b.add]
   have h0':0<=Qw Mea.b l i:=by
    have key:∀(l:List Kid),(∀k∈l,0<=k.m.b)->0<=(Z7 (l.map Kid.m)).b:=by
     intro l
     induction l with
     | nil=>intro _;exact Int.le_of_eq comp_b.zero.symm
     | cons y m ih2 =>
      intro hq;rw[jC,Z7,comp_b.add]
      have:=ih2 (fun q hq2=>hq q (List.mem_cons_of_mem _ hq2))
      have:=hq y (by simp)
      omega
    exact key _ (fun q hq=>hf q (List.mem_cons_of_mem _ (List.mem_of_mem_take hq)))
   rw[e]at h0 h1
   rw[QU,if_neg (by omega)]
   simp only
   rw[ih (fun q hq=>hf q (List.mem_cons_of_mem _ hq)) h (by omega) (by omega)]
theorem CLvOk.fit{N:ZO}(hN:GoodN N){l:CLv}(h:CLvOk N s l):∀k∈(QP N l.o).ks,0<=k.m.b:=by
 obtain⟨⟨x,x1,x2,x3⟩,_⟩:=h;rw[Q5 x1]
 exact fun k hk=>(((hN l.o x x1).1.ksFit) k hk).1
theorem CLvOk.same{N:ZO}(hN:GoodN N){l:CLv}(h:CLvOk N s l)(hn:l.n=n+1){p:Int}(h0:l.f<=p)(h1:p<l.t)(ha0:(l.down N p).f<=a)(ha1:a<(l.down N p).t):l.down N p=l.down N a:=by
 obtain⟨_,_,_,_,_,k,k1,k2,k3⟩:=h.down hN hn h0 h1;have q0:l.f+X7 N l.o (p-l.f)<=a:=ha0;have q1:a<l.f+X7 N l.o (p-l.f)+ZKf N l.o (p-l.f):=ha1;rw[k3]at q1
 have e:ZBC N l.o (a-l.f)=ZBC N l.o (p-l.f):=ZQN (h.fit hN) k1 (by show X7 N l.o (p-l.f)<=_;omega) (by show _<X7 N l.o (p-l.f)+_;omega)
 have eF:X7 N l.o (a-l.f)=X7 N l.o (p-l.f):=by unfold X7;rw[e]
 have eO:Zce N l.o (a-l.f)=Zce N l.o (p-l.f):=by unfold Zce;rw[e]
 have eB:ZKf N l.o (a-l.f)=ZKf N l.o (p-l.f):=by unfold ZKf;rw[e]
 unfold CLv.down;rw[eF,eO,eB]
theorem ZoG{N:ZO}(hN:GoodN N){s:B8}{p a:Int}:∀(n:Nat) (l:CLv),l.n=n->CLvOk N s l->l.f<=p->p<l.t->l.f<=a->a<l.t->∀i x,(QR N p n l)[i]?=some x->cmL N p a n l<=i->¬ (x.f<=a/\a<x.t)
 | 0,l,_,_,_,_,_,_,i,x,hx,hi=>by
  match i,hx,hi with
  | 0,_,hi=>simp[cmL]at hi
  | i+1,hx,_=>simp[QR]at hx
 | n+1,l,hn,h,p0,p1,a0,a1,i,x,hx,hi=>by
  rw[cmL]at hi
  match i,hx,hi with
  | 0,_,hi=>omega
  | i+1,hx,hi =>
   rw[QR,List.getElem?_cons_succ]at hx;obtain⟨d1,d2,d3,d4,d5,_⟩:=h.down hN hn p0 p1
   have dn:(l.down N p).n=n:=by show l.n-1=n;omega
   by_cases e:l.down N p=l.down N a
   ·rw[if_pos e]at hi
    obtain⟨_,b2,b3,_⟩:=h.down hN hn a0 a1;rw[e]at hx d1 d2 d3 dn
    exact ZoG hN n _ dn d1 d2 d3 b2 b3 i x hx (by omega)
   ·intro hq
    obtain⟨_,_,_,_,e5,e6⟩:=ZAm hN n _ dn d1 d2 d3 i x hx
    exact e (h.same hN hn p0 p1 (by omega) (by omega))
def szN(N:ZO):Nat->Nat->Nat
 | 0,_=>1
 | n+1,o=>1+((QP N o).ks.map fun k=>szN N n k.at_).sum
def ZCg(N:ZO)(a:Int):Nat->CLv->Nat
 | 0,_=>1
 | n+1,l=>1+(((QP N l.o).ks.take (ZBC N l.o (a-l.f))).map fun k=>szN N n k.at_).sum+ZCg N a n (l.down N a)
end Go.Q15
namespace Go.QAbs
variable {v:AV}{ro:Bool}{e:Env}{f g:FuncId}{a z:Int}{Q:Jh}{A:List (Bool × List Blk)}{args caps cls es:LV}{k:List Fr}{l:List Nat}{s:B8}{c4 c5 d i ip ix j j4 la mb mx n o ob ox rx tx v4 ver w w4 wb:Nat}{x:Opd}{O:Orc}{st:St}
theorem ZjB{L T:List Blk}{lv:Nat}{b c:Blk}(hg:St.get ⟨A,false,L⟩ lv ix=some c):St.upd ⟨A,false,L++T⟩ lv ix b=⟨(St.upd ⟨A,false,L⟩ lv ix b).A,false,(St.upd ⟨A,false,L⟩ lv ix b).L++T⟩:=by
 unfold St.upd
 by_cases h:lv=A.length
 ·simp only[if_pos h]
  have hix:ix<L.length:=by
   rw[St.get]at hg;simp only[if_pos h]at hg;exact ZC3 hg
  rw[List.set_append_left _ _ hix]
 ·simp only[if_neg h]
theorem ZjC{L:List Blk}{lv:Nat}{b:Blk}:(St.upd ⟨A,false,L⟩ lv ix b).ro=false:=by
 unfold St.upd
 split<;>rfl
theorem XI{L T:List Blk}{lv:Nat}{c:Blk}(hg:St.get ⟨A,false,L⟩ lv ix=some c):St.get ⟨A,false,L++T⟩ lv ix=some c:=by
 rw[St.get]at hg ⊢
 simp only at hg ⊢
 by_cases h:lv=A.length
 ·rw[if_pos h]at hg ⊢
  rw[jL (ZC3 hg)];exact hg
 ·rw[if_neg h]at hg ⊢;exact hg
theorem Zmx{L T:List Blk}{lv:Nat}(h:St.wr ⟨A,false,L⟩ lv):St.wr ⟨A,false,L++T⟩ lv:=h
theorem ZoH:∀ {ks:List (Nat × Nat)} {st:St} {bs:List Blk},(Zv st ks bs).ro=st.ro
 | [],_,_=>rfl
 | _::_,_,[]=>rfl
 | k::ks,st,b::bs=>by
  rw[Zv,ZoH];unfold St.upd
  split<;>rfl
theorem ZjD:∀ {ks:List (Nat × Nat)} {st:St} {bs:List Blk},(Zv st ks bs).L.length=st.L.length
 | [],_,_=>rfl
 | _::_,_,[]=>rfl
 | k::ks,st,b::bs=>by
  rw[Zv,ZjD];unfold St.upd
  split<;>simp
theorem ZlM{L:List Blk}{ks:List (Nat × Nat)}{bs:List Blk}:(⟨(Zv ⟨A,false,L⟩ ks bs).A,false,(Zv ⟨A,false,L⟩ ks bs).L⟩:St)=Zv ⟨A,false,L⟩ ks bs:=by
 have:(Zv ⟨A,false,L⟩ ks bs).ro=false:=ZoH
 cases h:Zv ⟨A,false,L⟩ ks bs with
 | mk a r l=>rw[h]at this;simp only at this;rw[this]
section
variable {O:Orc}{k:List Fr}{Q:Jh}{e:Env}{A A0:List (Bool × List Blk)}{L L0 T:List Blk}{keep:List Nat}{is:List PI}{d:Nat}{ks:List (Nat × Nat)}{b0 bs:List Blk}
theorem Zrr(H:Cl ⟨A0,false,L0⟩ ks b0)(hst:(⟨A,false,L⟩:St)=Zv ⟨A0,false,L0⟩ ks bs)(hl:bs.length=ks.length)(hn:bs.all noH=true){lv:Nat}{b:Blk}(hj:ks[j]?=some (lv,ix))(hb:bs[j]?=some b)(T:List Blk):St.get ⟨A,false,L++T⟩ lv ix=some b :=
 XI (by rw[hst];exact (H.put hl hn).get j lv ix b hj hb)
theorem Zu2(H:Cl ⟨A0,false,L0⟩ ks b0)(hst:(⟨A,false,L⟩:St)=Zv ⟨A0,false,L0⟩ ks bs)(hl:bs.length=ks.length)(hn:bs.all noH=true){lv:Nat}{b:Blk}(hj:(lv,ix)∉ks)(hb:St.get ⟨A0,false,L0⟩ lv ix=some b)(T:List Blk):St.get ⟨A,false,L++T⟩ lv ix=some b :=
 XI (by rw[hst,H.out hl hn hj];exact hb)
theorem ZQO(hst:(⟨A,false,L⟩:St)=Zv ⟨A0,false,L0⟩ ks bs):A.length=A0.length/\L.length=L0.length:=by
 have h1:A.length=(Zv ⟨A0,false,L0⟩ ks bs).A.length:=by rw[<- hst]
 have h2:L.length=(Zv ⟨A0,false,L0⟩ ks bs).L.length:=by rw[<- hst]
 exact⟨h1.trans (ZDn _ _ _),h2.trans ZjD⟩
theorem Zmy{a:Opd}{lv:Nat}{v' y:AV}(H:Cl ⟨A0,false,L0⟩ ks b0)(hst:(⟨A,false,L⟩:St)=Zv ⟨A0,false,L0⟩ ks bs)(hl:bs.length=ks.length)(hn:bs.all noH=true)(hj:ks[j]?=some (lv,ix))(hb:bs[j]?=some (.arr w ver es))
 (ha:Zg e a=some (.ptr lv ix ver i o)) (hx:Zg e x=some v) (hy:es[i]?=some y) (hs:ZY QO (lv+1) ⟨A,false,L++T⟩ v=some (v,⟨A,false,L++T⟩)) (hv:(JU w y o n v).bind YS=some v')
 (h:∀A2 L2,(⟨A2,false,L2⟩:St)=Zv ⟨A0,false,L0⟩ ks (bs.set j (.arr w ver (es.set i v')))->A2.length=A.length->L2.length=L.length->Is O is keep k Q e ⟨A2,false,L2++T⟩):Is O (⟨none,none,false,.st n a x⟩::is) keep k Q e ⟨A,false,L++T⟩:=by
 have hP:=H.put hl hn;have hg:=hP.get j lv ix _ hj hb;have hw:=hP.wr (lv,ix) (jM hj);rw[<- hst]at hg hw;refine Zqw ha hx (Zmx hw) (XI hg) hy hs hv ?_;rw[ZjB hg]
 have e1:(⟨(St.upd ⟨A,false,L⟩ lv ix (.arr w ver (es.set i v'))).A,false,(St.upd ⟨A,false,L⟩ lv ix (.arr w ver (es.set i v'))).L⟩:St)=St.upd ⟨A,false,L⟩ lv ix (.arr w ver (es.set i v')):=by
  have:=ZjC (A:=A) (L:=L) (lv:=lv) (ix:=ix) (b:=.arr w ver (es.set i v'))
  cases hq:St.upd ⟨A,false,L⟩ lv ix (.arr w ver (es.set i v')) with
  | mk a r l=>rw[hq]at this;simp only at this;rw[this]
 have e2:(⟨(St.upd ⟨A,false,L⟩ lv ix (.arr w ver (es.set i v'))).A,false,(St.upd ⟨A,false,L⟩ lv ix (.arr w ver (es.set i v'))).L⟩:St)=Zv ⟨A0,false,L0⟩ ks (bs.set j (.arr w ver (es.set i v'))):=by
  rw[e1,hst,ZAf H.nd hl hj]
 refine h _ _ e2 ?_ ?_
 ·rw[(ZQO e2).1,(ZQO hst).1]
 ·rw[(ZQO e2).2,(ZQO hst).2]
theorem ZuV{s:Opd}{lv bytes m:Nat}{ys:LV}{vx:AV}(H:Cl ⟨A0,false,L0⟩ ks b0)(hst:(⟨A,false,L⟩:St)=Zv ⟨A0,false,L0⟩ ks bs)(hl:bs.length=ks.length)(hn:bs.all noH=true)(hj:ks[j]?=some (lv,ix))(hb:bs[j]?=some (.arr w ver es))(hm:m<=es.length)
 (hs:Zg e s=some (.ref lv ix ver 0 m)) (hx:Zg e x=some vx) (hy:elems ⟨A,false,L++T⟩ vx=some ys) (hw:Ja w ys=true) (hsl:mapSt (ZY QO (lv+1)) ⟨A,false,L++T⟩ ys=some (ys,⟨A,false,L++T⟩)) (hlen:m+ys.length<4294967296) (hby:bytes<=4096)
 (h:∀A2 L2,(⟨A2,false,L2⟩:St)=Zv ⟨A0,false,L0⟩ ks (bs.set j (.arr w (ver+1) (es.take m++ys)))->A2.length=A.length->L2.length=L.length->Is O is keep k Q ((d,.ref lv ix (ver+1) 0 (m+ys.length))::e) ⟨A2,false,L2++T⟩) :
 Is O (⟨some d,none,false,.app w bytes s x⟩::is) keep k Q e ⟨A,false,L++T⟩:=by
 have hP:=H.put hl hn;have hg:=hP.get j lv ix _ hj hb;have hwr:=hP.wr (lv,ix) (jM hj);rw[<- hst]at hg hwr
 have e1:(⟨(St.upd ⟨A,false,L⟩ lv ix (.arr w (ver+1) (es.take m++ys))).A,false,(St.upd ⟨A,false,L⟩ lv ix (.arr w (ver+1) (es.take m++ys))).L⟩:St)=St.upd ⟨A,false,L⟩ lv ix (.arr w (ver+1) (es.take m++ys)):=by
  have:=ZjC (A:=A) (L:=L) (lv:=lv) (ix:=ix) (b:=.arr w (ver+1) (es.take m++ys))
  cases hq:St.upd ⟨A,false,L⟩ lv ix (.arr w (ver+1) (es.take m++ys)) with
  | mk a r l=>rw[hq]at this;simp only at this;rw[this]
 have e2:(⟨(St.upd ⟨A,false,L⟩ lv ix (.arr w (ver+1) (es.take m++ys))).A,false,(St.upd ⟨A,false,L⟩ lv ix (.arr w (ver+1) (es.take m++ys))).L⟩:St)=Zv ⟨A0,false,L0⟩ ks (bs.set j (.arr w (ver+1) (es.take m++ys))):=by
  rw[e1,hst,ZAf H.nd hl hj]
 refine Z4 (v:=.ref lv ix (ver+1) 0 (m+ys.length)) (st':=St.upd ⟨A,false,L++T⟩ lv ix (.arr w (ver+1) (es.take m++ys))) ?_ ?_
 ·simp only[Zl,evalPO,ZJ hs,ZJ hx,hy,oS,Jc,hw,if_true,hsl,Zg6,XI (T:=T) hg,ZMB,true_and,if_pos (show 0+m<=es.length/\m+ys.length<4294967296/\bytes<=4096 by omega),List.drop_zero]
  rw[St.put_upd (Zmx hwr) (XI hg)];rfl
 ·rw[ZjB hg]
  refine h _ _ e2 ?_ ?_
  ·rw[(ZQO e2).1,(ZQO hst).1]
  ·rw[(ZQO e2).2,(ZQO hst).2]
end
end Go.QAbs
namespace Go.Q15
open Go Go.QAbs
variable {r':AR}{v:AV}{ro:Bool}{e:Env}{f g:FuncId}{a z:Int}{Q:Jh}{A:List (Bool × List Blk)}{args caps cls es:LV}{k:List Fr}{l:List Nat}{s:B8}{c4 c5 d i ip ix j j4 la mb mx n o ob ox rx tx v4 ver w w4 wb:Nat}{x:Opd}{O:Orc}{st:St}{t:Tr}
theorem Zrs(m:Mea)(st:St):S Tb ZBI [m.av] st=some (.tup [],st):=by
 refine QA Y (fun A hA=>?_)
 unfold Mea.av
 repeat'(first|refine ZD ?_|refine ZB Y ?_|refine Zc Y Y Y ?_|refine ZL ?_)
 refine ZX hA (by simp) Y Y Y Y ?_
 rfl
theorem ZpU(st:St):Pass (fun _=>st) Mea.b ZBI [] st.ps.length :=
 ⟨comp_b,fun _=>rfl,fun s m L _ _ _=>⟨_,Zrs m _⟩,fun m=>rfl⟩
abbrev ZKg(N:ZO)(r:Ro)(a:Int):(B8 × Int) × List Nat × Int:=JS (QU Mea.b) Mea.b N r.h r.at_ a
theorem RtOk.nz{N:ZO}{r:Ro}(h:RtOk N r)(hb:0<r.m.b):r.at_≠0/\∃x,lk N r.at_=some x/\NdOk x/\x.h=r.h/\x.mea=r.m:=by
 rcases h with rfl|w
 ·simp[Ro.zero,Mea.zero]at hb
 ·exact w
theorem Zvd{b:Nat}{N:ZO}(hN:GoodN N)(hR:Rd st la (b+5) N){r:Ro}(hr:RtOk N r)(a:Int)(h0:0<=a)(h1:a<r.m.b)(hb:r.m.b<=1000000):
 S Tb ZJe [.ptr la (b+5) 0 0 0,r.av,.int .i64 a] st=some (.tup [.str (ZKg N r a).1.1,.int .i64 (ZKg N r a).1.2,.lit ((ZKg N r a).2.1.map Qj),.int .i64 0],st):=by
 refine QA Y (fun A hA=>?_)
 have hC:=fun L=>ZDx (hR.push hA (ro:=false) (L:=L)) hr
 have hW:=fun L=>Zcc (ZpU ⟨A,false,L⟩) ZlK hN (fun _=>hR.push hA (ro:=false) (L:=L)) hr (hr.nz (by omega)).1 a ⟨h0,h1,hb⟩ 0 ⟨by decide,by decide⟩
 unfold ZKg
 generalize JS (QU Mea.b) Mea.b N r.h r.at_ a=R at *
 unfold Ro.av at *
 repeat'(first|refine ZE ?_|refine ZD ?_|refine ZG Y ?_|refine ZI Y Y ?_|refine ZQ Y Y Y Y ?_|refine Z9 Y ?_|refine Zi Y Y Y Y ?_|refine Zp Y Y ?_|refine ZB Y ?_|refine ZC ?_|(refine cm0 Y Y Y ?_ ?_<;>intro _<;>try omega)|refine ZF Y ?_|refine Zc Y Y Y ?_|refine Zy Y Y Y Y Y Y ?_|refine ZA Y Y Y (hC _) ?_|refine ZA Y Y Y (hW _) ?_|refine ZH ?_|refine ZP ?_|refine ZL ?_)
 all_goals try first|contradiction|omega
 refine ZX hA (by simp) Y Y Y Y ?_
 rfl
theorem Zve{b:Nat}{N:ZO}(hN:GoodN N)(hR:Rd st la (b+5) N){r:Ro}(hr:RtOk N r)(a:Int)(h0:0<=a)(h1:a<r.m.b)(hb:r.m.b<=1000000){c:UInt8}(hc:0<=(ZKg N r a).1.2/\(ZKg N r a).1.2<(ZKg N r a).1.1.length/\(ZKg N r a).1.1[(ZKg N r a).1.2.toNat]?=some c):
 S Tb ZET [.ptr la (b+5) 0 0 0,r.av,.int .i64 a] st=some (.tup [.int .u8 c.toNat,.int .i64 0],st):=by
 refine QA Y (fun A hA=>?_)
 have hL:=fun L=>Zvd hN (hR.push hA (ro:=false) (L:=L)) hr a h0 h1 hb
 generalize ZKg N r a=R at *
 obtain⟨c1,c2,c3⟩:=hc
 unfold Ro.av at *
 repeat'(first|refine ZE ?_|refine ZD ?_|refine ZG Y ?_|refine ZQ Y Y Y Y ?_|refine Z9 Y ?_|refine Zi Y Y Y Y ?_|refine Zp Y Y ?_|refine ZB Y ?_|refine ZC ?_|refine Q4 Y ?_|(refine cm0 Y Y Y ?_ ?_<;>intro _<;>try omega)|refine ZF Y ?_|refine Zc Y Y Y ?_|refine ZA Y Y Y (hL _) ?_|refine ZBT Y Y ⟨c1,c2⟩ c3 ?_|refine ZH ?_|refine ZP ?_|refine ZL ?_)
 all_goals try first|contradiction|omega
 refine ZX hA (by simp) Y Y Y Y ?_
 rfl
theorem Zmz{N:ZO}(hN:GoodN N){r:Ro}(h:Rt N r s)(h0:0<=a)(h1:a<s.length):
 ∃pre leaf post,s=pre++leaf++post/\(ZKg N r a).1=(leaf,a-pre.length)/\(pre.length:Int)<=a/\a-pre.length<leaf.length:=by
 have hb:=(h.b hN).2
 obtain⟨hz,x,x1,x2,x3,x4⟩:=h.rt.nz (by omega)
 have hs:ZGC N r=s:=h.tx;unfold ZGC at hs;rw[if_neg hz]at hs
 obtain⟨pre,leaf,post,t1,t2,t3,t4,t5⟩:=ZTd comp_b comp_b hN r.h r.at_ x a x1 x3 h0 (by rw[x4];omega)
 have e:∀l:B8,(JQ l).b=l.length:=fun l=>rfl
 rw[e]at t2 t3 t4;rw[e]at t4
 exact⟨pre,leaf,post,by rw[<- hs,t1],t2,by omega,t4⟩
theorem YO{p:UInt8->Bool}(h:i<=j):(s.take i).countP p<=(s.take j).countP p:=by
 have:s.take i=(s.take j).take i:=by rw[List.take_take,Nat.min_eq_left h]
 rw[this];exact List.Sublist.countP_le (List.take_sublist ..)
theorem YH{p:UInt8->Bool}{c:UInt8}(h:s[i]?=some c):(s.take (i+1)).countP p=(s.take i).countP p+if p c=true then 1 else 0:=by
 rw[Zs h,List.countP_append,List.countP_singleton]
structure NthB(p:UInt8->Bool)(s:B8)(n:Nat)(i:Nat)(c:UInt8):Prop where
 get:s[i]?=some c
 is:p c=true
 cnt:(s.take i).countP p=n
theorem NthB.inner{p:UInt8->Bool}{pre leaf post:B8}{c:UInt8}(h:NthB p (pre++leaf++post) n i c)(h1:pre.countP p<=n)(h2:n<(pre++leaf).countP p):
 ∃i',i=pre.length+i'/\NthB p leaf (n-pre.countP p) i' c:=by
 obtain⟨g,g2,g3⟩:=h;have hs:=YH (p:=p) g;rw[if_pos g2,g3]at hs
 have a1:pre.length<=i:=by
  rcases Nat.lt_or_ge i pre.length with q|q
  ·have:=YO (p:=p) (s:=pre++leaf++post) (i:=i+1) (j:=pre.length) (by omega)
   rw[hs,List.append_assoc,List.take_left]at this;omega
  ·exact q
 have a2:i<pre.length+leaf.length:=by
  rcases Nat.lt_or_ge i (pre.length+leaf.length) with q|q
  ·exact q
  ·have:=YO (p:=p) (s:=pre++leaf++post) (i:=(pre++leaf).length) (j:=i) (by rw[lL];omega)
   rw[g3,List.take_left]at this;omega
 obtain⟨i',rfl⟩:∃i',i=pre.length+i':=⟨i-pre.length,by omega⟩
 have e:(pre++leaf++post).take (pre.length+i')=pre++leaf.take i':=by
  rw[List.append_assoc,List.take_length_add_append,List.take_append_of_le_length (by omega)]
 refine⟨i',rfl,?_,g2,?_⟩
 ·rw[List.append_assoc,List.getElem?_append_right (by omega),jL (by omega)]at g
  rw[show pre.length+i'-pre.length=i' by omega]at g
  exact g
 ·rw[e,List.countP_append]at g3;omega
theorem Zvf{p:UInt8->Bool}(hf:Zq9 f p){c:UInt8}(h:NthB p s n i c)(hs:s.length<4294967296)(st:St):
 S Tb ZDA [.str s,.func (.func f) [] [],.int .i64 n] st=some (.tup [.int .i64 i,.bool true],st):=by
 refine QA Y (fun A hA=>?_)
 obtain⟨g,g2,g3⟩:=h;have hi:=(List.getElem?_eq_some_iff.1 g).1
 have hn:n<=s.length:=by rw[<- g3];have:=List.countP_le_length (p:=p) (l:=s.take i);rw[List.length_take]at this;omega
 repeat'(first|refine ZE ?_|refine ZD ?_|refine ZG Y ?_|refine ZB Y ?_|refine ZC ?_|refine Q4 Y ?_|refine ZS ?_)
 refine Z2 (α:=Nat) (fun j=>[(0,.str s),(1,.func (.func f) [] []),(2,.int .i64 ((n:Int)-(s.take j).countP p)),(10,.int .i64 s.length),(11,.int .i64 j)]) (fun j=>⟨A,false,[]⟩) (fun j=>j<=i) (fun j=>s.length-j) 0 (by simp) Y (Nat.zero_le _) ?_
 intro j hj;replace hj:j<=i:=hj
 obtain⟨d,hd⟩:∃d,s[j]?=some d:=⟨_,jE (by omega)⟩
 have hb:=fun st=>hf d st
 have hb2:s[((j:Nat):Int).toNat]?=some d:=by rw[show ((j:Nat):Int).toNat=j by omega];exact hd
 have hc:=YH (p:=p) hd;have hle:=YO (p:=p) (s:=s) hj
 rcases Nat.lt_or_ge j i with hlt|hge
 ·have hle2:=YO (p:=p) (s:=s) (i:=j+1) (j:=i) (by omega)
  by_cases hp:p d=true
  ·rw[if_pos hp]at hc
   rw[hp]at hb
   repeat'(first|refine ZE ?_|refine ZD ?_|refine ZG Y ?_|refine ZB Y ?_|refine ZC ?_|(refine cm0 Y Y Y ?_ ?_<;>intro _<;>try omega)|refine ZU Y ?_|refine ZF Y ?_|refine YA Y Y ?_|refine Zr Y Y (by omega) ?_|refine Qe Y Y (by omega) ?_|refine ZA Y Y Y (hb _) ?_|refine ZBT Y Y (by omega) hb2 ?_|refine ZH ?_|refine ZS ?_|refine Z5 ?_|refine QJ ?_)
   all_goals try first|contradiction|omega
   refine⟨j+1,⟨?_,rfl⟩,by omega,by omega⟩
   rw[hc,show (n:Int)-((List.countP p (s.take j)+1:Nat):Int)=(n:Int)-(List.countP p (s.take j):Nat)-1 by omega]
   rfl
  ·rw[if_neg hp]at hc
   have hp2:p d=false:=by simpa using hp
   rw[hp2]at hb
   repeat'(first|refine ZE ?_|refine ZD ?_|refine ZG Y ?_|refine ZB Y ?_|refine ZC ?_|(refine cm0 Y Y Y ?_ ?_<;>intro _<;>try omega)|refine ZU Y ?_|refine YA Y Y ?_|refine Zr Y Y (by omega) ?_|refine ZA Y Y Y (hb _) ?_|refine ZBT Y Y (by omega) hb2 ?_|refine ZH ?_|refine Zz ?_|refine ZS ?_|refine Zk ?_|refine Zh Y ?_|refine QJ ?_)
   all_goals try first|contradiction|omega
   refine⟨j+1,⟨?_,rfl⟩,by omega,by omega⟩
   rw[hc];rfl
 ·obtain rfl:j=i:=by omega
  rw[hd]at g;obtain rfl:=Option.some.inj g;rw[g2]at hb
  repeat'(first|refine ZE ?_|refine ZD ?_|refine ZG Y ?_|refine ZB Y ?_|refine ZC ?_|(refine cm0 Y Y Y ?_ ?_<;>intro _<;>try omega)|refine ZU Y ?_|refine ZF Y ?_|refine YA Y Y ?_|refine ZA Y Y Y (hb _) ?_|refine ZBT Y Y (by omega) hb2 ?_|refine ZH ?_|refine ZP ?_|refine ZS ?_|refine ZL ?_|refine ZW ?_|refine QS ?_|refine ZC0 ?_)
  all_goals try first|contradiction|omega
  refine ZX hA (by simp) Y Y Y Y ?_
  rfl
def ZQP(A:List (Bool × List Blk))(r:Ro)(s:Int):St:=⟨A,false,[.arr 5 0 [r.av],.arr 1 0 [.int .i64 s]]⟩
theorem Zvg(A:List (Bool × List Blk))(r:Ro)(s:Int):Cl (ZQP A r s) [(A.length,1)] [.arr 1 0 [.int .i64 s]]:=by
 refine⟨by simp,rfl,fun k hk=>?_,fun j lv ix b h1 h2=>?_⟩
 ·simp only[List.mem_singleton]at hk
  subst hk;simp[St.wr,ZQP]
 ·match j,h1,h2 with
  | 0,h1,h2=>obtain⟨rfl,rfl⟩:=Prod.mk.inj (Option.some.inj h1);obtain rfl:=Option.some.inj h2;exact St.get_cur ..
  | n+1,h1,h2=>simp at h1
theorem ZuW(A:List (Bool × List Blk))(r:Ro)(s t:Int):Zv (ZQP A r s) [(A.length,1)] [.arr 1 0 [.int .i64 t]]=ZQP A r t:=by
 simp[Zv,St.upd,ZQP]
theorem ZuX(A:List (Bool × List Blk))(r:Ro)(s:Int)(m:Mea)(L:List Blk)(h0:0<=s)(h1:s<=1000000000)(hf:m.Fit 65536):
 S Tb Xq [m.av,.ptr A.length 1 0 0 0] ⟨(ZQP A r s).ps,false,L⟩=some (.tup [],⟨(ZQP A r (s+m.b)).ps,false,L⟩):=by
 have H:=(Zvg A r s).push (A:=(ZQP A r s).ps) (ro:=false) (L:=L) rfl
 have e:Zv ⟨(ZQP A r s).ps,false,L⟩ [(A.length,1)] [.arr 1 0 [.int .i64 (s+m.b)]]=⟨(ZQP A r (s+m.b)).ps,false,L⟩:=by
  rw[J4 rfl (fun k hk=>by simp only[List.mem_singleton]at hk;subst hk;exact Nat.le_refl _),ZuW]
 obtain⟨f1,f2,_⟩:=hf;rw[<- e]
 refine Jz Y (fun A1 hA=>?_)
 have hA':A1=(Zv ⟨(ZQP A r s).ps,false,L⟩ [(A.length,1)] [.arr 1 0 [.int .i64 s]]).ps:=by rw[H.same];exact hA
 have g:=fun L'=>H.old hA' rfl rfl (ro:=false) (L:=L') (j:=0) rfl rfl
 unfold Mea.av
 repeat'(first|refine ZE ?_|refine ZD ?_|refine ZI Y Y ?_|refine ZQ Y Y Y Y ?_|refine ZB Y ?_|refine ZC ?_|refine Zr Y Y (by omega) ?_|refine Zc Y Y Y ?_|refine Zt Y (g _) Y Y ?_)
 refine ZH5 H hA' Y Y (j:=0) Y Y Y Y Y Y Y (fun A2 hA2 _=>?_)
 repeat'(first|refine ZB Y ?_|refine ZL ?_)
 refine ZX hA2 (.inl Y) Y Y Y Y ?_;rfl
theorem Zrt(A:List (Bool × List Blk))(r:Ro):Pass (ZQP A r) Mea.b Xq [.ptr A.length 1 0 0 0] (A.length+1) :=
 ⟨comp_b,fun _=>by simp[ZQP],fun s m L h0 h1 hf=>⟨_,ZuX A r s m L h0 h1 hf⟩,fun m=>rfl⟩
theorem Zru{ch:List Kid->Int->Nat × Int}{D:Mea->Int->Prop}(hf:NextOk f ch D){b:Nat}{N:ZO}(hN:GoodN N)(hR:Rd st la (b+5) N){r:Ro}(hr:RtOk N r)(h0:r.at_≠0)(a:Int)(ha:D r.m a)
 {t:Int} (hg:∀st,S Tb g [.str (JS ch Mea.b N r.h r.at_ a).1.1,.int .i64 (JS ch Mea.b N r.h r.at_ a).1.2] st=some (.tup [.int .i64 t,.int .i64 0],st)) (hb:0<=(JS ch Mea.b N r.h r.at_ a).2.2/\(JS ch Mea.b N r.h r.at_ a).2.2<=1000000/\0<=t/\t<=1000000) :
 S Tb ZEk [.ptr la (b+5) 0 0 0,r.av,.int .i64 a,.func (.func f) [] [],.func (.func g) [] []] st=some (.tup [.int .i64 ((JS ch Mea.b N r.h r.at_ a).2.2+t),.int .i64 0],st):=by
 refine QA Y (fun A hA=>?_)
 have hW:=Zcc (Zrt A r) hf hN (fun s=>hR.push hA (ro:=false) (L:=[.arr 5 0 [r.av],.arr 1 0 [.int .i64 s]])) hr h0 a ha 0 ⟨by decide,by decide⟩
 rw[Int.zero_add]at hW
 generalize JS ch Mea.b N r.h r.at_ a=R at *
 unfold ZQP at hW
 unfold Ro.av at *
 repeat'(first|refine ZE ?_|refine ZD ?_|refine ZG Y ?_|refine ZI Y Y ?_|refine ZQ Y Y Y Y ?_|refine Zp Y Y ?_|refine ZB Y ?_|refine ZC ?_|(refine cm0 Y Y Y ?_ ?_<;>intro _<;>try omega)|refine ZF Y ?_|refine Zr Y Y (by omega) ?_|refine YN Y Y ?_|refine Zc Y Y Y ?_|refine Zy Y Y Y Y Y Y ?_|refine ZA Y Y Y (hW) ?_|refine ZA Y Y Y (hg _) ?_|refine ZH ?_|refine ZP ?_|refine ZL ?_)
 all_goals try first|contradiction|omega
 refine ZX hA (by simp) Y Y Y Y ?_
 rfl
theorem Zvh{b:Nat}{N:ZO}(hN:GoodN N)(hR:Rd st la (b+5) N){r:Ro}(h:Rt N r s){c:UInt8}(hi:s[i]?=some c)(hs:s.length<=100000):
 S Tb ZET [.ptr la (b+5) 0 0 0,r.av,.int .i64 i] st=some (.tup [.int .u8 c.toNat,.int .i64 0],st):=by
 have hil:=(List.getElem?_eq_some_iff.1 hi).1;have hmb:=(h.b hN).2
 obtain⟨pre,leaf,post,t1,t2,t3,t4⟩:=Zmz hN h (a:=(i:Int)) (by omega) (by omega)
 refine Zve hN hR h.rt (i:Int) (by omega) (by omega) (by omega) ?_
 rw[t2]
 refine⟨by simp only;omega,by simp only;omega,?_⟩
 simp only
 rw[t1,List.append_assoc,List.getElem?_append_right (by omega),jL (by omega)]at hi
 rw[show ((i:Int)-pre.length).toNat=i-pre.length by omega]
 exact hi
theorem ZuY{c:UInt8}(h:NthB QB s n i c)(hs:s.length<4294967296)(st:St):
 S Tb ZAS [.str s,.int .i64 ((n:Int)+1)] st=some (.tup [.int .i64 ((i:Int)+1),.int .i64 0],st):=by
 refine QA Y (fun A hA=>?_)
 have hi:=(List.getElem?_eq_some_iff.1 h.get).1
 have hn:n<=s.length:=by rw[<- h.cnt];have:=List.countP_le_length (p:=QB) (l:=s.take i);rw[List.length_take]at this;omega
 have hF:=fun st=>Zvf Zi0 h hs st
 rw[show (n:Int)=(n:Int)+1-1 by omega]at hF
 repeat'(first|refine ZE ?_|refine ZD ?_|refine ZG Y ?_|refine Zp Y Y ?_|refine ZB Y ?_|refine ZC ?_|(refine cm0 Y Y Y ?_ ?_<;>intro _<;>try omega)|refine ZU Y ?_|refine ZF Y ?_|refine Zr Y Y (by omega) ?_|refine Qe Y Y (by omega) ?_|refine ZA Y Y Y (hF _) ?_|refine ZH ?_|refine ZP ?_|refine ZL ?_|refine ZW ?_)
 all_goals try first|contradiction|omega
 refine ZX hA (by simp) Y Y Y Y ?_
 rfl
def ZNR(ks:List Kid)(a:Int):Nat × Int:=((QU Mea.l ks (a-1)).1,(QU Mea.l ks (a-1)).2+1)
theorem Zrv:ZNQ ZEl Mea.l:=fun m st=>by
 refine QA Y (fun A hA=>?_)
 unfold Mea.av
 repeat'(first|refine ZE ?_|refine ZD ?_|refine ZG Y ?_|refine ZI Y Y ?_|refine ZQ Y Y Y Y ?_|refine ZB Y ?_|refine ZC ?_|refine Zc Y Y Y ?_|refine ZP ?_|refine ZL ?_)
 refine ZX hA (by simp) Y Y Y Y ?_
 rfl
theorem ZuZ(n:Nat)(ks:List Kid)(hx:NdOk ⟨n+1,[],some ks⟩)(a:Int)(h0:1<=a)(h1:a<=(Z7 (ks.map Kid.m)).l)(hb:a<=1000000)(st:St):
 S Tb ZER [Nd.av ⟨n+1,[],some ks⟩,.int .i64 a] st=some (.tup [.int .i64 (ZNR ks a).1,.int .i64 (ZNR ks a).2,.int .i64 0],st):=by
 refine QA Y (fun A hA=>?_)
 have hC:=fun st=>ZlJ Zrv Zcb n ks hx (a-1) (by omega) (by omega) (by omega) st
 have hin:∀k∈ks,k.m.Fit 65536:=by
  rcases hx with q|⟨m,l,q⟩
  ·have:=q.h;simp at this
  ·have e:=q.eq
   simp only[Nd.mk.injEq,oJ]at e;obtain⟨_,_,rfl⟩:=e
   exact fun k hk=>(q.kid k hk).fit
 have hok:=ZGE Zcb ks (a-1) hin (by omega) (by omega)
 have hle:(QU Mea.l ks (a-1)).2<=1000000:=by
  obtain⟨h1',h2',h3',h4'⟩:=hok
  have:=h4' _ (jE h1')
  have hf:=hin _ (List.getElem_mem h1')
  have:=hf.6
  omega
 have hge:=hok.2.2.1;unfold ZNR
 simp only
 generalize QU Mea.l ks (a-1)=R at *
 unfold Nd.av at *
 simp only[slV]at *
 repeat'(first|refine ZE ?_|refine ZD ?_|refine ZG Y ?_|refine ZQ Y Y Y Y ?_|refine Zp Y Y ?_|refine ZB Y ?_|refine ZC ?_|(refine cm0 Y Y Y ?_ ?_<;>intro _<;>try omega)|refine ZF Y ?_|refine Zr Y Y (by omega) ?_|refine Qe Y Y (by omega) ?_|refine Zc Y Y Y ?_|refine ZA Y Y Y (hC _) ?_|refine ZH ?_|refine ZP ?_|refine ZL ?_)
 all_goals try first|contradiction|omega
 refine ZX hA (by simp) Y Y Y Y ?_
 rfl
theorem Zua:NextOk ZER ZNR (fun m a=>1<=a/\a<=m.l/\m.l<=1000000) where
 call n ks hx a ha st:=ZuZ n ks hx a ha.1 ha.2.1 (by omega) st
 ok ks a hf ha:=by
  obtain⟨h1,h2,h3,h4⟩:=ZGE Zcb ks (a-1) hf (by omega) (by omega)
  exact⟨h1,fun k hk=>⟨by show 1<=(QU Mea.l ks (a-1)).2+1;omega,by have:=h4 k hk;show (QU Mea.l ks (a-1)).2+1<=_;omega,by have:=(hf k (jM hk)).6;omega⟩⟩
theorem Zci(q:Mea->Int)(N:ZO):∀(n o:Nat) (a:Int),JS ZNR q N n o a=(((JS (QU Mea.l) q N n o (a-1)).1.1,(JS (QU Mea.l) q N n o (a-1)).1.2+1),(JS (QU Mea.l) q N n o (a-1)).2.1,(JS (QU Mea.l) q N n o (a-1)).2.2)
 | 0,o,a=>by
  simp only[JS]
  congr 2
  omega
 | n+1,o,a=>by
  simp only[JS];have e:(ZNR (QP N o).ks a).1=(QU Mea.l (QP N o).ks (a-1)).1:=rfl;have e2:(ZNR (QP N o).ks a).2=(QU Mea.l (QP N o).ks (a-1)).2+1:=rfl;rw[e,e2,Zci q N n]
  rw[show (QU Mea.l (QP N o).ks (a-1)).2+1-1=(QU Mea.l (QP N o).ks (a-1)).2 by omega]
theorem Zvi{b:Nat}{N:ZO}(hN:GoodN N)(hR:Rd st la (b+5) N){r:Ro}(h:Rt N r s){c:UInt8}(hi:NthB QB s n i c)(hs:s.length<=100000):
 S Tb Jy [.ptr la (b+5) 0 0 0,r.av,.int .i64 ((n:Int)+1)] st=some (.tup [.int .i64 ((i:Int)+1),.int .i64 0],st):=by
 have hm:=h.m hN;have hil:=(List.getElem?_eq_some_iff.1 hi.get).1;have hcnt:=YH (p:=QB) hi.get;rw[if_pos hi.is,hi.cnt]at hcnt;have hct:=YO (p:=QB) (s:=s) (i:=i+1) (j:=s.length) hil;rw[hcnt,List.take_length]at hct;have hcl:=List.countP_le_length (p:=QB) (l:=s)
 have hmr:r.m.l=s.countP QB:=by rw[hm];rfl
 have hmb:r.m.b=s.length:=by rw[hm];rfl
 obtain⟨hz,x,x1,x2,x3,x4⟩:=h.rt.nz (by rw[hmb];omega)
 have htx:ZGC N r=s:=h.tx;unfold ZGC at htx;rw[if_neg hz]at htx
 obtain⟨pre,leaf,post,t1,t2,t3,t4,t5⟩:=ZTd Zcb comp_b hN r.h r.at_ x (n:Int) x1 x3 (by omega) (by rw[x4,hmr];omega)
 rw[htx]at t1
 have ep:∀l:B8,(JQ l).l=l.countP QB:=fun l=>rfl
 have el:∀l:B8,(JQ l).b=l.length:=fun l=>rfl
 rw[ep]at t2 t3 t4;rw[ep]at t4;rw[el]at t5;subst t1
 have hlen:(pre++leaf++post).length=pre.length+leaf.length+post.length:=by simp[Nat.add_assoc]
 obtain⟨i',rfl,hi'⟩:=hi.inner (by omega) (by rw[List.countP_append];omega)
 have hil':=(List.getElem?_eq_some_iff.1 hi'.get).1
 have hg:=fun st=>ZuY hi' (by omega) st
 rw[show ((n-List.countP QB pre:Nat):Int)=(n:Int)-List.countP QB pre by omega]at hg
 have hsl:=Zci Mea.b N r.h r.at_ ((n:Int)+1)
 rw[show (n:Int)+1-1=n by omega,t2,t5]at hsl
 simp only at hsl
 refine QA Y (fun A hA=>?_)
 have hC:=fun L=>ZDx (hR.push hA (ro:=false) (L:=L)) h.rt
 have hO:=fun L=>Zru (g:=ZAS) (t:=(i':Int)+1) Zua hN (hR.push hA (ro:=false) (L:=L)) h.rt hz ((n:Int)+1) ⟨by omega,by omega,by omega⟩ (by rw[hsl];exact hg) (by rw[hsl];simp only;omega)
 rw[hsl]at hO
 simp only at hO
 have hn1:(n:Int)+1<=r.m.l:=by omega
 unfold Ro.av at *
 repeat'(first|refine ZE ?_|refine ZD ?_|refine ZG Y ?_|refine ZI Y Y ?_|refine ZQ Y Y Y Y ?_|refine Z9 Y ?_|refine Zi Y Y Y Y ?_|refine Zp Y Y ?_|refine ZB Y ?_|refine ZC ?_|(refine cm0 Y Y Y ?_ ?_<;>intro _<;>try omega)|refine ZF Y ?_|refine Zc Y Y Y ?_|refine ZA Y Y Y (hC _) ?_|refine ZA Y Y Y (hO _) ?_|refine ZH ?_|refine ZP ?_|refine ZL ?_)
 all_goals try first|contradiction|omega
 refine ZX hA (by simp) Y Y Y Y ?_
 rw[show ((pre.length+i':Nat):Int)+1=(pre.length:Int)+((i':Int)+1) by omega]
theorem ZpV{b:Nat}{N:ZO}(hN:GoodN N)(hR:Rd st la (b+5) N){r:Ro}(h:Rt N r s)(hs:s.length<=100000):
 S Tb Jy [.ptr la (b+5) 0 0 0,r.av,.int .i64 0] st=some (.tup [.int .i64 0,.int .i64 0],st):=by
 have hm:=h.m hN
 have hmr:r.m.l=s.countP QB:=by rw[hm];rfl
 refine QA Y (fun A hA=>?_)
 have hC:=fun L=>ZDx (hR.push hA (ro:=false) (L:=L)) h.rt
 unfold Ro.av at *
 repeat'(first|refine ZE ?_|refine ZD ?_|refine ZG Y ?_|refine ZI Y Y ?_|refine ZQ Y Y Y Y ?_|refine Z9 Y ?_|refine Zi Y Y Y Y ?_|refine ZB Y ?_|refine ZC ?_|(refine cm0 Y Y Y ?_ ?_<;>intro _<;>try omega)|refine ZU Y ?_|refine ZF Y ?_|refine Zc Y Y Y ?_|refine ZA Y Y Y (hC _) ?_|refine ZH ?_|refine ZP ?_|refine ZL ?_|refine ZW ?_)
 all_goals try first|contradiction|omega
 refine ZX hA (by simp) Y Y Y Y ?_
 rfl
end Go.Q15
