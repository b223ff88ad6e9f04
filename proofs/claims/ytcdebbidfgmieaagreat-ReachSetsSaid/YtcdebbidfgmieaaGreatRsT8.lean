/- A part of the proof: RH, RI, RJ, RK, M52, RL, S4, S5, S6, YX, W7, RN, RO, W8, RP, SA, YM, YN, PVa, PVb, PSg, PSh, PSi, RS, RQ, RT, RU. No condition. -/
import Derived.Test.YtcdebbidfgmieaaGreatRsT0
import Derived.Maps.RangeRun
import Derived.Test.YtcdebbidfgmieaaGreatRsT7
set_option linter.unusedVariables false
set_option linter.unusedSimpArgs false
set_option maxHeartbeats 8000000
set_option maxRecDepth 100000
namespace Go.Q15
open Go Go.QAbs
variable {r':AR}{a:Act}{ro:Bool}{c:Code}{e:Env}{f:FuncId}{A:List (Bool × List Blk)}{args caps cls:LV}{l:List Nat}{clock d i ip ix j la mx n ob ox rx ver wb:Nat}{x:Nd}{o:Oper}{s st:St}{t:Tr}
def Ext(N M:ZJ):Prop:=∀o x,lk N o=some x->lk M o=some x
theorem Ext.refl(N:ZJ):Ext N N:=fun _ _ h=>h
theorem Ext.trans{N M K:ZJ}(h:Ext N M)(g:Ext M K):Ext N K:=fun o x q=>g o x (h o x q)
theorem ZJM{N M:ZJ}(hN:GoodN N)(hs:Ext N M):∀n o x,lk N o=some x->x.h=n->Qd M n o=Qd N n o:=by
 intro n
 induction n with
 | zero=>intro o x hx hh;rw[Qd,Qd,hx,hs _ _ hx]
 | succ n ih =>
  intro o x hx hh;rw[Qd,Qd,hx,hs _ _ hx];simp only[Option.map_some,Option.getD_some];have hk:=(hN o x hx).2
  have key:∀l:List Kid,(∀k∈l,k∈x.ks)->(l.flatMap fun k=>Qd M n k.at_)=l.flatMap fun k=>Qd N n k.at_:=by
   intro l
   induction l with
   | nil=>intro _;rfl
   | cons k l ih2 =>
    intro h
    obtain⟨_,y,y1,y2,_⟩:=hk k (h k (by simp))
    rw[List.flatMap_cons,List.flatMap_cons,ih k.at_ y y1 (by omega),ih2 (fun q hq=>h q (by simp[hq]))]
  exact key _ fun _ h=>h
theorem ZVm{r:AR}(ho:AROk r)(hn:0<r.n)(x:Nd):Ext r.nodes (r.add x).nodes:=fun o y h=>by
 rw[ZIv ho hn,if_neg]
 ·exact h
 ·intro q;rw[q,ho.new hn]at h;simp at h
def ZR7(N:ZJ)(x:Nd):Prop:=∀k∈x.ks,∃y,lk N k.at_=some y/\NdOk y/\y.h+1=x.h/\y.mea=k.m
theorem Zmu{r:AR}(ho:AROk r)(hn:0<r.n)(hg:GoodN r.nodes)(hx:NdOk x)(hk:ZR7 r.nodes x)(h0:∀k∈x.ks,k.at_≠0):GoodN (r.add x).nodes:=by
 intro o y h;have hE:=ZVm ho hn x;rw[ZIv ho hn]at h
 split at h
 ·simp only[oJ]at h
  subst h
  refine⟨hx.copy,fun k hkk=>?_⟩
  have hkk':k∈x.ks:=hkk;obtain⟨z,z1,z2,z3,z4⟩:=hk k hkk';exact⟨h0 k hkk',z,hE _ _ z1,z3,z4⟩
 ·obtain⟨h1,h2⟩:=hg o y h
  refine⟨h1,fun k hkk=>?_⟩
  obtain⟨g0,z,z1,z2,z3⟩:=h2 k hkk;exact⟨g0,z,hE _ _ z1,z2,z3⟩
theorem AROk.hnd{r:AR}(h:AROk r){o:Nat}(hx:lk r.nodes o=some x):ZBv o/\o≠0:=by
 obtain⟨s,g,h1,h2,h3,h4⟩:=h.key o x hx;obtain⟨g',g1,g2,g3⟩:=h.gen s h2;rw[h4]at g1;simp only[oJ]at g1
 have:=h.n16
 have:=h.most
 unfold ZBv;omega
def ZOo(ρ:Nat->Ro)(k h:Nat):Nat->Ro:=fun i=>if i=k then (ρ i).wr h else ρ i
inductive RunOk:List It->AR->(Nat->Ro)->AR->(Nat->Ro)->List Nat->Prop
 | nil {r ρ}:RunOk [] r ρ r ρ []
 | cons {it its r ρ r' ρ' hs} (hn:0<r.n) (hx:NdOk (Q5 ρ it.c)) (hk:ZR7 r.nodes (Q5 ρ it.c)) (h:RunOk its (r.add (Q5 ρ it.c)) (ZOo ρ it.rx r.next) r' ρ' hs):RunOk (it::its) r ρ r' ρ' (r.next::hs)
theorem RunOk.append{i1 i2:List It}{r r1 r2:AR}{ρ ρ1 ρ2:Nat->Ro}{h1 h2:List Nat}(h:RunOk i1 r ρ r1 ρ1 h1)(g:RunOk i2 r1 ρ1 r2 ρ2 h2):RunOk (i1++i2) r ρ r2 ρ2 (h1++h2):=by
 induction h with
 | nil=>exact g
 | cons hn hx hk h ih=>exact .cons hn hx hk (ih g)
namespace Tr
mutual
def wr:Tr->AR->AR × Ro × List Nat
 | .mk o h m s k,r =>
  if o≠0 then (r,⟨o,h,m⟩,[])
  else if h=0 then (r.add ⟨0,s,none⟩,⟨r.next,0,Yj s⟩,[r.next])
  else ((wrO k r).1.add ⟨h,[],some (wrO k r).2.1⟩,⟨(wrO k r).1.next,h,QF ((wrO k r).2.1.map Kid.m)⟩,(wrO k r).2.2++[(wrO k r).1.next])
def wrO:Option (List Tr)->AR->AR × List Kid × List Nat
 | none,r=>(r,[],[])
 | some l,r=>wrL l r
def wrL:List Tr->AR->AR × List Kid × List Nat
 | [],r=>(r,[],[])
 | t::l,r=>((wrL l (t.wr r).1).1,(t.wr r).2.1.kid::(wrL l (t.wr r).1).2.1,(t.wr r).2.2++(wrL l (t.wr r).1).2.2)
end
end Tr
structure WrB(r:AR)(c:Nat)(r':AR)(hs:List Nat):Prop where
 ok:AROk r'
 good:GoodN r'.nodes
 ext:Ext r.nodes r'.nodes
 n:r'.n+c=r.n
 len:hs.length=c
 new:∀h∈hs,lk r.nodes h=none
 all:∀h x,lk r'.nodes h=some x->lk r.nodes h=some x\/h∈hs
 has:∀h∈hs,∃x,lk r'.nodes h=some x
 nodup:hs.Nodup
 frees:r'.frees=r.frees
 stale:r'.stale=r.stale
 slots:r'.slots=r.slots
 allocs:r'.allocs=r.allocs+c
 nl:r'.nodes.length=r.nodes.length+c
theorem WrB.refl{r:AR}(ho:AROk r)(hg:GoodN r.nodes):WrB r 0 r [] :=
 ⟨ho,hg,.refl _,by simp,rfl,fun h q=>by simp at q,fun h x q=>.inl q,fun h q=>by simp at q,by simp,rfl,rfl,rfl,by simp,by simp⟩
theorem WrB.trans{r r1 r2:AR}{c d:Nat}{h1 h2:List Nat}(h:WrB r c r1 h1)(g:WrB r1 d r2 h2):WrB r (c+d) r2 (h1++h2):=by
 refine⟨g.ok,g.good,h.ext.trans g.ext,by have:=h.n;have:=g.n;omega,by rw[lL,h.len,g.len],fun o ho=>?_,fun o x ho=>?_,fun o ho=>?_,?_,g.frees.trans h.frees,g.stale.trans h.stale,g.slots.trans h.slots,by rw[g.allocs,h.allocs];omega,by rw[g.nl,h.nl];omega⟩
 ·rcases List.mem_append.1 ho with q|q
  ·exact h.new o q
  ·cases hk:lk r.nodes o with
   | none=>rfl
   | some x=>have:=g.new o q;rw[h.ext _ _ hk]at this;simp at this
 ·rcases g.all o x ho with q|q
  ·rcases h.all o x q with w|w
   ·exact .inl w
   ·exact .inr (by simp[w])
  ·exact .inr (by simp[q])
 ·rcases List.mem_append.1 ho with q|q
  ·obtain⟨x,hx⟩:=h.has o q
   exact⟨x,g.ext _ _ hx⟩
  ·exact g.has o q
 ·rw[List.nodup_append]
  refine⟨h.nodup,g.nodup,fun x hx y hy e=>?_⟩
  subst e;obtain⟨z,hz⟩:=h.has x hx;rw[g.new x hy]at hz
  simp at hz
theorem WrB.one{r:AR}(ho:AROk r)(hn:0<r.n)(hg:GoodN r.nodes){x:Nd}(hx:NdOk x)(hk:ZR7 r.nodes x)(h0:∀k∈x.ks,k.at_≠0):WrB r 1 (r.add x) [r.next]:=by
 refine⟨ho.add hn x,Zmu ho hn hg hx hk h0,ZVm ho hn x,?_,rfl,fun o q=>?_,fun o y q=>?_,fun o q=>?_,by simp,rfl,rfl,rfl,rfl,by simp[AR.add,AR.alloc]⟩
 ·show r.n-1+1=r.n;omega
 ·simp only[List.mem_singleton]at q;subst q;exact ho.new hn
 ·rw[ZIv ho hn]at q
  split at q
  ·rename_i e;exact .inr (by simp[e])
  ·exact .inl q
 ·simp only[List.mem_singleton]at q
  exact⟨x.copy,by rw[ZIv ho hn,if_pos q]⟩
structure WrOk(N:ZJ)(t:Tr)(r':AR)(ro:Ro):Prop where
 rm:ro.m=t.mea
 rh:ro.h=t.h
 live:∃y,lk r'.nodes ro.at_=some y/\NdOk y/\y.h=t.h/\y.mea=t.mea
 txt:Qd r'.nodes t.h ro.at_=t.txt N
def Exec(N:ZJ)(t:Tr):Prop:=∀(r:AR),AROk r->GoodN r.nodes->Ext N r.nodes->t.cnt<=r.n->∀(rx:Nat) (its:List It) (R:List (Nat × Ro)) (ρ:Nat->Ro),AddT t rx its R->(∀p∈R,ρ p.1=p.2)->(R.map Prod.fst).Nodup ->
 ∃ρ',RunOk its r ρ (t.wr r).1 ρ' (t.wr r).2.2/\ρ' rx=(t.wr r).2.1/\(∀k,k∉R.map Prod.fst->ρ' k=ρ k)/\WrB r t.cnt (t.wr r).1 (t.wr r).2.2/\WrOk N t (t.wr r).1 (t.wr r).2.1
structure WrLs(N:ZJ)(l:List Tr)(h:Nat)(r':AR)(ks:List Kid):Prop where
 len:ks.length=l.length
 m:ks.map Kid.m=l.map Tr.mea
 ok:∀k∈ks,KidOk h k/\k.at_≠0/\∃y,lk r'.nodes k.at_=some y/\NdOk y/\y.h=h/\y.mea=k.m
 txt:(ks.flatMap fun k=>Qd r'.nodes h k.at_)=Tr.txtL N l
theorem ZrP{N:ZJ}(hN:GoodN N){h:Nat}:∀(l:List Tr),(∀u∈l,Val N u/\u.h=h/\Big u)->(∀u∈l,Exec N u)->∀(r:AR),AROk r->GoodN r.nodes->Ext N r.nodes->Tr.cntL l<=r.n->∀(rs:List Nat) (its:List It) (R:List (Nat × Ro)) (ρ:Nat->Ro),AddL l rs its R->(∀p∈R,ρ p.1=p.2)->(R.map Prod.fst).Nodup ->
 ∃ρ',RunOk its r ρ (Tr.wrL l r).1 ρ' (Tr.wrL l r).2.2/\(rs.map fun k=>(ρ' k).kid)=(Tr.wrL l r).2.1/\(∀k,k∉R.map Prod.fst->ρ' k=ρ k)/\WrB r (Tr.cntL l) (Tr.wrL l r).1 (Tr.wrL l r).2.2/\WrLs N l h (Tr.wrL l r).1 (Tr.wrL l r).2.1:=by
 intro l
 induction l with
 | nil =>
  intro _ _ r ho hg hE hc rs its R ρ ha hR hnd
  cases ha
  exact⟨ρ,.nil,rfl,fun _ _=>rfl,.refl ho hg,⟨rfl,rfl,fun k hk=>by simp[Tr.wrL]at hk,rfl⟩⟩
 | cons t l ih =>
  intro hv hx r ho hg hE hc rs its R ρ ha hR hnd
  cases ha with
  | @cons _ _ rx rs i1 i2 R1 R2 ht hl =>
   rw[Tr.cntL]at hc;rw[List.map_append,List.nodup_append]at hnd;obtain⟨nd1,nd2,nd3⟩:=hnd
   obtain⟨ρ1,a1,a2,a3,a4,a5⟩:=hx t (by simp) r ho hg hE (by omega) rx i1 R1 ρ ht (fun p hp=>hR p (by simp[hp])) nd1
   have hn1:=a4.n
   have hd:∀p∈R2,p.1∉R1.map Prod.fst:=fun p hp q=>nd3 _ q _ (List.mem_map.2 ⟨p,hp,rfl⟩) rfl
   obtain⟨ρ2,b1,b2,b3,b4,b5⟩:=ih (fun u hu=>hv u (by simp[hu])) (fun u hu=>hx u (by simp[hu])) _ a4.ok a4.good (hE.trans a4.ext) (by omega) rs i2 R2 ρ1 hl (fun p hp=>by rw[a3 _ (hd p hp)];exact hR p (by simp[hp])) nd2
   obtain⟨rr,hrr,_,_⟩:=ht.root
   have hrx:rx∉R2.map Prod.fst:=fun q=>nd3 rx (List.mem_map.2 ⟨_,hrr,rfl⟩) rx q rfl
   obtain⟨v1,v2,v3⟩:=hv t (by simp)
   refine⟨ρ2,a1.append b1,?_,?_,?_,?_⟩
   ·rw[jC,b3 rx hrx,a2,b2];rfl
   ·intro k hk
    rw[List.map_append,List.mem_append,not_or]at hk;rw[b3 k hk.2,a3 k hk.1]
   ·rw[Tr.cntL];exact a4.trans b4
   ·obtain⟨y,y1,y2,y3,y4⟩:=a5.live
    have hh:=a4.ok.hnd y1;have hkm:((t.wr r).2.1.kid).m=t.mea:=a5.rm;have hka:((t.wr r).2.1.kid).at_=(t.wr r).2.1.at_:=rfl
    refine⟨by show _+1=_;rw[b5.len];rfl,?_,?_,?_⟩
    ·show ((t.wr r).2.1.kid).m::_=_
     rw[hkm,b5.m];rfl
    ·intro k hk
     rcases List.mem_cons.1 hk with rfl|q
     ·refine⟨?_,hh.2,y,b4.ext _ _ y1,y2,by rw[y3,v2],by rw[y4];exact hkm.symm⟩
      have hs:=v1.size hN v3;have hb:=v1.mea_ok.1
      have:=y2.kid (a:=(t.wr r).2.1.at_) (by rw[y3,y4,hb];exact hs) hh.1
      rw[y3,v2,y4,<- a5.rm]at this;exact this
     ·exact b5.ok k q
    ·show Qd (Tr.wrL l (t.wr r).1).1.nodes h (t.wr r).2.1.at_++((Tr.wrL l (t.wr r).1).2.1.flatMap fun k=>Qd (Tr.wrL l (t.wr r).1).1.nodes h k.at_)=_
     rw[b5.txt,Tr.txtL,<- a5.txt,v2]
     congr 1
     exact ZJM a4.good b4.ext h _ y y1 (by rw[y3,v2])
theorem exec_ok{N:ZJ}(hN:GoodN N)(hv:Val N t):t.bytes<=65536->Exec N t:=by
 induction hv with
 | @kept o h m k x h0 hx hok hh hm hk =>
  intro _ r ho hg hE hc rx its R ρ ha hR hnd
  have e:(Tr.mk o h m [] k).wr r=(r,⟨o,h,m⟩,[]):=by rw[Tr.wr,if_pos h0]
  have ec:(Tr.mk o h m [] k).cnt=0:=by rw[Tr.cnt,Tr.cntO_getD,hk,if_neg h0];rfl
  rw[e,ec]
  cases ha with
  | kept _ =>
   refine⟨ρ,.nil,hR (rx,⟨o,h,m⟩) (by simp),fun _ _=>rfl,.refl ho hg,⟨(ZOn h0).symm,rfl,⟨x,hE _ _ hx,hok,hh,by rw[ZOn h0];exact hm⟩,?_⟩⟩
   show Qd r.nodes h o=_
   rw[ZJM hN hE h o x hx hh,Tr.txt,if_neg h0,Tr.txtO_getD,hk]
   simp[Tr.txtL]
  | leaf=>exact absurd Y h0
  | inner=>exact absurd Y h0
 | @leaf s k h1 h2 hk =>
  intro _ r ho hg hE hc rx its R ρ ha hR hnd
  have e:(Tr.mk 0 0 .zero s k).wr r=(r.add ⟨0,s,none⟩,⟨r.next,0,Yj s⟩,[r.next]):=by rw[Tr.wr];simp
  have ec:(Tr.mk 0 0 .zero s k).cnt=1:=by rw[Tr.cnt,Tr.cntO_getD,hk];rfl
  rw[ec]at hc;rw[e,ec];have hx:NdOk ⟨0,s,none⟩:=.inl ⟨rfl,h1,h2,rfl⟩
  cases ha with
  | kept h0=>exact absurd Y h0
  | leaf =>
   have hρ:ρ rx=⟨0,0,Yj s⟩:=hR (rx,⟨0,0,Yj s⟩) (by simp)
   refine⟨ZOo ρ rx r.next,.cons (by omega) hx (fun k hk=>by simp[Q5,Nd.ks]at hk) .nil,?_,fun k hk=>?_,.one ho (by omega) hg hx (fun k hk=>by simp[Nd.ks]at hk) (fun k hk=>by simp[Nd.ks]at hk),⟨(ZOm s k).symm,rfl,⟨(⟨0,s,none⟩:Nd).copy,?_,hx.copy,rfl,?_⟩,?_⟩⟩
   ·simp only[ZOo,if_true,hρ];rfl
   ·simp only[jC,List.map_nil,List.mem_singleton]at hk
    simp only[ZOo,if_neg hk]
   ·rw[ZIv ho (by omega),if_pos rfl]
   ·rw[ZOm];rfl
   ·show Qd _ 0 r.next=_
    rw[Qd,ZIv ho (by omega),if_pos rfl,Tr.txt,if_pos rfl,Tr.txtO_getD,hk]
    simp[Tr.txtL,Nd.copy]
 | @inner h l hh h2 h4 hl hb hv ih =>
  intro hb2 r ho hg hE hc rx its R ρ ha hR hnd
  have eb:(Tr.mk 0 (h+1) .zero [] (some l)).bytes=Tr.bytesL l:=by rw[Tr.bytes,Tr.bytesO];simp[Mea.zero]
  have hbs:∀u∈l,u.bytes<=65536:=fun u hu=>by
   obtain⟨i,hi,rfl⟩:=List.getElem_of_mem hu
   have h3:Tr.bytesL l=Tr.bytesL (l.take i)+(l[i].bytes+Tr.bytesL (l.drop (i+1))):=by
    conv=>lhs;rw[<- List.take_append_drop (i+1) l,ZZ (jE hi),Tr.bytesL_append,Tr.bytesL_append]
    simp[Tr.bytesL];omega
   have n1:=Tr.bytesL_nonneg (l:=l.take i) (fun t ht=>by have:=(hv t (List.mem_of_mem_take ht)).pos.2;omega)
   have n2:=Tr.bytesL_nonneg (l:=l.drop (i+1)) (fun t ht=>by have:=(hv t (List.mem_of_mem_drop ht)).pos.2;omega)
   omega
  have ec:(Tr.mk 0 (h+1) .zero [] (some l)).cnt=Tr.cntL l+1:=by rw[Tr.cnt,Tr.cntO];simp;omega
  rw[ec]at hc
  have hbl:(QF (l.map Tr.mea)).b=Tr.bytesL l:=Ziy l fun u hu=>(hv u hu).mea_ok.1
  have e:(Tr.mk 0 (h+1) .zero [] (some l)).wr r=((Tr.wrL l r).1.add ⟨h+1,[],some (Tr.wrL l r).2.1⟩,⟨(Tr.wrL l r).1.next,h+1,QF ((Tr.wrL l r).2.1.map Kid.m)⟩,(Tr.wrL l r).2.2++[(Tr.wrL l r).1.next]):=by
   rw[Tr.wr];simp[Tr.wrO]
  rw[e,ec]
  cases ha with
  | kept h0=>exact absurd Y h0
  | @inner _ _ _ rs i1 R1 hal hn1 hx1 =>
   obtain⟨ρ1,a1,a2,a3,a4,a5⟩:=ZrP hN l (fun u hu=>⟨hv u hu,hl u hu,fun q=>hb u hu (by rw[<- hl u hu];exact q)⟩) (fun u hu=>ih u hu (hbs u hu)) r ho hg hE (by omega) rs i1 R1 ρ hal (fun p hp=>hR p (by simp[hp])) hn1
   have hρ:ρ1 rx=⟨0,h+1,QF (l.map Tr.mea)⟩:=by rw[a3 rx hx1];exact hR (rx,⟨0,h+1,QF (l.map Tr.mea)⟩) (by simp)
   have hn:0<(Tr.wrL l r).1.n:=by have:=a4.n;omega
   generalize hks:(Tr.wrL l r).2.1=ks at *
   generalize (Tr.wrL l r).1=r1 at *
   have hx:NdOk ⟨h+1,[],some ks⟩:=.inr ⟨h,ks,rfl,by omega,by have:=a5.len;omega,by have:=a5.len;omega,fun k hk=>(a5.ok k hk).1,by rw[a5.m,hbl];omega⟩
   have hki:ZR7 r1.nodes ⟨h+1,[],some ks⟩:=fun k hk=>by
    obtain⟨_,_,y,y1,y2,y3,y4⟩:=a5.ok k hk
    exact⟨y,y1,y2,by show y.h+1=h+1;omega,y4⟩
   have hnd2:Q5 ρ1 (.inn (h+1) rs)=⟨h+1,[],some ks⟩:=by rw[Q5,a2]
   have hrun:RunOk [⟨rx,.inn (h+1) rs⟩] r1 ρ1 (r1.add ⟨h+1,[],some ks⟩) (ZOo ρ1 rx r1.next) [r1.next]:=by
    have:=RunOk.cons (it:=⟨rx,.inn (h+1) rs⟩) (ρ:=ρ1) hn (by rw[hnd2];exact hx) (by rw[hnd2];exact hki) .nil
    rw[hnd2]at this;exact this
   refine⟨ZOo ρ1 rx r1.next,a1.append hrun,?_,fun k hk=>?_,a4.trans (.one a4.ok hn a4.good hx hki (fun k hk=>(a5.ok k hk).2.1)),⟨?_,rfl,⟨(⟨h+1,[],some ks⟩:Nd).copy,?_,hx.copy,rfl,?_⟩,?_⟩⟩
   ·simp only[ZOo,if_true,hρ,Ro.wr,a5.m]
   ·rw[List.map_append,List.mem_append,not_or]at hk
    have:k≠rx:=fun q=>hk.2 (by simp[q])
    simp only[ZOo,if_neg this];exact a3 k hk.1
   ·rw[ZfV]
    show QF (ks.map Kid.m)=_
    rw[a5.m]
   ·rw[ZIv a4.ok hn,if_pos rfl]
   ·rw[ZfV,<- a5.m];rfl
   ·show Qd _ (h+1) r1.next=_
    rw[Qd,ZIv a4.ok hn,if_pos rfl,Tr.txt,if_pos rfl,Tr.txtO,<- a5.txt]
    show (ks.flatMap fun k=>Qd (r1.add _).nodes h k.at_)=_
    have key:∀m:List Kid,(∀k∈m,k∈ks)->(m.flatMap fun k=>Qd (r1.add ⟨h+1,[],some ks⟩).nodes h k.at_)=m.flatMap fun k=>Qd r1.nodes h k.at_:=by
     intro m
     induction m with
     | nil=>intro _;rfl
     | cons k m ih2 =>
      intro q
      obtain⟨_,_,y,y1,y2,y3,y4⟩:=a5.ok k (q k (by simp))
      rw[List.flatMap_cons,List.flatMap_cons,ZJM a4.good (ZVm a4.ok hn _) h k.at_ y y1 y3,ih2 (fun w hw=>q w (by simp[hw]))]
    exact key ks fun _ h=>h
theorem ClsOk.get{F:List (Nat × Blk)}{cs:LV}{is:List It}(h:ClsOk n ip F cs is):∀ {j:Nat} {it:It},is[j]?=some it->∃c,cs[j]?=some c/\ClOk n ip F c it:=by
 induction h with
 | nil=>intro j it hj;simp at hj
 | cons hc ht ih =>
  intro j it hj
  cases j with
  | zero =>
   simp only[List.getElem?_cons_zero,oJ]at hj;subst hj;exact⟨_,rfl,hc⟩
  | succ j=>exact ih hj
def TdOk(st:St)(n tx ver j:Nat)(cls:LV)(td:AV):Prop:=(cls=[]/\td=.nils)\/(cls≠[]/\td=.ref n tx ver j (cls.length-j)/\st.get n tx=some (.arr 1 ver cls))
structure PenS(st:St)(n ip tx ver la b:Nat)(cls:LV)(its:List It)(F:List (Nat × Blk))(keys:List Nat)(rx:Nat)(ρ:Nat->Ro)(j:Nat):Prop where
 wr:st.wr n
 pen:∃td,st.get n ip=some (.arr 3 0 [.agg [.ptr la (b+5) 0 0 0,td,.ptr n rx 0 0 0]])/\TdOk st n tx ver j cls td
 cl:ClsOk n ip F cls its
 fx:∀p∈F,st.get n p.1=some p.2
 rts:∀k∈keys,st.get n k=some (.arr 5 0 [(ρ k).av])
 key:∀it∈its,it.rx∈keys/\∀k∈Ziz it.c,k∈keys
 rk:rx∈keys
 s1:∀k∈keys,k≠ip/\k≠tx
 s2:tx≠ip
 s3:∀p∈F,p.1∉keys/\p.1≠ip/\p.1≠tx
 ar:∀i,i=ip\/(cls≠[]/\i=tx)\/i∈keys\/(∃p∈F,i=p.1)->¬ (n=la/\b<=i/\i<=b+5)
 len:cls.length<1000000
 jl:j<=cls.length
theorem Zqc{tx b:Nat}{its:List It}{F:List (Nat × Blk)}{keys:List Nat}{ρ:Nat->Ro}(h:PenS st n ip tx ver la b cls its F keys rx ρ j)(hj:j=cls.length):S Tb ZBV [.ptr n ip 0 0 0] st=some (.tup [(ρ rx).av,.int .i64 0],st):=by
 obtain⟨td,h1,h2⟩:=h.pen;have h3:=h.rts rx h.rk
 refine QN Y (fun A hA=>?_)
 have g1:=fun L=>ZS hA (ro:=false) (L:=L) h1
 have g3:=fun L=>ZS hA (ro:=false) (L:=L) h3
 unfold Ro.av at g3 ⊢
 rcases h2 with⟨_,rfl⟩|⟨_,rfl,_⟩
 all_goals repeat'(first|refine ZE ?_|refine ZD ?_|refine ZG Y ?_|refine ZV Y Y ?_|refine ZB Y ?_|refine ZC ?_|refine Z7 Y Y ?_|refine Jp Y ?_|refine J8 Y ?_|(refine cm0 Y Y Y ?_ ?_<;>intro _<;>try omega)|refine ZH Y ?_|refine JN Y Y Y Y ?_|refine Zi Y Y Y ?_|refine Zv Y Y Y Y Y Y ?_|refine QB Y (g1 _) Y Y ?_|refine QB Y (g3 _) Y Y ?_|refine ZI ?_|refine ZP ?_|refine ZO ?_)
 all_goals try omega
 all_goals refine ZAA hA (by simp) Y Y Y Y Y ?_
 all_goals rfl
def ZGC(st:St)(n ip tx ver la b:Nat)(len:Nat)(rx:Nat)(r':AR)(k:Nat)(ro:Ro)(j:Nat):St :=
 ((Qg st la b r').upd n k (.arr 5 0 [ro.av])).upd n ip (.arr 3 0 [.agg [.ptr la (b+5) 0 0 0,.ref n tx ver (j+1) (len-j-1),.ptr n rx 0 0 0]])
theorem PenS.step{tx b:Nat}{its:List It}{F:List (Nat × Blk)}{keys:List Nat}{ρ:Nat->Ro}(h:PenS st n ip tx ver la b cls its F keys rx ρ j){r:AR}(hA:Has st la b r)(ho:AROk r)(hn:0<r.n){it:It}(hj:its[j]?=some it)
 (hx:NdOk (Q5 ρ it.c)) (hk:ZR7 r.nodes (Q5 ρ it.c)) :
 S Tb Xm [.ptr n ip 0 0 0] st=some (.tup [.int .u64 r.next,.bool (decide (cls.length=j+1)),.int .i64 0],ZGC st n ip tx ver la b cls.length rx (r.add (Q5 ρ it.c)) it.rx ((ρ it.rx).wr r.next) j) /\
 PenS (ZGC st n ip tx ver la b cls.length rx (r.add (Q5 ρ it.c)) it.rx ((ρ it.rx).wr r.next) j) n ip tx ver la b cls its F keys rx (ZOo ρ it.rx r.next) (j+1) /\
 Has (ZGC st n ip tx ver la b cls.length rx (r.add (Q5 ρ it.c)) it.rx ((ρ it.rx).wr r.next) j) la b (r.add (Q5 ρ it.c)):=by
 obtain⟨td,h1,h2⟩:=h.pen;obtain⟨cl,c1,c2⟩:=h.cl.get hj;have hjl:=(List.getElem?_eq_some_iff.1 c1).1;have hm:=jM hj;obtain⟨k1,k2⟩:=h.key it hm;have hrx:=h.rts it.rx k1;have hrp:=h.s1 it.rx k1
 have hne:cls≠[]:=fun q=>by rw[q]at c1;simp at c1
 rcases h2 with⟨q,_⟩|⟨_,rfl,h3⟩
 ·exact absurd q hne
 have hS:=Zqb (it:=it) (ρ:=ρ) (b0:=0) (b1:=0) (b2:=0) (cv:=.nils) h3 c1 c2 h.len h1 h.fx (fun k hk=>h.rts k (k2 k hk)) hrx hA ho hn hx hk h.wr (fun i hi=>h.ar i (by
  rcases hi with rfl|rfl|rfl|q
  ·exact .inr (.inr (.inl k1))
  ·exact .inl Y
  ·exact .inr (.inl ⟨hne,rfl⟩)
  ·exact .inr (.inr (.inr q)))) ⟨hrp.1,hrp.2,h.s2⟩
 have a1:∀i,¬ (n=la/\b<=i/\i<=b+5)->(Qg st la b (r.add (Q5 ρ it.c))).get n i=st.get n i:=fun i hi=>hA.out _ hi
 have g1:∀l' i',((Qg st la b (r.add (Q5 ρ it.c))).upd n it.rx (.arr 5 0 [((ρ it.rx).wr r.next).av])).get l' i'=if l'=n/\i'=it.rx then some (.arr 5 0 [((ρ it.rx).wr r.next).av]) else (Qg st la b (r.add (Q5 ρ it.c))).get l' i' :=
  fun l' i'=>St.get_upd ((a1 _ (h.ar _ (.inr (.inr (.inl k1))))).trans hrx) rfl
 have hp0:((Qg st la b (r.add (Q5 ρ it.c))).upd n it.rx (.arr 5 0 [((ρ it.rx).wr r.next).av])).get n ip=_:=(g1 n ip).trans ((if_neg (fun q=>hrp.1 q.2.symm)).trans ((a1 _ (h.ar _ (.inl rfl))).trans h1))
 have g2:∀l' i',(ZGC st n ip tx ver la b cls.length rx (r.add (Q5 ρ it.c)) it.rx ((ρ it.rx).wr r.next) j).get l' i'=if l'=n/\i'=ip then some (.arr 3 0 [.agg [.ptr la (b+5) 0 0 0,.ref n tx ver (j+1) (cls.length-j-1),.ptr n rx 0 0 0]]) else if l'=n/\i'=it.rx then some (.arr 5 0 [((ρ it.rx).wr r.next).av]) else (Qg st la b (r.add (Q5 ρ it.c))).get l' i':=fun l' i'=>by
  rw[ZGC,St.get_upd hp0 rfl,g1]
 have hw1:(Qg st la b (r.add (Q5 ρ it.c))).wr n:=ZOW hA.cl.wr h.wr;have hwl:(Qg st la b (r.add (Q5 ρ it.c))).wr la:=(hA.put _).wr
 have hw2:∀ {l:Nat},(Qg st la b (r.add (Q5 ρ it.c))).wr l->(ZGC st n ip tx ver la b cls.length rx (r.add (Q5 ρ it.c)) it.rx ((ρ it.rx).wr r.next) j).wr l:=fun w=>St.wr_upd (St.wr_upd hw1 hw1) (St.wr_upd hw1 w)
 refine⟨hS,⟨hw2 hw1,⟨_,by rw[g2,if_pos ⟨rfl,rfl⟩,Nat.sub_sub],.inr ⟨hne,rfl,?_⟩⟩,h.cl,fun p hp=>?_,fun k hk=>?_,h.key,h.rk,h.s1,h.s2,h.s3,h.ar,h.len,hjl⟩,?_⟩
 ·rw[g2,if_neg (fun q=>h.s2 q.2),if_neg (fun q=>hrp.2 q.2.symm),a1 _ (h.ar _ (.inr (.inl ⟨hne,rfl⟩)))];exact h3
 ·obtain⟨q1,q2,q3⟩:=h.s3 p hp
  rw[g2,if_neg (fun q=>q2 q.2),if_neg (fun q=>q1 (by rw[q.2];exact k1)),a1 _ (h.ar _ (.inr (.inr (.inr ⟨p,hp,rfl⟩))))];exact h.fx p hp
 ·obtain⟨q1,q2⟩:=h.s1 k hk
  rw[g2,if_neg (fun q=>q1 q.2)]
  unfold ZOo
  by_cases e:k=it.rx
  ·subst e;rw[if_pos ⟨rfl,rfl⟩,if_pos rfl]
  ·rw[if_neg (fun q=>e q.2),if_neg e,a1 _ (h.ar _ (.inr (.inr (.inl hk))))];exact h.rts k hk
 ·have hP:=hA.put (r.add (Q5 ρ it.c))
  have n1:∀i,b<=i->i<=b+5->¬ (la=n/\i=ip)/\¬ (la=n/\i=it.rx):=fun i i1 i2=>⟨fun q=>h.ar ip (.inl rfl) ⟨q.1.symm,by omega,by omega⟩,fun q=>h.ar it.rx (.inr (.inr (.inl k1))) ⟨q.1.symm,by omega,by omega⟩⟩
  have gg:∀i,b<=i->i<=b+5->(ZGC st n ip tx ver la b cls.length rx (r.add (Q5 ρ it.c)) it.rx ((ρ it.rx).wr r.next) j).get la i=(Qg st la b (r.add (Q5 ρ it.c))).get la i:=fun i i1 i2=>by
   rw[g2,if_neg (n1 i i1 i2).1,if_neg (n1 i i1 i2).2]
  exact⟨hw2 hwl,(gg _ (by omega) (by omega)).trans hP.h0,(gg _ (by omega) (by omega)).trans hP.h1,(gg _ (by omega) (by omega)).trans hP.h2,(gg _ (by omega) (by omega)).trans hP.h3,(gg _ (by omega) (by omega)).trans hP.h4,(gg _ (by omega) (by omega)).trans hP.h5⟩
theorem ZE2{L:List Blk}{lv:Nat}{b:Blk}(T:List Blk)(h:St.get ⟨A,ro,L⟩ lv ix=some b):St.get ⟨A,ro,L++T⟩ lv ix=some b:=by
 unfold St.get at h ⊢
 simp only at h ⊢
 split
 ·rename_i q
  rw[if_pos q]at h;have h2:=(ZAW h).1;rw[jL (List.getElem?_eq_some_iff.1 h2).1];exact h
 ·rename_i q
  rw[if_neg q]at h;exact h
theorem HasR.app{L:List Blk}{b:Nat}{r:AR}(h:HasR ⟨A,ro,L⟩ la b r)(T:List Blk):HasR ⟨A,ro,L++T⟩ la b r :=
 ⟨ZE2 T h.h0,ZE2 T h.h1,ZE2 T h.h2,ZE2 T h.h3,ZE2 T h.h4,ZE2 T h.h5⟩
mutual
theorem AddT.keys:∀ {t:Tr} {rx:Nat} {its:List It} {R:List (Nat × Ro)},AddT t rx its R->rx∈R.map Prod.fst/\∀it∈its,it.rx∈R.map Prod.fst/\∀k∈Ziz it.c,k∈R.map Prod.fst
 | _,_,_,_,.kept h0=>⟨by simp,fun it h=>by simp at h⟩
 | _,_,_,_,.leaf=>⟨by simp,fun it h=>by simp only[List.mem_singleton]at h;subst h;exact⟨by simp,fun k hk=>by simp[Ziz]at hk⟩⟩
 | _,_,_,_,.inner hl hn hx=>by
  obtain⟨h1,h2⟩:=AddL.keys hl
  refine⟨by simp,fun it h=>?_⟩
  rcases List.mem_append.1 h with q|q
  ·obtain⟨a1,a2⟩:=h2 it q
   exact⟨by rw[List.map_append];exact List.mem_append_left _ a1,fun k hk=>by rw[List.map_append];exact List.mem_append_left _ (a2 k hk)⟩
  ·simp only[List.mem_singleton]at q
   subst q
   exact⟨by simp,fun k hk=>by rw[List.map_append];exact List.mem_append_left _ (h1 k hk)⟩
theorem AddL.keys:∀ {l:List Tr} {rs:List Nat} {its:List It} {R:List (Nat × Ro)},AddL l rs its R->(∀r∈rs,r∈R.map Prod.fst)/\∀it∈its,it.rx∈R.map Prod.fst/\∀k∈Ziz it.c,k∈R.map Prod.fst
 | _,_,_,_,.nil=>⟨fun r h=>by simp at h,fun it h=>by simp at h⟩
 | _,_,_,_,.cons ht hl=>by
  obtain⟨a1,a2⟩:=ht.keys;obtain⟨b1,b2⟩:=hl.keys
  refine⟨fun r h=>?_,fun it h=>?_⟩
  ·rw[List.map_append]
   rcases List.mem_cons.1 h with rfl|q
   ·exact List.mem_append_left _ a1
   ·exact List.mem_append_right _ (b1 r q)
  ·rw[List.map_append]
   rcases List.mem_append.1 h with q|q
   ·exact⟨List.mem_append_left _ (a2 it q).1,fun k hk=>List.mem_append_left _ ((a2 it q).2 k hk)⟩
   ·exact⟨List.mem_append_right _ (b2 it q).1,fun k hk=>List.mem_append_right _ ((b2 it q).2 k hk)⟩
end
def Zqd(R:List (Nat × Ro))(k:Nat):Ro:=((R.find? fun p=>p.1 == k).map Prod.snd).getD .zero
theorem ZfW:∀ {R:List (Nat × Ro)},(R.map Prod.fst).Nodup->∀p∈R,Zqd R p.1=p.2
 | [],_,p,hp=>by simp at hp
 | q::R,hn,p,hp=>by
  rw[jC,List.nodup_cons]at hn;unfold Zqd;rw[List.find?_cons]
  rcases List.mem_cons.1 hp with rfl|w
  ·simp
  ·have:q.1≠p.1:=fun e=>hn.1 (by rw[e];exact List.mem_map.2 ⟨p,w,rfl⟩)
   rw[show (q.1 == p.1)=false by simp[this]]
   exact ZfW hn.2 p w
def PI(t:Tr)(its:List It)(rx:Nat)(ρ:Nat->Ro):Prop:=(IsEmpty t/\its=[]/\ρ rx=.zero)\/(∃N,Val N t)/\∃R,AddT t rx its R/\(∀p∈R,ρ p.1=p.2)/\(R.map Prod.fst).Nodup
def nw(t:Tr):Nat:=if t.old=0/\t.h=0/\t.text=[] then 0 else t.cnt
theorem ZR8{N:ZJ}{t:Tr}(hv:Val N t):nw t=t.cnt:=by
 unfold nw
 cases hv with
 | kept h0=>rw[if_neg];simp[Tr.old,h0]
 | leaf h1=>rw[if_neg];rintro⟨_,_,q⟩;simp only[Tr.text]at q;rw[q]at h1;simp at h1
 | inner=>rw[if_neg];simp[Tr.h]
structure Begun(A:List (Bool × List Blk))(L L2:List Blk)(la b:Nat)(t:Tr)(tx ver:Nat)(cs:LV)(its:List It)(F:List (Nat × Blk))(keys:List Nat)(rx:Nat)(ρ:Nat->Ro):Prop where
 ps:PenS ⟨A,false,L2⟩ A.length (L.length+1) tx ver la b cs its F keys rx ρ 0
 len:L.length+2<=L2.length
 old:∀i,i<L.length->L2[i]?=L[i]?
 klo:∀k∈keys,L.length+2<=k
 flo:∀p∈F,L.length+2<=p.1
 tlo:cs≠[]->L.length+2<=tx
 pi:PI t its rx ρ
theorem ZlA{N:ZJ}{A:List (Bool × List Blk)}{L:List Blk}{la b:Nat}{r:AR}(hA:HasR ⟨A,false,L⟩ la b r)(hN:r.n<=r.blk.length)(h16:r.states.length<=16384)(h6:r.n<65536){t:Tr}(hv:Val r.nodes t)(hb:t.bytes<=65536)(hn:t.cnt<=r.n):
 ∃L2 tx ver cs its F keys rx ρ,S Tb XN [.ptr la (b+5) 0 0 0,t.av] ⟨A,false,L⟩=some (.tup [.ptr A.length (L.length+1) 0 0 0,.int .i64 0],⟨A,false,L2⟩)/\Begun A L L2 la b t tx ver cs its F keys rx ρ:=by
 have hCk:=fun T=>ZR0 (hA.app T).rd hv hb
 have hNw:=fun st=>Zp0 hv (by omega) st
 have hSt:=fun T=>ZfT (hA.app T) hN h16 h6
 unfold AR.statsAV at hSt;obtain⟨T,hT⟩:∃T:List Blk,T=[.arr 7 0 [t.av],.arr 3 0 [.agg [.ptr la (b+5) 0 0 0,.nils,.nilptr]]]:=⟨_,rfl⟩
 have hTl:T.length=2:=by rw[hT];rfl
 have hip:(L++T)[L.length+1]?=some (.arr 3 0 [.agg [.ptr la (b+5) 0 0 0,.nils,.nilptr]]):=by rw[Qj,hT];rfl
 have hP:Pen A (L++T) (L.length+1) (.ptr la (b+5) 0 0 0) .nils []:=⟨⟨_,hip⟩,.inl ⟨rfl,rfl⟩⟩
 obtain⟨L1,td1,rx,its,cs,R,F,hS,ha⟩:=ZrO hv hb hP (by simp;omega)
 obtain⟨⟨rp,p1⟩,p2⟩:=ha.pen;rw[lE]at p2;have hl1:=ha.frm.len;rw[lL,hTl]at hl1;have hlt1:L.length+1<L1.length:=(List.getElem?_eq_some_iff.1 p1).1
 have hkl:∀k∈R.map Prod.fst,L.length+2<=k:=fun k hk=>by
  obtain⟨p,hp,rfl⟩:=List.mem_map.1 hk
  have:=ha.rlo p hp
  rwa [lL,hTl]at this
 have hfl:∀p∈F,L.length+2<=p.1:=fun p hp=>by
  have:=ha.flo p hp
  rwa [lL,hTl]at this
 have hg:∀i,i≠L.length+1->∀B,(L1.set (L.length+1) B)[i]?=L1[i]?:=fun i hi B=>jS (fun q=>hi q.symm)
 obtain⟨q1,q2⟩:=ha.tr.keys
 have hbl:la=A.length->b+5<L.length:=fun e=>by
  have:=hA.h5
  subst e;rw[St.get_cur]at this;exact (List.getElem?_eq_some_iff.1 (ZAW this).1).1
 -- where the list lies
 obtain⟨tx,ver,t1,t2,t3⟩:∃tx ver,(cs=[]/\td1=.nils/\tx=L.length\/cs≠[]/\td1=.ref A.length tx ver 0 cs.length/\L1[tx]?=some (.arr 1 ver cs)/\L.length+2<=tx/\YZ (L.length+1) td1 tx)/\tx≠L.length+1/\(∀k,L.length+2<=k->¬ YZ (L.length+1) td1 k->k≠tx):=by
  rcases p2 with⟨e1,e2⟩|⟨tx,ver,e1,e2,e3,e4⟩
  ·exact⟨L.length,0,.inl ⟨e2,e1,rfl⟩,by omega,fun k hk _=>by omega⟩
  ·have hX:YZ (L.length+1) td1 tx:=.inr ⟨_,_,_,_,e1⟩
   refine⟨tx,ver,.inr ⟨e4,e1,e2,?_,hX⟩,e3,fun k hk hn q=>hn (by rw[q];exact hX)⟩
   rcases ha.frm.own tx hX with w|w
   ·rcases w with w|⟨_,_,_,_,w⟩
    ·exact absurd w e3
    ·simp at w
   ·rwa [lL,hTl]at w
 refine⟨L1.set (L.length+1) (.arr 3 0 [.agg [.ptr la (b+5) 0 0 0,td1,.ptr A.length rx 0 0 0]]),tx,ver,cs,its,F,R.map Prod.fst,rx,Zqd R,Xv Y ?_,⟨⟨by simp[St.wr],⟨td1,by rw[St.get_cur,List.getElem?_set_self hlt1];rfl,?_⟩,ha.cl,?_,?_,q2,q1,?_,t2,?_,?_,?_,Nat.zero_le _⟩,by rw[List.length_set];omega,?_,hkl,hfl,fun hc=>(by
  rcases t1 with⟨w,_⟩|⟨_,_,_,w,_⟩
  ·exact absurd w hc
  ·exact w),.inr ⟨⟨_,hv⟩,R,ha.tr,ZfW ha.nd,ha.nd⟩⟩⟩
 ·have e0:(⟨A,false,L⟩:St)=⟨A,false,L++[]⟩:=by rw[lN]
  rw[e0];rw[hT]at hS
  repeat'(first|refine YO Y (Z4 _) (QG _) Y Y ?_|refine YO Y Y Y Y Y ?_|refine Xb Y Y Y (Zo _) ?_|refine ZE ?_|refine ZD ?_|refine ZG Y ?_|refine ZV Y Y ?_|refine ZB Y ?_|refine ZC ?_|refine ZWd (agg:=false) Y Y ?_|refine Z7 Y Y ?_|(refine cm0 Y Y Y ?_ ?_<;>intro _<;>try omega)|(refine cm0 Y Y Y ?_ ?_<;>intro _<;>try omega)|refine ZH Y ?_|refine Zx Y Y Y ?_|refine ZA Y Y (by first|rfl|(simp only[lE,lN,lC,Ze,ZW,ZX];first|done|rfl)) (hCk _) ?_|refine ZA Y Y (by first|rfl|(simp only[lE,lN,lC,Ze,ZW,ZX];first|done|rfl)) (hNw _) ?_|refine ZA Y Y (by first|rfl|(simp only[lE,lN,lC,Ze,ZW,ZX];first|done|rfl)) (hSt _) ?_|refine ZA Y Y (by first|rfl|(simp only[lE,lN,lC,Ze,ZW,ZX];first|done|rfl)) (hS) ?_|refine ZI ?_)
  all_goals try omega
  refine JG p1 Y Y Y ?_ Y ?_
  ·simp only[ZY,QD,if_pos (Nat.lt_succ_self _)]
  repeat'(first|refine ZE ?_|refine ZD ?_|refine ZG Y ?_|refine ZB Y ?_|refine ZC ?_|refine ZP ?_|refine ZO ?_)
  refine (J9 (.inr Y) Y Y Y Y).trans ?_;rfl
 ·rcases t1 with⟨e1,e2,e3⟩|⟨e0,e1,e2,e3⟩
  ·exact .inl ⟨e1,e2⟩
  ·exact .inr ⟨e0,e1,by rw[St.get_cur,hg _ t2,e2];rfl⟩
 ·intro p hp
  obtain⟨f1,f2⟩:=ha.fx p hp;obtain⟨w,v,es,f3,f4⟩:=ha.fw p hp
  have:p.1≠L.length+1:=fun q=>f2 (.inl q)
  rw[St.get_cur,hg _ this,f1,f3];rfl
 ·intro k hk
  obtain⟨p,hp,rfl⟩:=List.mem_map.1 hk;obtain⟨f1,f2⟩:=ha.rts.get hp
  have:p.1≠L.length+1:=fun q=>f2 (.inl q)
  rw[St.get_cur,hg _ this,f1,ZfW ha.nd p hp];rfl
 ·intro k hk
  have h1:=hkl k hk;obtain⟨p,hp,rfl⟩:=List.mem_map.1 hk
  exact⟨by omega,t3 _ h1 (ha.rts.get hp).2⟩
 ·intro p hp
  obtain⟨f1,f2⟩:=ha.fx p hp;obtain⟨w,v,es,f3,f4⟩:=ha.fw p hp;have h1:=hfl p hp
  refine⟨fun q=>?_,by omega,t3 _ h1 f2⟩
  obtain⟨u,hu,e⟩:=List.mem_map.1 q;have f5:=(ha.rts.get hu).1;rw[e,f1,f3]at f5;simp only[oJ,Blk.arr.injEq]at f5;exact f4 f5.1
 ·intro i hi ⟨e1,e2,e3⟩
  have:=hbl e1.symm
  rcases hi with rfl|⟨c1,rfl⟩|q|⟨p,hp,rfl⟩
  ·omega
  ·rcases t1 with⟨w,_⟩|⟨_,_,_,w,_⟩
   ·exact c1 w
   ·omega
  ·have:=hkl i q;omega
  ·have:=hfl p hp;omega
 ·have h1:=ha.cl.len
  have h2:=ha.tr.cnt;omega
 ·intro i hi
  rw[hg i (by omega),ha.frm.old i (by rw[lL];omega) (fun q=>?_),jL hi]
  rcases q with q|⟨_,_,_,_,q⟩
  ·omega
  ·simp at q
theorem ZfX{A:List (Bool × List Blk)}{ro:Bool}{L:List Blk}{i:Nat}{b:Blk}(h:L[i]?=some b)(hv:vis (some b)=some b):St.get ⟨A,ro,L⟩ A.length i=some b:=by rw[St.get_cur,h,hv]
theorem ZlB{t:Tr}(ht:IsEmpty t)(st:St):S Tb ZAt [t.av] st=some (.int .i64 (0:Nat),st) :=
 ZR6 (c:=1) ht.ks (fun st=>ZDH t ht st) st
theorem ZhH{A:List (Bool × List Blk)}{L:List Blk}{la b:Nat}{r:AR}(hA:HasR ⟨A,false,L⟩ la b r)(hN:r.n<=r.blk.length)(h16:r.states.length<=16384)(h6:r.n<65536){t:Tr}(ht:IsEmpty t):
 ∃L2 tx ver cs its F keys rx ρ,S Tb XN [.ptr la (b+5) 0 0 0,t.av] ⟨A,false,L⟩=some (.tup [.ptr A.length (L.length+1) 0 0 0,.int .i64 0],⟨A,false,L2⟩)/\Begun A L L2 la b t tx ver cs its F keys rx ρ:=by
 have hCk:=fun T=>ZSh (st:=⟨A,false,L++T⟩) (lv:=la) (ix:=b+5) ht
 have hNw:=fun st=>ZlB ht st
 have hSt:=fun T=>ZfT (hA.app T) hN h16 h6
 unfold AR.statsAV at hSt
 have hbl:la=A.length->b+5<L.length:=fun e=>by
  have:=hA.h5
  subst e;rw[St.get_cur]at this;exact (List.getElem?_eq_some_iff.1 (ZAW this).1).1
 obtain⟨T,hT⟩:∃T:List Blk,T=[.arr 7 0 [t.av],.arr 3 0 [.agg [.ptr la (b+5) 0 0 0,.nils,.nilptr]]]:=⟨_,rfl⟩
 have hadd:S Tb Qo [.ptr A.length (L.length+1) 0 0 0,t.av] ⟨A,false,L++T⟩=some (.ptr A.length ((L++T).length+1) 0 0 0,⟨A,false,(L++T)++[.arr 7 0 [t.av],.arr 5 0 [Ro.zero.av]]⟩):=by
  refine Xv Y ?_
  have e0:(⟨A,false,L++T⟩:St)=⟨A,false,(L++T)++[]⟩:=by rw[lN]
  rw[e0];generalize L++T=L0;obtain⟨o,h,m,s,k⟩:=t;obtain⟨h1,h2,h3,h4,h5⟩:=ht;simp only[Tr.old,Tr.h,Tr.m,Tr.text,Tr.ks]at h1 h2 h3 h4 h5;subst h1 h2 h3 h4
  obtain⟨ka,hka,hka2⟩:∃ka,Tr.avO k=ka/\(ka=.nils\/ka=.lit []):=by
   cases k with
   | none=>exact⟨_,rfl,.inl Y⟩
   | some l=>have:l=[]:=h5;subst this;exact⟨_,rfl,.inr Y⟩
  simp only[Tr.av,Mea.zero,hka]at *
  rcases hka2 with rfl|rfl
  all_goals repeat'(first|refine YO Y Y Y Y Y ?_|refine Xb Y Y Y Y ?_|refine ZE ?_|refine ZD ?_|refine ZG Y ?_|refine ZV Y Y ?_|refine QK Y ?_|refine Zr Y Y Y Y ?_|refine ZB Y ?_|refine ZC ?_|refine ZBm Y Y ?_|refine J8 Y ?_|(refine cm0 Y Y Y ?_ ?_<;>intro _<;>try omega)|(refine Xl Y Y (fun _=>?_) (fun _=>?_)<;>try contradiction)|refine ZQ Y ?_|refine Zx Y Y Y ?_|refine ZI ?_|refine ZP ?_|refine ZL ?_|refine ZO ?_|refine Z0 ?_)
  all_goals try first|contradiction|omega
  all_goals refine (J9 (.inr Y) Y Y Y Y).trans ?_
  all_goals rfl
 have hTl:T.length=2:=by rw[hT];rfl
 have hl2:(L++T).length=L.length+2:=by rw[lL,hTl]
 rw[hl2]at hadd
 have p1:((L++T)++[Blk.arr 7 0 [t.av],Blk.arr 5 0 [Ro.zero.av]])[L.length+1]?=some (.arr 3 0 [.agg [.ptr la (b+5) 0 0 0,.nils,.nilptr]]):=by
  rw[List.append_assoc,Qj,hT];rfl
 refine⟨((L++T)++[Blk.arr 7 0 [t.av],Blk.arr 5 0 [Ro.zero.av]]).set (L.length+1) (Blk.arr 3 0 [.agg [.ptr la (b+5) 0 0 0,.nils,.ptr A.length (L.length+3) 0 0 0]]),L.length,0,[],[],[],[L.length+3],L.length+3,fun _=>.zero,Xv Y ?_,⟨⟨by simp[St.wr],⟨.nils,?_,.inl ⟨rfl,rfl⟩⟩,.nil,fun p hp=>by simp at hp,fun k hk=>?_,fun it hi=>by simp at hi,by simp,fun k hk=>?_,by omega,fun p hp=>by simp at hp,fun i hi=>?_,by simp,Nat.zero_le _⟩,by simp,fun i hi=>?_,fun k hk=>?_,fun p hp=>by simp at hp,fun hc=>absurd rfl hc,.inl ⟨ht,rfl,rfl⟩⟩⟩
 ·have e0:(⟨A,false,L⟩:St)=⟨A,false,L++[]⟩:=by rw[lN]
  rw[e0];rw[hT]at hadd p1 ⊢
  repeat'(first|refine YO Y (Z4 _) (QG _) Y Y ?_|refine YO Y Y Y Y Y ?_|refine Xb Y Y Y (Zo _) ?_|refine ZE ?_|refine ZD ?_|refine ZG Y ?_|refine ZV Y Y ?_|refine ZB Y ?_|refine ZC ?_|refine ZWd (agg:=false) Y Y ?_|refine Z7 Y Y ?_|(refine cm0 Y Y Y ?_ ?_<;>intro _<;>try omega)|(refine cm0 Y Y Y ?_ ?_<;>intro _<;>try omega)|refine ZH Y ?_|refine Zx Y Y Y ?_|refine ZA Y Y (by first|rfl|(simp only[lE,lN,lC,Ze,ZW,ZX];first|done|rfl)) (hCk _) ?_|refine ZA Y Y (by first|rfl|(simp only[lE,lN,lC,Ze,ZW,ZX];first|done|rfl)) (hNw _) ?_|refine ZA Y Y (by first|rfl|(simp only[lE,lN,lC,Ze,ZW,ZX];first|done|rfl)) (hSt _) ?_|refine ZA Y Y (by first|rfl|(simp only[lE,lN,lC,Ze,ZW,ZX];first|done|rfl)) (hadd) ?_|refine ZI ?_)
  all_goals try omega
  refine JG p1 Y Y Y ?_ Y ?_
  ·simp only[ZY,QD,if_pos (Nat.lt_succ_self _)]
  repeat'(first|refine ZE ?_|refine ZD ?_|refine ZG Y ?_|refine ZB Y ?_|refine ZC ?_|refine ZP ?_|refine ZO ?_)
  refine (J9 (.inr Y) Y Y Y Y).trans ?_;rfl
 ·exact ZfX (List.getElem?_set_self (by simp)) Y
 ·simp only[List.mem_singleton]at hk
  subst hk;refine ZfX ?_ Y
  rw[jS (by omega),show L.length+3=(L++T).length+1 by rw[hl2],Qj];rfl
 ·simp only[List.mem_singleton]at hk
  omega
 ·rintro⟨e1,e2,e3⟩
  have:=hbl e1.symm
  rcases hi with rfl|⟨c1,rfl⟩|q|⟨p,hp,rfl⟩
  ·omega
  ·exact c1 Y
  ·simp only[List.mem_singleton]at q;omega
  ·simp at hp
 ·rw[jS (by omega),List.append_assoc,jL hi]
 ·simp only[List.mem_singleton]at hk
  omega
theorem ZlC{b lv:Nat}(st:St)(h:lv<b):ZY QD b st (.map lv ix)=some (.map lv ix,st):=by
 simp only[ZY,QD,if_pos h]
def YI(l:List Nat):List (AV × AV):=l.map fun (h:Nat)=>(AV.int .u64 h,AV.bool true)
theorem ZhI(o:Nat):∀l:List Nat,X5 (.int .u64 o) (YI l)=some (if o∈l then some (.bool true) else none)
 | []=>rfl
 | p::l=>by
  rw[YI,jC,X5]
  show (Option.bind (if IntKind.u64=IntKind.u64 then some ((o:Int) == (p:Int)) else none) fun b=>if b=true then some (some (AV.bool true)) else X5 (.int .u64 o) (YI l))=_
  rw[if_pos rfl,oS,ZhI o l]
  by_cases q:o=p
  ·subst q;simp
  ·rw[if_neg (by simp;omega)]
   simp[q]
theorem ZOp(o:Nat):∀l:List Nat,o∉l->ZBh (.int .u64 o) (.bool true) (YI l)=some (YI (l++[o]))
 | [],_=>rfl
 | p::l,h=>by
  simp only[List.mem_cons,not_or]at h;rw[YI,jC,ZBh]
  show (Option.bind (if IntKind.u64=IntKind.u64 then some ((o:Int) == (p:Int)) else none) fun b=>if b=true then some ((AV.int .u64 o,AV.bool true)::YI l) else (ZBh (.int .u64 o) (.bool true) (YI l)).map ((AV.int .u64 p,AV.bool true)::·))=_
  rw[if_pos rfl,oS,if_neg (by simp;omega),ZOp o l h.2]
  rfl
theorem ZGD{lv:Nat}(hg:st.get lv mx=some (.map (YI l)))(o:Nat):lookV st 0 (.bool false) false (.int .u64 o) (.map lv mx)=some (.bool (decide (o∈l))):=by
 simp only[lookV,ZcU,hg,ZBi,oS,YG,if_true,ZhI]
 by_cases q:o∈l
 ·simp[q,ZcV]
 ·simp[q,ZcV]
def Zt(h:Nat):AV:=.int .u64 h
section
variable {O:Orc}{k:List Fr}{Q:YD}{e:Env}{A:List (Bool × List Blk)}{L:List Blk}{keep:List Nat}{is:List QAbs.PI}{d:Nat}
theorem ZpU{s x:Opd}{lv jx w bytes:Nat}{es ys:LV}(hA:A=st.A++[(st.ro,st.L)])(hwr:st.wr lv)(hg:st.get lv jx=some (.arr w ver es))(hs:Zc e s=some (.ref lv jx ver 0 es.length))(hx:Zc e x=some (.lit ys))
 (hw:Q7 w ys=true) (hsl:mapSt (ZY QD (lv+1)) ⟨A,false,L⟩ ys=some (ys,⟨A,false,L⟩)) (hl:es.length+ys.length<4294967296) (hb:bytes<=4096)
 (h:∀A',A'=(st.upd lv jx (.arr w (ver+1) (es++ys))).A++[((st.upd lv jx (.arr w (ver+1) (es++ys))).ro,(st.upd lv jx (.arr w (ver+1) (es++ys))).L)]->Is O is keep k Q ((d,.ref lv jx (ver+1) 0 (es.length+ys.length))::e) ⟨A',false,L⟩) :
 Is O (⟨some d,none,false,.app w bytes s x⟩::is) keep k Q e ⟨A,false,L⟩:=by
 have hlv:=St.get_le hg;refine Z3 (v:=.ref lv jx (ver+1) 0 (es.length+ys.length)) (st':=St.upd ⟨A,false,L⟩ lv jx (.arr w (ver+1) (es++ys))) ?_ ?_
 ·have hg':=ZS hA (ro:=false) (L:=L) hg
  have hw':=XK hA hlv hwr (ro:=false) (L:=L)
  simp only[Zg,evalPO,ZF hs,ZF hx,elems,oS,JR,hw,if_true,hsl,ZdX,hg',ZKM,true_and,if_pos (show 0+es.length<=es.length/\es.length+ys.length<4294967296/\bytes<=4096 by omega),List.drop_zero]
  rw[List.take_of_length_le (by omega),St.put_upd hw' hg']
  rfl
 ·rw[Ji hA hlv]
  exact h _ Y
end
namespace Tr
mutual
def kwT:Tr->List Nat->List Nat
 | .mk o _ _ _ k,out=>kwO k (if o≠0/\o∉out then out++[o] else out)
def kwO:Option (List Tr)->List Nat->List Nat
 | none,out=>out
 | some l,out=>kwL l out
def kwL:List Tr->List Nat->List Nat
 | [],out=>out
 | t::l,out=>kwL l (kwT t out)
end
mutual
def siz:Tr->Nat
 | .mk _ _ _ _ k=>1+sizO k
def sizO:Option (List Tr)->Nat
 | none=>0
 | some l=>sizL l
def sizL:List Tr->Nat
 | []=>0
 | t::l=>siz t+sizL l
end
theorem kwL_append:∀(a b:List Tr) (out:List Nat),kwL (a++b) out=kwL b (kwL a out)
 | [],b,out=>rfl
 | t::a,b,out=>by rw[lC,kwL,kwL,kwL_append a b]
theorem sizL_append:∀a b,sizL (a++b)=sizL a+sizL b
 | [],b=>by simp[sizL]
 | t::a,b=>by rw[lC,sizL,sizL,sizL_append a b];omega
theorem kwO_getD(k:Option (List Tr))(out:List Nat):kwO k out=kwL (k.getD []) out:=by cases k<;>rfl
theorem sizO_getD(k:Option (List Tr)):sizO k=sizL (k.getD []):=by cases k<;>rfl
theorem kwT_len(t:Tr):∀out,(kwT t out).length<=out.length+t.siz:=by
 induction t using Tr.ind with
 | step o h m s k ih =>
  intro out;rw[kwT,siz,kwO_getD,sizO_getD]
  have key:∀(l:List Tr),(∀t∈l,∀out,(kwT t out).length<=out.length+t.siz)->∀out,(kwL l out).length<=out.length+sizL l:=by
   intro l
   induction l with
   | nil=>intro _ out;simp[kwL,sizL]
   | cons a l ih2 =>
    intro hl out;rw[kwL,sizL]
    have h1:=ih2 (fun t ht=>hl t (by simp[ht])) (kwT a out)
    have h2:=hl a (by simp) out
    omega
  have:=key (k.getD []) ih (if o≠0/\o∉out then out++[o] else out)
  split at this
  ·rename_i q;rw[if_pos q];rw[lL,List.length_singleton]at this;omega
  ·rename_i q;rw[if_neg q];omega
theorem kwL_len:∀(l:List Tr) (out:List Nat),(kwL l out).length<=out.length+sizL l
 | [],out=>by simp[kwL,sizL]
 | t::l,out=>by
  rw[kwL,sizL];have h1:=kwL_len l (kwT t out);have h2:=kwT_len t out;omega
end Tr
structure KS(st:St)(lv mb mx ob ox wb ver:Nat)(out:List Nat):Prop where
 wr:st.wr lv
 hm:st.get lv mb=some (.arr 1 0 [.map lv mx])
 hmx:st.get lv mx=some (.map (YI out))
 ho:st.get lv ob=some (.arr 1 0 [.ref lv ox ver 0 out.length])
 hox:st.get lv ox=some (.arr 1 ver (out.map Zt))
 hw:st.get lv wb=some (.arr 1 0 [.func (.func Ys) [] [.ptr lv mb 0 0 0,.ptr lv ob 0 0 0,.ptr lv wb 0 0 0]])
 n1:mx≠ox
 n2:mx≠ob
 n3:ox≠ob
 n4:mb≠mx/\mb≠ox/\mb≠ob
 n5:wb≠mx/\wb≠ox/\wb≠ob
def Jb(st:St)(lv mx ob ox ver:Nat)(out:List Nat):St:=((st.upd lv mx (.map (YI out))).upd lv ox (.arr 1 ver (out.map Zt))).upd lv ob (.arr 1 0 [.ref lv ox ver 0 out.length])
theorem KS.get{st:St}{lv mb mx ob ox wb ver:Nat}{out:List Nat}(h:KS st lv mb mx ob ox wb ver out)(v:Nat)(t:List Nat)(l' i':Nat):
 (Jb st lv mx ob ox v t).get l' i'=if l'=lv/\i'=ob then some (.arr 1 0 [.ref lv ox v 0 t.length]) else if l'=lv/\i'=ox then some (.arr 1 v (t.map Zt)) else if l'=lv/\i'=mx then some (.map (YI t)) else st.get l' i':=by
 have g1:∀l' i',(st.upd lv mx (.map (YI t))).get l' i'=if l'=lv/\i'=mx then some (.map (YI t)) else st.get l' i':=fun l' i'=>St.get_upd h.hmx rfl
 have b1:(st.upd lv mx (.map (YI t))).get lv ox=some (.arr 1 ver (out.map Zt)):=by rw[g1,if_neg (fun q=>h.n1 q.2.symm)];exact h.hox
 have g2:∀l' i',((st.upd lv mx (.map (YI t))).upd lv ox (.arr 1 v (t.map Zt))).get l' i'=if l'=lv/\i'=ox then some (.arr 1 v (t.map Zt)) else (st.upd lv mx (.map (YI t))).get l' i':=fun l' i'=>St.get_upd b1 rfl
 have b2:((st.upd lv mx (.map (YI t))).upd lv ox (.arr 1 v (t.map Zt))).get lv ob=some (.arr 1 0 [.ref lv ox ver 0 out.length]):=by rw[g2,if_neg (fun q=>h.n3 q.2.symm),g1,if_neg (fun q=>h.n2 q.2.symm)];exact h.ho
 rw[Jb,St.get_upd b2 rfl,g2,g1]
theorem KS.put{st:St}{lv mb mx ob ox wb ver:Nat}{out:List Nat}(h:KS st lv mb mx ob ox wb ver out)(v:Nat)(t:List Nat):KS (Jb st lv mx ob ox v t) lv mb mx ob ox wb v t:=by
 refine⟨St.wr_upd (St.wr_upd (St.wr_upd h.wr h.wr) (St.wr_upd h.wr h.wr)) (St.wr_upd (St.wr_upd h.wr h.wr) (St.wr_upd h.wr h.wr)),?_,?_,?_,?_,?_,h.n1,h.n2,h.n3,h.n4,h.n5⟩
 ·rw[h.get,if_neg (fun q=>h.n4.2.2 q.2),if_neg (fun q=>h.n4.2.1 q.2),if_neg (fun q=>h.n4.1 q.2)];exact h.hm
 ·rw[h.get,if_neg (fun q=>h.n2 q.2),if_neg (fun q=>h.n1 q.2),if_pos ⟨rfl,rfl⟩]
 ·rw[h.get,if_pos ⟨rfl,rfl⟩]
 ·rw[h.get,if_neg (fun q=>h.n3 q.2),if_pos ⟨rfl,rfl⟩]
 ·rw[h.get,if_neg (fun q=>h.n5.2.2 q.2),if_neg (fun q=>h.n5.2.1 q.2),if_neg (fun q=>h.n5.1 q.2)];exact h.hw
theorem KS.same{st:St}{lv mb mx ob ox wb ver:Nat}{out:List Nat}(h:KS st lv mb mx ob ox wb ver out):Jb st lv mx ob ox ver out=st:=by
 rw[Jb,upd_same h.hmx,upd_same h.hox,upd_same h.ho]
theorem ZlD{st:St}{lv mx ob ox v1 v2:Nat}{s t:List Nat}(h1:mx≠ox)(h2:mx≠ob)(h3:ox≠ob):Jb (Jb st lv mx ob ox v1 s) lv mx ob ox v2 t=Jb st lv mx ob ox v2 t:=by
 unfold Jb;generalize Blk.map (YI s)=a1;generalize Blk.map (YI t)=a2;generalize Blk.arr 1 v1 (s.map Zt)=b1;generalize Blk.arr 1 v2 (t.map Zt)=b2;generalize Blk.arr 1 0 [AV.ref lv ox v1 0 s.length]=c1;generalize Blk.arr 1 0 [AV.ref lv ox v2 0 t.length]=c2
 rw[ZOe (st:=(st.upd lv mx a1).upd lv ox b1) (fun q=>h2 q.symm),ZOe (st:=st.upd lv mx a1) (fun q=>h1 q.symm),ZOd,ZOe (st:=(st.upd lv mx a2).upd lv ox b1) (fun q=>h3 q.symm),ZOd,ZOd]
theorem Zi0{st:St}{A:List (Bool × List Blk)}{ro:Bool}{L:List Blk}(hA:A=st.A++[(st.ro,st.L)]){lv mx ob ox ver:Nat}{t:List Nat}(hl:lv<=st.A.length):
 Jb ⟨A,ro,L⟩ lv mx ob ox ver t=⟨(Jb st lv mx ob ox ver t).A++[((Jb st lv mx ob ox ver t).ro,(Jb st lv mx ob ox ver t).L)],ro,L⟩:=by
 unfold Jb;rw[Ji hA hl]
 have e2:=fun (b:Blk)=>Ji (st:=st.upd lv mx (.map (YI t))) (A:=(st.upd lv mx (.map (YI t))).A++[((st.upd lv mx (.map (YI t))).ro,(st.upd lv mx (.map (YI t))).L)]) (ro:=ro) (L:=L) (lv:=lv) (ix:=ox) (b:=b) rfl (by rw[St.upd_A];exact hl)
 rw[e2]
 exact Ji Y (by rw[St.upd_A,St.upd_A];exact hl)
theorem KS.push{st:St}{A:List (Bool × List Blk)}{ro:Bool}{L:List Blk}(hA:A=st.A++[(st.ro,st.L)]){lv mb mx ob ox wb ver:Nat}{out:List Nat}(h:KS st lv mb mx ob ox wb ver out):KS ⟨A,ro,L⟩ lv mb mx ob ox wb ver out :=
 ⟨XK hA (St.get_le h.hm) h.wr,ZS hA h.hm,ZS hA h.hmx,ZS hA h.ho,ZS hA h.hox,ZS hA h.hw,h.n1,h.n2,h.n3,h.n4,h.n5⟩
theorem ZpV(st:St)(lv mx ob ox ver:Nat)(out:List Nat):(Jb st lv mx ob ox ver out).A.length=st.A.length:=by
 unfold Jb;rw[St.upd_A,St.upd_A,St.upd_A]
theorem ZpW(t:Tr):t.Pos->∀ {st:St} {lv mb mx ob ox wb ver:Nat} {out:List Nat},KS st lv mb mx ob ox wb ver out->out.length+t.siz<4294967296 ->
 Sp Tb Ys [t.av,.ptr lv mb 0 0 0,.ptr lv ob 0 0 0,.ptr lv wb 0 0 0] st fun v st'=>v=.tup []/\∃ver',st'=Jb st lv mx ob ox ver' (t.kwT out):=by
 induction t using Tr.ind with
 | step o h m s k ih =>
  intro hp st lv mb mx ob ox wb ver out hs hl
  cases hp with
  | mk h0 h4 hk2 =>
  have e1:(Tr.mk o h m s k).kwT out=Tr.kwL (k.getD []) (if o≠0/\o∉out then out++[o] else out):=by rw[Tr.kwT,Tr.kwO_getD]
  have e2:(Tr.mk o h m s k).siz=1+Tr.sizL (k.getD []):=by rw[Tr.siz,Tr.sizO_getD]
  rw[e1];rw[e2]at hl;refine ZmS Y ?_;obtain⟨A,hA⟩:∃A,A=st.A++[(st.ro,st.L)]:=⟨_,rfl⟩;rw[<- hA];have hlv:=St.get_le hs.hm
  have hav:(Tr.mk o h m s k).av=.agg [.int .u64 o,.int .i64 h,.int .i64 m.b,.int .i64 m.r,.int .i64 m.l,.str s,slV Tr.av k]:=by rw[Tr.av,Tr.avO_sl]
  -- the loop over the children
  have key:∀(ver1:Nat) (out1:List Nat) (A1:List (Bool × List Blk)),A1=(Jb st lv mx ob ox ver1 out1).A++[((Jb st lv mx ob ox ver1 out1).ro,(Jb st lv mx ob ox ver1 out1).L)]->out1.length<=out.length+1->∀e:Env,e=[(3,.ptr lv wb 0 0 0),(4,.ptr A.length 0 0 0 0)]\/e=[(1,.ptr lv mb 0 0 0),(2,.ptr lv ob 0 0 0),(3,.ptr lv wb 0 0 0),(4,.ptr A.length 0 0 0 0),(16,.bool false)] ->
   Ru (S Tb) (.seq ZGT (.block 0 (.loop ZBX))) [] (fun x e st''=>∃v st',JD false ([]:List RV) (x,e,st'')=some (v,st')/\v=.tup []/\∃ver',st'=Jb st lv mx ob ox ver' (Tr.kwL (k.getD []) out1)) e ⟨A1,false,[.arr 7 0 [(Tr.mk o h m s k).av]]⟩:=by
   intro ver1 out1 A1 hA1 hl1 e he
   have hAl:A.length=A1.length:=by rw[hA,hA1];simp[ZpV]
   rw[hAl]at he;rw[hav]
   cases k with
   | none =>
    simp only[slV]
    rcases he with rfl|rfl
    all_goals repeat'(first|refine ZE ?_|refine ZD ?_|refine ZG Y ?_|refine ZV Y Y ?_|refine ZU Y Y Y Y ?_|refine ZB Y ?_|refine ZC ?_|refine J8 Y ?_|(refine cm0 Y Y Y ?_ ?_<;>intro _<;>try omega)|refine ZH Y ?_|refine Qz ?_|refine Zq ?_|refine ZL ?_|refine ZO ?_|refine Zb ?_|refine Za Y ?_)
    all_goals try omega
    all_goals exact⟨_,_,Zj hA1 (.inl Y) Y Y Y Y Y,rfl,ver1,rfl⟩
   | some l =>
    simp only[Option.getD]at h4 hk2 ih hl ⊢;simp only[slV]
    have hloop:Ru (S Tb) (.loop ZBX) [.blk 0] (fun x e st''=>∃v st',JD false ([]:List RV) (x,e,st'')=some (v,st')/\v=.tup []/\∃ver',st'=Jb st lv mx ob ox ver' (Tr.kwL l out1)) [(3,.ptr lv wb 0 0 0),(26,.lit (l.map Tr.av)),(27,.int .i64 l.length),(28,.int .i64 0)] ⟨A1,false,[.arr 7 0 [.agg [.int .u64 o,.int .i64 h,.int .i64 m.b,.int .i64 m.r,.int .i64 m.l,.str s,.lit (l.map Tr.av)]]]⟩:=by
     refine Zy (α:=Nat × List Blk × Nat) (fun p=>[(3,.ptr lv wb 0 0 0),(26,.lit (l.map Tr.av)),(27,.int .i64 l.length),(28,.int .i64 p.1)])
      (fun p=>⟨(Jb st lv mx ob ox p.2.2 (Tr.kwL (l.take p.1) out1)).A++[((Jb st lv mx ob ox p.2.2 (Tr.kwL (l.take p.1) out1)).ro,(Jb st lv mx ob ox p.2.2 (Tr.kwL (l.take p.1) out1)).L)],false,.arr 7 0 [.agg [.int .u64 o,.int .i64 h,.int .i64 m.b,.int .i64 m.r,.int .i64 m.l,.str s,.lit (l.map Tr.av)]]::p.2.1⟩)
      (fun p=>p.1<=l.length) (fun p=>l.length-p.1) (0,[],ver1) rfl ?_ (by simp) ?_
     ·simp only[List.take_zero,Tr.kwL,<- hA1]
     rintro⟨i,G,ver2⟩ hi
     simp only at hi ⊢
     have hk3:=hs.put ver2 (Tr.kwL (l.take i) out1)
     have hpp:∀v3 t3,Jb (Jb st lv mx ob ox ver2 (Tr.kwL (l.take i) out1)) lv mx ob ox v3 t3=Jb st lv mx ob ox v3 t3:=fun v3 t3=>ZlD hs.n1 hs.n2 hs.n3
     generalize hs1:Jb st lv mx ob ox ver2 (Tr.kwL (l.take i) out1)=st1 at *
     obtain⟨A2,hA2⟩:∃A2,A2=st1.A++[(st1.ro,st1.L)]:=⟨_,rfl⟩;rw[<- hA2]
     have hgw:=fun L=>ZS hA2 (ro:=false) (L:=L) hk3.hw
     repeat'(first|refine ZE ?_|refine ZD ?_|refine ZB Y ?_|refine ZC ?_|(refine cm0 Y Y Y ?_ ?_<;>intro _<;>try omega)|refine ZQ Y ?_|refine ZH Y ?_|refine Z1 Y Y Y ?_|refine YE Y Y (by omega) Z4 (fun _ _=>?_)|refine QA Y (Zo _) ?_|refine YQ Y Y Y (QQ _ _ _) (Qw _ _) Y ?_|refine ZI ?_|refine Zq ?_|refine ZL ?_|refine ZO ?_|refine Zb ?_|refine Za Y ?_|refine Zn ?_)
     ·rename_i u hu
      have hu2:l[i]?=some u:=hu;have hum:=jM hu2;have hle:lv<=st1.A.length:=St.get_le hk3.hm
      have hsum:Tr.sizL l=Tr.sizL (l.take i)+(u.siz+Tr.sizL (l.drop (i+1))):=by
       conv=>lhs;rw[<- List.take_append_drop (i+1) l,ZZ hu2,Tr.sizL_append,Tr.sizL_append]
       simp[Tr.sizL];omega
      have hlen:=Tr.kwL_len (l.take i) out1
      have ihu:=fun L=>ih u hum (hk2 u hum) (hk3.push hA2 (ro:=false) (L:=L)) (by omega)
      have hkw:Tr.kwL (l.take (i+1)) out1=u.kwT (Tr.kwL (l.take i) out1):=by
       rw[ZZ hu2,Tr.kwL_append];rfl
      refine QB Y (hgw _) Y Y ?_
      repeat'(refine Qv Y Y (Zo _) ?_)
      refine ZVk Y Y (wk4 _ _ _ _ Y Y Y) (ihu _) ?_
      rintro v st' ⟨rfl,v3,rfl⟩
      rw[Zi0 hA2 hle,hpp,<- hkw]
      repeat'(first|refine ZD ?_|refine ZG Y ?_|refine ZB Y ?_|refine ZC ?_|refine Zh Y Y (by omega) ?_|refine Z0 ?_|refine Z8 ?_)
      exact⟨(i+1,_,v3),⟨rfl,rfl⟩,by simp only;omega,by simp only;omega⟩
     ·have hi':i=l.length:=by omega
      subst hi'
      rw[List.take_length]at *
      exact⟨_,_,Zj hA2 (.inl Y) Y Y Y Y Y,rfl,ver2,hs1.symm⟩
    rcases he with rfl|rfl
    all_goals repeat'(first|exact hloop|refine ZE ?_|refine ZD ?_|refine ZG Y ?_|refine ZV Y Y ?_|refine ZU Y Y Y Y ?_|refine ZB Y ?_|refine ZC ?_|refine QH Y ?_|refine ZL ?_)
  have hg1:=fun L=>ZS hA (ro:=false) (L:=L) hs.hm
  have hg2:=fun L=>ZS hA (ro:=false) (L:=L) hs.hmx
  have hlk:=fun L=>ZGD (hg2 L) o
  have hkey0:=key ver out A (by rw[hs.same];exact hA) (by omega) _ (.inr Y)
  have hwide:=Z4 (Tr.mk o h m s k);have hforce:=QG (Tr.mk o h m s k);rw[hav]at hwide hforce
  by_cases ho:o=0
  ·subst ho
   rw[if_neg (by simp)]
   rw[hav]at hkey0 ⊢
   repeat'(first|refine Z1 Y hwide hforce ?_|exact hkey0|refine ZE ?_|refine ZD ?_|refine ZG Y ?_|refine ZV Y Y ?_|refine ZU Y Y Y Y ?_|refine JZ Y Y ?_|refine Zr Y Y Y Y ?_|refine ZB Y ?_|refine ZC ?_|(refine cm0 Y Y Y ?_ ?_<;>intro _<;>try omega)|refine ZH Y ?_|refine ZI ?_)
   all_goals contradiction
  ·by_cases hm:o∈out
   ·rw[if_neg (by simp[hm])]
    rw[hav]at hkey0 ⊢;rw[decide_eq_true hm]at hlk
    repeat'(first|refine Z1 Y hwide hforce ?_|exact hkey0|refine ZE ?_|refine ZD ?_|refine ZG Y ?_|refine ZV Y Y ?_|refine ZU Y Y Y Y ?_|refine QK Y ?_|refine Zr Y Y Y Y ?_|refine ZB Y ?_|refine ZC ?_|(refine cm0 Y Y Y ?_ ?_<;>intro _<;>try omega)|refine ZH Y ?_|refine Jo Y Y ?_|refine QB Y (hg1 _) Y Y ?_|refine Jz Y Y (hlk _) ?_|refine ZI ?_)
    all_goals contradiction
   ·rw[if_pos ⟨ho,hm⟩]
    have hkey:=key (ver+1) (out++[o]);rw[hav]at hkey ⊢;rw[decide_eq_false hm]at hlk
    repeat'(first|refine Z1 Y hwide hforce ?_|refine ZE ?_|refine ZD ?_|refine ZG Y ?_|refine ZV Y Y ?_|refine ZU Y Y Y Y ?_|refine QK Y ?_|refine Zr Y Y Y Y ?_|refine ZB Y ?_|refine ZC ?_|(refine cm0 Y Y Y ?_ ?_<;>intro _<;>try omega)|refine ZQ Y ?_|refine Jo Y Y ?_|refine QB Y (hg1 _) Y Y ?_|refine Jz Y Y (hlk _) ?_)
    all_goals try contradiction
    refine ZhC hA Y Y Y hs.wr hs.hmx Y (ZOp o out hm) (fun A' hA'=>?_)
    have q1:∀l' i',(st.upd lv mx (.map (YI (out++[o])))).get l' i'=if l'=lv/\i'=mx then some (.map (YI (out++[o]))) else st.get l' i':=fun l' i'=>St.get_upd hs.hmx rfl
    have ka:(st.upd lv mx (.map (YI (out++[o])))).get lv ob=some (.arr 1 0 [.ref lv ox ver 0 out.length]):=by rw[q1,if_neg (fun q=>hs.n2 q.2.symm)];exact hs.ho
    have kb:(st.upd lv mx (.map (YI (out++[o])))).get lv ox=some (.arr 1 ver (out.map Zt)):=by rw[q1,if_neg (fun q=>hs.n1 q.2.symm)];exact hs.hox
    have hw1:=St.wr_upd (b:=.map (YI (out++[o]))) (ix:=mx) hs.wr hs.wr
    have hAl:A.length=A'.length:=by rw[hA,hA'];simp[St.upd_A]
    rw[hAl]at hkey ⊢
    have hput:Jb st lv mx ob ox (ver+1) (out++[o])=((st.upd lv mx (.map (YI (out++[o])))).upd lv ox (.arr 1 (ver+1) (out.map Zt++[.int .u64 o]))).upd lv ob (.arr 1 0 [.ref lv ox (ver+1) 0 (out.length+1)]):=by
     unfold Jb;rw[List.map_append,lL];rfl
    rw[hput]at hkey;clear hput q1
    generalize st.upd lv mx (.map (YI (out++[o])))=st1 at *
    have hg3:=fun L=>ZS hA' (ro:=false) (L:=L) ka
    repeat'(first|refine ZD ?_|refine ZV Y Y ?_|refine ZU Y Y Y Y ?_|refine ZB Y ?_|refine ZC ?_|refine QM Y Y Y Y ?_|refine QB Y (hg3 _) Y Y ?_)
    refine ZpU hA' hw1 kb (by rw[List.length_map];rfl) rfl rfl rfl (by simp;omega) (by decide) (fun A2 hA2=>?_)
    have q2:∀l' i',(st1.upd lv ox (.arr 1 (ver+1) (out.map Zt++[.int .u64 o]))).get l' i'=if l'=lv/\i'=ox then some (.arr 1 (ver+1) (out.map Zt++[.int .u64 o])) else st1.get l' i':=fun l' i'=>St.get_upd kb rfl
    have kc:(st1.upd lv ox (.arr 1 (ver+1) (out.map Zt++[.int .u64 o]))).get lv ob=some (.arr 1 0 [.ref lv ox ver 0 out.length]):=by rw[q2,if_neg (fun q=>hs.n3 q.2.symm)];exact ka
    have hw2:=St.wr_upd (b:=.arr 1 (ver+1) (out.map Zt++[.int .u64 o])) (ix:=ox) hw1 hw1
    have hAl2:A'.length=A2.length:=by rw[hA',hA2];simp[St.upd_A]
    rw[hAl2]at hkey ⊢
    generalize st1.upd lv ox (.arr 1 (ver+1) (out.map Zt++[.int .u64 o]))=st2 at *
    refine is_stP hA2 Y Y hw2 kc Y (Ja _ (Nat.lt_succ_self _)) Y (fun A3 hA3=>?_)
    have hAl3:A2.length=A3.length:=by rw[hA2,hA3];simp[St.upd_A]
    rw[hAl3]at hkey ⊢
    have hk:=hkey A3 (by rw[hA3];simp) (by simp) _ (.inl rfl)
    repeat'(first|exact hk|refine ZB Y ?_|refine ZC ?_)
theorem Zqe{t:Tr}(hp:t.Pos)(hsz:t.siz<4294967296)(st:St):S Tb ZHl [t.av] st=some (.lit ((t.kwT []).map Zt),st):=by
 refine QN Y (fun A hA=>?_)
 have hW:∀L,L=[.arr 7 0 [t.av],.arr 1 0 [],.arr 1 0 [.ref A.length 1 0 0 0],.map [],.arr 1 0 [.map A.length 3],.arr 1 0 [.func (.func Ys) [] [.ptr A.length 4 0 0 0,.ptr A.length 2 0 0 0,.ptr A.length 5 0 0 0]]] ->
  Sp Tb Ys [t.av,.ptr A.length 4 0 0 0,.ptr A.length 2 0 0 0,.ptr A.length 5 0 0 0] ⟨A,false,L⟩ fun v st'=>v=.tup []/\∃ver',st'=Jb ⟨A,false,L⟩ A.length 3 2 1 ver' (t.kwT []):=by
  rintro L rfl
  refine ZpW t hp (ver:=0) (mb:=4) (mx:=3) (ob:=2) (ox:=1) (wb:=5) ⟨by simp[St.wr],by rw[St.get_cur];rfl,by rw[St.get_cur];rfl,by rw[St.get_cur];rfl,by rw[St.get_cur];rfl,by rw[St.get_cur];rfl,by decide,by decide,by decide,by decide,by decide⟩ (by simp;omega)
 repeat'(first|refine ZE ?_|refine ZD ?_|refine ZG Y ?_|refine ZU Y Y Y Y ?_|refine ZB Y ?_|refine ZC ?_|refine XY Y Y ?_|refine Zi Y Y Y ?_|refine ZET Y ?_|refine ZCN Y ?_|refine ZU Y Y Y (Zo _) ?_|refine Z1 Y (Z4 _) (QG _) ?_|refine Zv Y Y Y (ZlC _ (Nat.lt_succ_self _)) Y Y ?_|refine Zv Y Y Y (ZOk _ (Nat.lt_succ_self _)) Y Y ?_)
 refine ZVk Y Y (wk4 _ _ _ _ Y Y Y) (hW _ Y) ?_
 rintro v st' ⟨rfl,v2,rfl⟩
 have hpc:∀b0 b1 b2 b3 b4 b5 w,Jb ⟨A,false,[b0,b1,b2,b3,b4,b5]⟩ A.length 3 2 1 v2 w=⟨A,false,[b0,.arr 1 v2 (w.map Zt),.arr 1 0 [.ref A.length 1 v2 0 w.length],.map (YI w),b4,b5]⟩:=by
  intro b0 b1 b2 b3 b4 b5 w
  simp[Jb,St.upd]
 rw[hpc]
 generalize t.kwT []=w at *
 repeat'(first|refine ZE ?_|refine ZD ?_|refine ZG Y ?_|refine ZU Y Y Y Y ?_|refine ZB Y ?_|refine ZC ?_|refine ZP ?_|refine ZO ?_)
 refine ZDr (es:=w.map Zt) hA (by simp) Y Y (by simp) (by intro v hv;obtain⟨x,_,rfl⟩:=List.mem_map.1 hv;rfl) ?_
 rfl
def wrV(t:Tr)(r:AR):AR × Ro × List Nat:=if t.old=0/\t.h=0/\t.text=[] then (r,.zero,[]) else t.wr r
theorem Zjy{N:ZJ}(hv:Val N t)(r:AR):wrV t r=t.wr r:=by
 unfold wrV
 cases hv with
 | kept h0=>rw[if_neg];simp[Tr.old,h0]
 | leaf h1=>rw[if_neg];rintro⟨_,_,q⟩;simp only[Tr.text]at q;rw[q]at h1;simp at h1
 | inner=>rw[if_neg];simp[Tr.h]
theorem ZdC(h:IsEmpty t)(r:AR):wrV t r=(r,.zero,[]):=by
 unfold wrV;rw[if_pos ⟨h.old,h.h,h.text⟩]
theorem Val.not_empty{N:ZJ}(hv:Val N t):¬ IsEmpty t:=fun h=>by
 have:=hv.pos.2
 have:=h.bytes
 omega
theorem PI.run{r:AR}(ho:AROk r)(hg:GoodN r.nodes)(hv:VE r.nodes t)(hb:t.bytes<=65536)(hn:nw t<=r.n){its:List It}{ρ:Nat->Ro}(h:PI t its rx ρ):
 ∃ρ',RunOk its r ρ (wrV t r).1 ρ' (wrV t r).2.2/\ρ' rx=(wrV t r).2.1:=by
 rcases h with⟨h1,rfl,h2⟩|⟨⟨M,hM⟩,R,h1,h2,h3⟩
 ·rw[ZdC h1];exact⟨ρ,.nil,h2⟩
 ·rcases hv with hv|hv
  ·exact absurd hv hM.not_empty
  ·rw[Zjy hv]
   rw[ZR8 hv]at hn;obtain⟨ρ',a1,a2,_⟩:=exec_ok hg hv hb r ho hg (.refl _) hn rx its R ρ h1 h2 h3;exact⟨ρ',a1,a2⟩
theorem Zjz{L:List Blk}{b:Nat}{r:AR}(hA:HasR ⟨A,false,L⟩ la b r)(hN:r.n<=r.blk.length)(h16:r.states.length<=16384)(h6:r.n<65536)(hv:VE r.nodes t)(hb:t.bytes<=65536)(hn:nw t<=r.n):
 ∃L2 tx ver cs its F keys rx ρ,S Tb XN [.ptr la (b+5) 0 0 0,t.av] ⟨A,false,L⟩=some (.tup [.ptr A.length (L.length+1) 0 0 0,.int .i64 0],⟨A,false,L2⟩)/\Begun A L L2 la b t tx ver cs its F keys rx ρ:=by
 rcases hv with hv|hv
 ·exact ZhH hA hN h16 h6 hv
 ·rw[ZR8 hv]at hn
  exact ZlA (N:=r.nodes) hA hN h16 h6 hv hb hn
theorem ZpX{L:List Blk}{ro:Ro}{e:Int}(hg:L[ix]?=some (.arr 1 ver (l.map Zt)))(hn:n=l.length):
 ZY QD A.length ⟨A,false,L⟩ (.tup [ro.av,.ref A.length ix ver 0 n,.int .i64 e])=some (.tup [ro.av,.lit (l.map Zt),.int .i64 e],⟨A,false,L.set ix .dead⟩):=by
 subst hn
 have h1:=ZJD (n:=4) (A:=A) (s:=0) (m:=l.length) hg (by simp) (es':=l.map Zt) (by
  rw[List.drop_zero,List.take_of_length_le (by simp)]
  exact ZR5 (k:=.u64) (fun n:Nat=>(n:Int)) 3 0 _ l)
 show (mapSt (ZY 5 A.length) _ _).bind ZdU=_
 have h2:ZY 5 A.length ⟨A,false,L⟩ ro.av=some (ro.av,⟨A,false,L⟩):=rfl;simp only[mapSt,h2,oS,h1];rfl
theorem RunOk.len{its:List It}{r:AR}{ρ ρ':Nat->Ro}{hs:List Nat}(h:RunOk its r ρ r' ρ' hs):hs.length=its.length:=by
 induction h with
 | nil=>rfl
 | cons hn hx hk h ih=>simp[ih]
theorem RunOk.inv{it:It}{its:List It}{r:AR}{ρ ρ':Nat->Ro}(h:RunOk (it::its) r ρ r' ρ' l):
 ∃hs,l=r.next::hs/\0<r.n/\NdOk (Q5 ρ it.c)/\ZR7 r.nodes (Q5 ρ it.c)/\RunOk its (r.add (Q5 ρ it.c)) (ZOo ρ it.rx r.next) r' ρ' hs:=by
 cases h with
 | cons hn hx hk h=>exact⟨_,rfl,hn,hx,hk,h⟩
theorem RunOk.nil_inv{r:AR}{ρ ρ':Nat->Ro}(h:RunOk [] r ρ r' ρ' l):l=[]/\r'=r/\ρ'=ρ:=by
 cases h;exact⟨rfl,rfl,rfl⟩
theorem Zmv{b:Nat}(hl:la<=st.A.length)(rj r2:AR)(hn:n=st.A.length+1)(L:List Blk)(ip tx ver len rx k:Nat)(ro:Ro)(j:Nat):
 ZGC ⟨(Qg st la b rj).ps,false,L⟩ n ip tx ver la b len rx r2 k ro j=⟨(Qg st la b r2).ps,false,(L.set k (.arr 5 0 [ro.av])).set ip (.arr 3 0 [.agg [.ptr la (b+5) 0 0 0,.ref n tx ver (j+1) (len-j-1),.ptr n rx 0 0 0]])⟩:=by
 have e1:Qg ⟨(Qg st la b rj).ps,false,L⟩ la b r2=⟨(Qg st la b r2).ps,false,L⟩:=by
  rw[ZAy rfl (by rw[ZGA];exact hl),Zk2]
 have e2:((Qg st la b r2).ps).length=n:=by rw[hn];simp[ZGA]
 rw[ZGC,e1];unfold St.upd;simp only[e2,if_true]
theorem PenS.frm{L L':List Blk}{tx b:Nat}{its:List It}{F:List (Nat × Blk)}{keys:List Nat}{ρ:Nat->Ro}(h:PenS ⟨A,false,L⟩ n ip tx ver la b cls its F keys rx ρ j)(hn:n=A.length)
 (hg:∀i,i=ip\/(cls≠[]/\i=tx)\/i∈keys\/(∃p∈F,i=p.1)->L'[i]?=L[i]?):PenS ⟨A,false,L'⟩ n ip tx ver la b cls its F keys rx ρ j:=by
 subst hn;obtain⟨td,h1,h2⟩:=h.pen
 have hget:∀i,(i=ip\/(cls≠[]/\i=tx)\/i∈keys\/(∃p∈F,i=p.1))->St.get ⟨A,false,L'⟩ A.length i=St.get ⟨A,false,L⟩ A.length i:=fun i hi=>by rw[St.get_cur,St.get_cur,hg i hi]
 refine⟨by simp[St.wr],⟨td,by rw[hget _ (.inl rfl)];exact h1,?_⟩,h.cl,fun p hp=>by rw[hget _ (.inr (.inr (.inr ⟨p,hp,rfl⟩)))];exact h.fx p hp,fun k hk=>by rw[hget _ (.inr (.inr (.inl hk)))];exact h.rts k hk,h.key,h.rk,h.s1,h.s2,h.s3,h.ar,h.len,h.jl⟩
 rcases h2 with q|⟨hc,q1,q2⟩
 ·exact .inl q
 ·exact .inr ⟨hc,q1,by rw[hget _ (.inr (.inl ⟨hc,rfl⟩))];exact q2⟩
theorem Zmw{L:List Blk}{x:Ex}{c4 c5 c6 j4 w4 v4:Nat}{ro:Ro}{z:Int}(hA:A=st.A++[(st.ro,st.L)])(hx:x=.norm\/x=.ret)(h4:J1 e c4=some (.ptr A.length j4 v4 0 0))(hg4:L[j4]?=some (.arr w4 v4 [ro.av]))
 (h5:J1 e c5=some (.ref A.length ix ver 0 n)) (hg5:L[ix]?=some (.arr 1 ver (l.map Zt))) (hn:n=l.length) (h6:J1 e c6=some (.int .i64 z)):JD false [.c c4 true 5,.s c5,.s c6] (x,e,⟨A,false,L⟩)=some (.tup [ro.av,.lit (l.map Zt),.int .i64 z],st):=by
 refine ZEB (v:=.tup [ro.av,.ref A.length ix ver 0 n,.int .i64 z]) hA hx ?_ (ZpX hg5 hn) Y
 have h1:ZBQ ⟨A,false,L⟩ e (.c c4 true 5)=some ro.av:=by
  simp only[ZBQ,QL h4,loadP,St.get_cur,hg4,vis,ZEM,if_true,List.getElem?_cons_zero,oS];rfl
 simp only[QW,ZD9,h1,oS];simp only[ZBQ,QL h5,QL h6,oS,Option.map_some,ZGI]
theorem ZfY{b:Nat}{r:AR}(hA:Has st la b r)(ho:AROk r)(hg:GoodN r.nodes)(hv:VE r.nodes t)(hb:t.bytes<=65536)(hn:nw t<=r.n):
 S Tb XL [.ptr la (b+5) 0 0 0,t.av] st=some (.tup [(wrV t r).2.1.av,.lit ((wrV t r).2.2.map Zt),.int .i64 0],Qg st la b (wrV t r).1):=by
 refine ZBe Y (fun A hA'=>?_)
 obtain⟨LB,hLB⟩:∃LB:List Blk,LB=[.arr 7 0 [t.av],.arr 5 0 [Ro.zero.av],.arr 1 0 []]:=⟨_,rfl⟩;have hle:=hA.le
 have hla:la<A.length:=by rw[hA'];simp;omega
 have h3:LB.length=3:=by rw[hLB];rfl
 obtain⟨L2,tx,ver,cs,its,F,keys,rx,ρ,hS,hB⟩:=Zjz (L:=LB) (hA.push hA').r ho.nb ho.n16 (by have:=ho.nn;have:=ho.n16;omega) hv hb hn
 obtain⟨ρ',hrun,hro⟩:=hB.pi.run ho hg hv hb hn
 generalize (wrV t r).1=r' at *
 generalize (wrV t r).2.2=hs at *
 generalize (wrV t r).2.1=ro at *
 have hcl:=hB.ps.cl.len
 have hk5:∀k∈keys,5<=k:=fun k hk=>by have:=hB.klo k hk;omega
 have g1:L2[1]?=some (.arr 5 0 [Ro.zero.av]):=by rw[hB.old 1 (by omega),hLB];rfl
 have g2:L2[2]?=some (.arr 1 0 (([]:List Nat).map Zt)):=by rw[hB.old 2 (by omega),hLB];rfl
 have hps:=hB.ps;rw[h3]at hS hps;rw[hLB]at hS
 repeat'(first|refine ZE ?_|refine ZD ?_|refine ZG Y ?_|refine Zw Y Y ?_|refine ZB Y ?_|refine ZC ?_|(refine cm0 Y Y Y ?_ ?_<;>intro _<;>try omega)|refine ZH Y ?_|refine Zi Y Y Y ?_|refine ZAK Y ?_|refine ZU Y Y Y (Zo _) ?_|refine Z1 Y (Z4 _) (QG _) ?_|refine ZA Y Y (by first|rfl|(simp only[lE,lN,lC,Ze,ZW,ZX];first|done|rfl)) (hS) ?_|refine ZI ?_|refine ZL ?_)
 all_goals try contradiction
 have hAn:A.length=st.A.length+1:=by rw[hA'];simp
 have hhl:=hrun.len
 refine Zy (α:=Bool × Nat × AR × (Nat->Ro) × List Blk) (fun p=>match p.1 with
  | true=>[(4,.ptr A.length 1 0 0 0),(5,.ref A.length 2 p.2.1 0 p.2.1),(6,.int .i64 0),(7,.ptr A.length 4 0 0 0),(18,.bool false)]
  | false=>[(4,.ptr A.length 1 0 0 0),(5,.ref A.length 2 p.2.1 0 p.2.1),(7,.ptr A.length 4 0 0 0)])
  (fun p=>⟨(Qg st la b p.2.2.1).ps,false,p.2.2.2.2⟩)
  (fun p=>PenS ⟨(Qg st la b p.2.2.1).ps,false,p.2.2.2.2⟩ A.length 4 tx ver la b cs its F keys rx p.2.2.2.1 p.2.1/\AROk p.2.2.1/\RunOk (its.drop p.2.1) p.2.2.1 p.2.2.2.1 r' ρ' (hs.drop p.2.1)/\p.2.1<=its.length/\p.2.2.2.2[1]?=some (.arr 5 0 [Ro.zero.av])/\p.2.2.2.2[2]?=some (.arr 1 p.2.1 ((hs.take p.2.1).map Zt)))
  (fun p=>its.length-p.2.1) (true,0,r,ρ,L2) rfl ?_ ?_ ?_
 ·simp only[hA.same,<- hA']
 ·simp only[hA.same,<- hA']
  exact⟨hps,ho,hrun,Nat.zero_le _,g1,g2⟩
 rintro⟨fst,j,rj,ρj,Lj⟩ ⟨q1,q2,q3,q4,q5,q6⟩
 simp only at q1 q2 q3 q4 q5 q6
 have hHj:Has ⟨(Qg st la b rj).ps,false,Lj⟩ la b rj:=(hA.put rj).push rfl;obtain⟨td,t1,t2⟩:=q1.pen
 have hAl:A.length=(Qg st la b rj).ps.length:=by rw[hAn];simp[ZGA]
 rcases Nat.lt_or_ge j its.length with hlt|hge
 ·obtain⟨it,hit⟩:∃it,its[j]?=some it:=⟨its[j]'hlt,by simp[hlt]⟩
  have hd:its.drop j=it::its.drop (j+1):=by
   rw[List.drop_eq_getElem_cons hlt];rw[jE hlt]at hit;rw[Option.some.inj hit]
  rw[hd]at q3;obtain⟨hs2,e1,hn1,hx1,hk1,hr1⟩:=q3.inv
  have hdj:hs[j]?=some rj.next:=by
   have:=List.getElem?_drop (xs:=hs) (i:=j) (j:=0)
   rw[e1]at this
   simpa using this.symm
  have hd2:hs.drop (j+1)=hs2:=by
   rw[<- List.drop_drop,e1];rfl
  obtain⟨p1,p2,p3⟩:=q1.step hHj q2 hn1 hit hx1 hk1;rw[Zmv hle rj _ hAn]at p1 p2
  have hjc:j<cs.length:=by rw[hcl];exact hlt
  have hne:cs≠[]:=fun q=>by rw[q]at hjc;simp at hjc
  rcases t2 with⟨w,_⟩|⟨_,rfl,t3⟩
  ·exact absurd w hne
  obtain⟨k1,_⟩:=q1.key it (jM hit);have hk5':=hk5 _ k1
  have hl4:Lj[4]?=some (.arr 3 0 [.agg [.ptr la (b+5) 0 0 0,.ref A.length tx ver j (cs.length-j),.ptr A.length rx 0 0 0]]):=by
   rw[hAl]at t1;rw[St.get_cur]at t1;rw[hAl];exact (ZAW t1).1
  obtain⟨r2,hr2⟩:∃r2,r2=rj.add (Q5 ρj it.c):=⟨_,rfl⟩;rw[<- hr2]at p1 p2 hr1
  have ho2:AROk r2:=by rw[hr2];exact q2.add hn1 _
  have hAl2:A.length=(Qg st la b r2).ps.length:=by rw[hAn];simp[ZGA]
  obtain⟨L3,hL3⟩:∃L3,L3=(Lj.set it.rx (.arr 5 0 [((ρj it.rx).wr rj.next).av])).set 4 (.arr 3 0 [.agg [.ptr la (b+5) 0 0 0,.ref A.length tx ver (j+1) (cs.length-j-1),.ptr A.length rx 0 0 0]]):=⟨_,rfl⟩;rw[<- hL3]at p1 p2
  have h31:L3[1]?=some (.arr 5 0 [Ro.zero.av]):=by rw[hL3,jS (by omega),jS (by omega)];exact q5
  have h32:L3[2]?=some (.arr 1 j ((hs.take j).map Zt)):=by rw[hL3,jS (by omega),jS (by omega)];exact q6
  have hj2:j=((hs.take j).map Zt).length:=by simp;omega
  have hj3:∀x:AV,((hs.take j).map Zt).length+[x].length<4294967296:=fun x=>by have:=q1.len;simp;omega
  have hinv:∀L4,L4=L3.set 2 (.arr 1 (j+1) ((hs.take j).map Zt++[.int .u64 rj.next]))->PenS ⟨(Qg st la b r2).ps,false,L4⟩ A.length 4 tx ver la b cs its F keys rx (ZOo ρj it.rx rj.next) (j+1)/\AROk r2/\RunOk (its.drop (j+1)) r2 (ZOo ρj it.rx rj.next) r' ρ' (hs.drop (j+1))/\j+1<=its.length/\L4[1]?=some (.arr 5 0 [Ro.zero.av])/\L4[2]?=some (.arr 1 (j+1) ((hs.take (j+1)).map Zt)):=by
   rintro L4 rfl
   refine⟨?_,ho2,by rw[hd2];exact hr1,hlt,by rw[jS (by omega)];exact h31,?_⟩
   ·refine p2.frm hAl2 (fun i hi=>jS ?_)
    rcases hi with rfl|⟨hc,rfl⟩|q|⟨p,hp,rfl⟩
    ·omega
    ·have:=hB.tlo hc;omega
    ·have:=hk5 i q;omega
    ·have:=hB.flo p hp;omega
   ·rw[List.getElem?_set_self (List.getElem?_eq_some_iff.1 h32).1,ZZ hdj,List.map_append];rfl
  obtain⟨A2,hA2⟩:∃A2,A2=(Qg st la b r2).ps:=⟨_,rfl⟩;obtain⟨A1,hA1⟩:∃A1,A1=(Qg st la b rj).ps:=⟨_,rfl⟩;rw[<- hA1]at p1 hAl ⊢;rw[<- hA2]at p1 hAl2;have hA12:A1.length=A2.length:=hAl.symm.trans hAl2;rw[hAl]at hl4 p1 hinv ⊢
  cases fst
  all_goals simp only
  all_goals repeat'(first|refine ZA Y Y Y p1 ?_|refine ZE ?_|refine ZD ?_|refine ZG Y ?_|refine ZV Y Y ?_|refine Zw Y Y ?_|refine ZB Y ?_|refine ZC ?_|refine Z7 Y Y ?_|refine Jp Y ?_|(refine cm0 Y Y Y ?_ ?_<;>intro _<;>try omega)|refine ZQ Y ?_|refine ZH Y ?_|refine QM Y Y Y Y ?_|refine ZU Y hl4 Y Y ?_|refine ZI ?_|refine ZL ?_)
  all_goals try first|contradiction|omega
  all_goals rw[hA12]
  all_goals repeat'(first|refine ZAa Y Y h32 hj2 Y Y (hj3 _) (by decide) ?_|refine ZG Y ?_|refine ZB Y ?_|refine Z0 ?_|refine Z8 ?_)
  all_goals rw[hA12,hA2]at hinv
  all_goals rw[hA2]
  all_goals exact⟨(false,j+1,r2,ZOo ρj it.rx rj.next,_),⟨rfl,rfl⟩,hinv _ Y,by simp only;omega⟩
 ·obtain rfl:j=its.length:=by omega
  rw[List.drop_length,<- hhl,List.drop_length]at q3;obtain⟨_,rfl,rfl⟩:=q3.nil_inv;rw[<- hhl,List.take_length]at q6;have hRt:=Zqc q1 hcl.symm;rw[hro]at hRt;obtain⟨A1,hA1⟩:∃A1,A1=(Qg st la b r').ps:=⟨_,rfl⟩;rw[<- hA1]at hRt hAl ⊢
  have hl4:∃w,Lj[4]?=some (.arr 3 0 [.agg [.ptr la (b+5) 0 0 0,td,w]])/\(td=.nils\/∃v,td=.ref A.length tx v its.length 0):=by
   rw[hAl,hA1,St.get_cur]at t1;refine⟨_,(ZAW t1).1,?_⟩
   rcases t2 with⟨_,w⟩|⟨_,w,_⟩
   ·exact .inl w
   ·refine .inr ⟨ver,?_⟩
    rw[w,hcl,Nat.sub_self]
  obtain⟨w4,hl4,htd⟩:=hl4
  rw[<- hhl]at *
  have hl1:=(List.getElem?_eq_some_iff.1 q5).1;rw[hAl]at hRt htd ⊢
  rcases htd with rfl|⟨v,rfl⟩
  all_goals cases fst
  all_goals simp only
  all_goals repeat'(first|refine ZA Y Y Y hRt ?_|refine ZE ?_|refine ZD ?_|refine ZG Y ?_|refine ZV Y Y ?_|refine Zw Y Y ?_|refine ZB Y ?_|refine ZC ?_|refine Z7 Y Y ?_|refine Jp Y ?_|refine J8 Y ?_|(refine cm0 Y Y Y ?_ ?_<;>intro _<;>try omega)|refine ZH Y ?_|refine ZU Y hl4 Y Y ?_|refine Zq ?_|refine Zb ?_|refine Za Y ?_|refine Zn ?_)
  all_goals try omega
  all_goals refine JG q5 Y Y Y Y Y ?_
  all_goals repeat'(first|refine ZE ?_|refine ZD ?_|refine ZG Y ?_|refine ZB Y ?_|refine ZC ?_|refine ZU Y (List.getElem?_set_self hl1) Y Y ?_)
  all_goals refine JG (List.getElem?_set_self hl1) Y Y Y Y Y ?_
  all_goals rw[List.set_set]
  all_goals repeat'(first|refine ZG Y ?_|refine ZB Y ?_|refine ZC ?_|refine ZP ?_|refine ZO ?_)
  all_goals exact Zmw (ro:=ro) hA1 (.inr Y) Y (List.getElem?_set_self hl1) Y ((jS (by omega)).trans q6) (by simp) Y
end Go.Q15
namespace Go.QAbs
variable {a:Act}{ro:Bool}{c:Code}{e:Env}{f:FuncId}{A:List (Bool × List Blk)}{args caps cls:LV}{l:List Nat}{clock d i ip ix j la mx n ob ox rx ver wb:Nat}{o:Oper}{s st:St}
def TLe(T T':Tab):Prop:=∀f x,T f=some x->T' f=some x
theorem ZdD{T T':Tab}(h:TLe T T'):∀n,Le (Qh T n) (Qh T' n)
 | 0=>fun _ _ _ _ q=>by simp[Qh]at q
 | n+1=>fun f _ _ _ q=>QZ (fun x q=>h f x q) (fun x _ q=>by
  cases x with
  | pf pf=>exact ZJx (ZdD h n) (Zdj (Nat.le_refl n)) q
  | base o=>exact q) q
theorem ZOq{T T':Tab}(h:TLe T T'):Le (S T) (S T'):=fun f a st r q=>by
 obtain⟨n,hn⟩:=S_iff.1 q;exact S_iff.2 ⟨n,ZdD h n _ _ _ _ hn⟩
theorem Zmx:∀(A:List (Bool × List Blk)) (r:Bool × List Blk),pop (A++[r])=some (A,r)
 | [],r=>rfl
 | [a],r=>rfl
 | a::b::A,r=>by
  have:=Zmx (b::A) r
  rw[lC,lC,pop];rw[lC]at this;rw[this];rfl
theorem ZhJ(v:AV)(st:St)(ro:Bool)(L:List Blk):Jn (v,⟨st.ps,ro,L⟩)=some (v,st):=by
 simp only[Jn,Zmx,oS,ZLp]
section
variable {k:List Fr}{Q:YD}{e:Env}{st:St}{keep:List Nat}{is:List PI}{d:Nat}{T:Tab}
theorem Zmy{st':St}{f:Opd}{args:List Opd}{lv:Nat}{cs vs ws:LV}{v:AV}(hf:Zc e f=some (.func (.yield lv) [] cs))(ha:ZHh e args=some vs)(hw:Ze (vs++cs)=ws)(hc:S T (yB+lv) ws st=some (v,st'))
 (h:Is (S T) is keep k Q ((d,v)::e) st'):Is (S T) (⟨some d,none,false,.call .norm f args⟩::is) keep k Q e st:=by
 refine Z3 (od:=some d) (v:=v) (st':=st') ?_ h;simp only[Zg,ZF hf,Xu ha,ZBC,JE,hw,hc]
theorem ZhK{nt:Nat}{rg:Rng}{st':St}(hl:args.length=rg.ps.length+nt)
 (h:∀A,A=st.ps->Ru (S T) rg.assign [] (fun x e s=>x=.norm/\Ru (S T) rg.body [] (fun x e s=>x=.norm/\s.A=st'.ps) e s) (ZL6 rg.ps args (Qc 0 (args.drop rg.ps.length))) ⟨A,false,[]⟩):ZAp (S T) itS nt rg args st=some (.bool true,st'):=by
 obtain⟨x,e1,s1,h1,h2⟩:=(h _ rfl).h;obtain⟨rfl,⟨x,e2,s2,h3,h4⟩⟩:=h2;obtain⟨rfl,h5⟩:=h4;unfold ZAp;rw[if_pos hl]
 have:st.push=⟨st.ps,false,[]⟩:=rfl
 rw[this,h1,oS];simp only[ZPO,h3,oS,ZgM];obtain⟨A,ro,L⟩:=s2
 simp only at h5
 subst h5;exact ZhJ _ _ _ _
theorem Zmz{OT:Nat->Orc}{nt:Nat}{rg:Rng}{g:FuncId}{first cap:LV}{v:AV}{L:List Blk}{st2:St}(hg:Zc e rg.g=some (.func (.func g) first cap))(hy:g<yB)
 (hc:OT (st.A.length+1) g (Ze (first++[.func (.yield (st.A.length+1)) [] (ZJ0 nt e)]++cap)) ⟨st.ps,false,[]⟩=some (v,⟨st2.ps,ro,L⟩)):ZSr OT nt rg e st=some (.norm,e,st2):=by
 unfold ZSr;rw[ZF hg];simp only[if_pos hy]
 have:st.push=⟨st.ps,false,[]⟩:=rfl
 rw[this,hc,oS,Zkh,ZhJ,oS]
theorem s_rf{T0:Tab}{rf:RF}{r:AV × St}(hT:T f=some (.base (rfO T0 rf)))
 (h:∀A,A=st.ps->Ru (S T0) rf.pre [] (fun x e s=>(x=.ret/\JD false rf.res (.ret,e,s)=some r)\/(x=.norm/\∃s2,ZSr (fun lv=>S (ZSs T0 lv (ZAp (S T0) itS rf.nt rf.rng))) rf.nt rf.rng e s=some (.norm,e,s2)/\Ru (S T0) rf.post [] (fun x e s=>JD false rf.res (x,e,s)=some r) e s2)) (Qc 0 args) ⟨A,false,[]⟩):S T f args st=some r:=by
 refine ZV7 (o:=rfO T0 rf) hT ?_;obtain⟨x,e1,s1,h1,h2⟩:=(h _ rfl).h;unfold rfO rfG ZJ1
 have:st.push=⟨st.ps,false,[]⟩:=rfl
 rw[this,h1,oS]
 rcases h2 with⟨rfl,h3⟩|⟨rfl,s2,h3,⟨x,e3,s3,h5,h6⟩⟩
 ·simp only[JW,oS];exact h3
 ·simp only[JW,h3,oS,h5];exact h6
end
theorem Zj0{T:Tab}(hT:∀f x,T f=some x->f<yB)(lv:Nat)(o:LV->St->OS):TLe T (ZSs T lv o):=fun f x hx=>by
 unfold ZSs;rw[if_neg]
 ·exact hx
 ·intro q;exact Zdt (hT f x hx) q
theorem Zj1(T:Tab)(lv:Nat)(o:LV->St->OS)(args:LV)(st:St){r:AV × St}(h:o args st=some r):S (ZSs T lv o) (yB+lv) args st=some r :=
 ZV7 (o:=o) (by unfold ZSs;rw[if_pos rfl]) h
end Go.QAbs
namespace Go.Q15
open Go Go.QAbs
variable {r':AR}{a:Act}{ro:Bool}{c:Code}{e:Env}{f:FuncId}{A:List (Bool × List Blk)}{args caps cls:LV}{l:List Nat}{clock d i ip ix j la mx n ob ox rx ver wb:Nat}{x:Nd}{o:Oper}{s st:St}{t:Tr}
def ZAz(N:ZJ)(o:Nat):Nd:=(lk N o).getD ⟨0,[],none⟩
theorem Yl{N:ZJ}{o:Nat}(h:lk N o=some x):ZAz N o=x:=by unfold ZAz;rw[h];rfl
def XG(N:ZJ):Nat->Nat->List Nat
 | 0,o=>[o]
 | n+1,o=>o::(ZAz N o).ks.flatMap fun k=>XG N n k.at_
def ZlE(x:Nd):AV:=.agg [.int .i64 x.h,.str x.text,.lit (x.ks.map Kid.av),.int .i64 0]
theorem ZIx{l:Nat}{b:Blk}(h:s.get l i=some b)(more:List (Bool × List Blk))(ro:Bool)(L:List Blk):St.get ⟨s.ps++more,ro,L⟩ l i=some b:=by
 have hl:=St.get_le h;have h1:=ZS (A:=s.ps) rfl (ro:=ro) (L:=L) h;unfold St.get at h1 ⊢
 have e1:l≠s.ps.length:=by simp;omega
 have e2:l≠(s.ps++more).length:=by simp;omega
 simp only[if_neg e1,if_neg e2]at h1 ⊢
 rw[jL (by simp;omega)]
 exact h1
theorem Rd.more{lv:Nat}{N:ZJ}(h:Rd s lv ix N)(more:List (Bool × List Blk))(ro:Bool)(L:List Blk):Rd ⟨s.ps++more,ro,L⟩ lv ix N:=by
 obtain⟨a0,a1,im,a3,a4,a5,h1,h2⟩:=h;exact⟨a0,a1,im,a3,a4,a5,ZIx h1 _ _ _,ZIx h2 _ _ _⟩
theorem Zj2{N:ZJ}{h:Nat}(hx:lk N h=some x)(hok:NdOk x)(hh:x.h=n):XG N n h=h::x.ks.flatMap fun k=>XG N (n-1) k.at_:=by
 cases n with
 | zero =>
  have:x.ks=[]:=by
   rcases hok with q|⟨m,ks,q⟩
   ·exact q.ks
   ·have:=congrArg Nd.h q.eq;simp only at this;omega
  rw[this];rfl
 | succ n=>rw[XG,Yl hx];rfl
theorem Zm0{N:ZJ}(hN:GoodN N):∀(n h:Nat) (x:Nd),lk N h=some x->x.h=n->3*(XG N n h).length+1<=4 ^ (n+1):=by
 intro n
 induction n with
 | zero=>intro h x hx hh;simp[XG]
 | succ n ih =>
  intro h x hx hh;obtain⟨hok,hk⟩:=hN h x hx;rw[XG,Yl hx,List.length_cons]
  have h6:4 ^ (n+1+1)=4*4 ^ (n+1):=by rw[Nat.pow_succ,Nat.mul_comm]
  rw[h6];clear h6
  have hP1:1<=4 ^ (n+1):=Nat.pow_pos (by decide)
  generalize 4 ^ (n+1)=P at *
  have key:∀l:List Kid,(∀k∈l,k∈x.ks)->3*(l.flatMap fun k=>XG N n k.at_).length+l.length<=l.length*P:=by
   intro l
   induction l with
   | nil=>intro _;simp
   | cons k l ih2 =>
    intro hm
    obtain⟨_,y,y1,y2,_⟩:=hk k (hm k (by simp))
    have h1:=ih k.at_ y y1 (by omega)
    have h2:=ih2 fun q hq=>hm q (by simp[hq])
    rw[List.flatMap_cons,lL,List.length_cons,Nat.add_mul,Nat.one_mul];omega
  have h1:=key x.ks fun _ h=>h
  have h4:=hok.len;have h5:x.ks.length*P<=4*P:=Nat.mul_le_mul_right _ h4
  rcases hok with q|⟨m,ks,q⟩
  ·have:=q.h;omega
  ·have e:=q.eq
   have h7:=q.lo;subst e;simp only[Nd.ks,Option.getD_some]at h1 h4 h5 ⊢;have h8:(4-ks.length)*1<=(4-ks.length)*P:=Nat.mul_le_mul_left _ hP1
   have h9:ks.length*P+(4-ks.length)*P=4*P:=by rw[<- Nat.add_mul];congr 1;omega
   omega
structure NW(σ:List Nat->St)(lv:Nat)(caps:LV)(la b:Nat)(more:List (Bool × List Blk))(ro:Bool)(L:List Blk)(l1 i1 l2 i2 l3 i3:Nat):Prop where
 a:∀v,St.get ⟨(σ v).ps++more,ro,L⟩ l1 i1=some (.arr 1 0 [.ptr la (b+5) 0 0 0])
 y:∀v,St.get ⟨(σ v).ps++more,ro,L⟩ l2 i2=some (.arr 1 0 [.func (.yield lv) [] caps])
 w:∀v,St.get ⟨(σ v).ps++more,ro,L⟩ l3 i3=some (.arr 1 0 [.func (.func YU) [] [.ptr l1 i1 0 0 0,.ptr l2 i2 0 0 0,.ptr l3 i3 0 0 0]])
theorem NW.push{σ:List Nat->St}{lv:Nat}{b:Nat}{more:List (Bool × List Blk)}{L:List Blk}{l1 i1 l2 i2 l3 i3:Nat}(h:NW σ lv caps la b more ro L l1 i1 l2 i2 l3 i3)(L':List Blk):NW σ lv caps la b (more++[(ro,L)]) false L' l1 i1 l2 i2 l3 i3 :=
 ⟨fun v=>ZS (st:=⟨(σ v).ps++more,ro,L⟩) (by rw[<- List.append_assoc]) (h.a v),fun v=>ZS (st:=⟨(σ v).ps++more,ro,L⟩) (by rw[<- List.append_assoc]) (h.y v),fun v=>ZS (st:=⟨(σ v).ps++more,ro,L⟩) (by rw[<- List.append_assoc]) (h.w v)⟩
theorem Zqf{TY:Tab}(hT:TLe Tb TY){σ:List Nat->St}{N:ZJ}(hN:GoodN N){b lv:Nat}(hcw:Ze caps=caps)(hRd:∀v,Rd (σ v) la (b+5) N)(hlen:∀v,(σ v).A.length=(σ []).A.length)
 {B:Nat} (hy:∀v h x more ro L,v.length<B->lk N h=some x->S TY (yB+lv) (.int .u64 (h:Nat)::ZlE x::caps) ⟨(σ v).ps++more,ro,L⟩=some (.bool true,⟨(σ (v++[h])).ps++more,ro,L⟩)) :
 ∀n h x,lk N h=some x->x.h=n->∀v more ro L l1 i1 l2 i2 l3 i3,v.length+(XG N n h).length<=B->NW σ lv caps la b more ro L l1 i1 l2 i2 l3 i3 ->
  S TY YU [.int .u64 (h:Nat),.ptr l1 i1 0 0 0,.ptr l2 i2 0 0 0,.ptr l3 i3 0 0 0] ⟨(σ v).ps++more,ro,L⟩=some (.bool true,⟨(σ (v++XG N n h)).ps++more,ro,L⟩):=by
 intro n
 induction n using Nat.strongRecOn with
 | ind n ih =>
  intro h x hx hh v more ro L l1 i1 l2 i2 l3 i3 hB hw;have hok:=(hN h x hx).1;rw[Zj2 hx hok hh,List.length_cons]at hB;have hkids:=(hN h x hx).2;have hk4:=hok.len
  refine ZBe (hT _ _ Y) (fun A hA=>?_)
  have hA2:A=(σ v).ps++(more++[(ro,L)]):=by rw[hA,List.append_assoc]
  clear hA;subst hA2
  have hw2:=fun L'=>hw.push L'
  have hG:∀v' L',S TY Qm [.ptr la (b+5) 0 0 0,.int .u64 h] ⟨(σ v').ps++(more++[(ro,L)]),false,L'⟩=some (.tup [.agg [.int .i64 x.h,.str x.text,.lit (x.ks.map Kid.av)],.int .i64 0],⟨(σ v').ps++(more++[(ro,L)]),false,L'⟩):=fun v' L'=>ZOq hT _ _ _ _ (Zgz ((hRd v').more _ _ _) hx hk4)
  have hY:=fun L'=>hy v h x (more++[(ro,L)]) false L' (by omega) hx
  unfold ZlE at hY
  have hwk:Ze ([AV.int .u64 h,.agg [.int .i64 x.h,.str x.text,.lit (x.ks.map Kid.av),.int .i64 0]]++caps)=.int .u64 h::.agg [.int .i64 x.h,.str x.text,.lit (x.ks.map Kid.av),.int .i64 0]::caps:=by
   simp only[lC,lE,Ze,weak,hcw]
  repeat'(first|refine Zmy Y Y hwk (hY _) ?_|refine ZE ?_|refine ZD ?_|refine ZG Y ?_|refine ZV Y Y ?_|refine ZU Y Y Y Y ?_|refine QK Y ?_|refine Zr Y Y Y Y ?_|refine Zw Y Y ?_|refine ZB Y ?_|refine ZC ?_|(refine cm0 Y Y Y ?_ ?_<;>intro _<;>try omega)|refine ZH Y ?_|refine Jo Y Y ?_|refine Zx Y Y Y ?_|refine Zi Y Y Y ?_|refine Zv Y Y Y Y Y Y ?_|refine QB Y ((hw2 _).a v) Y Y ?_|refine QB Y ((hw2 _).y v) Y Y ?_|refine ZA Y Y Y (hG _ _) ?_|refine ZI ?_)
  all_goals try contradiction
  have hl2:∀v v',((σ v).ps++(more++[(ro,L)])).length=((σ v').ps++(more++[(ro,L)])).length:=fun v v'=>by
   simp only[lL];rw[hlen v,hlen v'];rfl
  rw[hl2 v (v++[h])];rw[Zj2 hx hok hh]
  repeat'(first|refine ZG Y ?_|refine ZU Y Y Y Y ?_|refine ZB Y ?_|refine ZC ?_|refine QH Y ?_|refine ZL ?_)
  refine Zy (α:=Nat × List Blk) (fun p=>[(3,.ptr l3 i3 0 0 0),(28,.lit (x.ks.map Kid.av)),(29,.int .i64 x.ks.length),(30,.int .i64 p.1)])
   (fun p=>⟨(σ (v++h::(x.ks.take p.1).flatMap fun k=>XG N (n-1) k.at_)).ps++(more++[(ro,L)]),false,.arr 3 0 [.agg [.int .i64 x.h,.str x.text,.lit (x.ks.map Kid.av)]]::p.2⟩) (fun p=>p.1<=x.ks.length) (fun p=>x.ks.length-p.1) (0,[]) rfl rfl (Nat.zero_le _) ?_
  rintro⟨i,G⟩ hi
  simp only at hi ⊢
  rcases Nat.lt_or_ge i x.ks.length with hlt|hge
  ·obtain⟨kd,hk'⟩:∃k,x.ks[i]?=some k:=⟨x.ks[i]'(by omega),by simp[hlt]⟩
   obtain⟨_,y,y1,y2,y3⟩:=hkids kd (jM hk')
   have hk1:0<=((i:Nat):Int)/\x.ks[((i:Nat):Int).toNat]?=some kd:=⟨by omega,by rw[show ((i:Nat):Int).toNat=i by omega];exact hk'⟩
   have ihk:=fun v' L' hb=>ih y.h (by omega) kd.at_ y y1 rfl v' _ _ L' l1 i1 l2 i2 l3 i3 hb (hw2 L')
   have hfin:(v++h::(x.ks.take i).flatMap fun k=>XG N (n-1) k.at_)++XG N y.h kd.at_=v++h::(x.ks.take (i+1)).flatMap fun k=>XG N (n-1) k.at_:=by
    rw[ZZ hk',List.flatMap_append,List.append_assoc,show n-1=y.h by omega]
    simp
   obtain⟨v1,hv1⟩:∃v1,v1=v++h::(x.ks.take i).flatMap fun k=>XG N (n-1) k.at_:=⟨_,rfl⟩
   rw[<- hv1]at hfin ⊢
   have hb1:v1.length+(XG N y.h kd.at_).length<=B:=by
    rw[<- lL,hfin,lL,List.length_cons]
    have h1:(x.ks.flatMap fun k=>XG N (n-1) k.at_)=(x.ks.take (i+1)).flatMap (fun k=>XG N (n-1) k.at_)++(x.ks.drop (i+1)).flatMap (fun k=>XG N (n-1) k.at_):=by
     rw[<- List.flatMap_append,List.take_append_drop]
    have h2:=congrArg List.length h1;rw[lL]at h2;omega
   repeat'(first|refine QX Y Y hk1 (fun _=>rfl) ?_|refine ZA Y Y Y (ihk v1 _ hb1) ?_|refine ZE ?_|refine ZD ?_|refine ZG Y ?_|refine ZV Y Y ?_|refine ZB Y ?_|refine ZC ?_|refine Qv Y Y Y ?_|refine QA Y Y ?_|(refine cm0 Y Y Y ?_ ?_<;>intro _<;>try omega)|refine ZQ Y ?_|refine ZH Y ?_|refine Jo Y Y ?_|refine Zh Y Y (by omega) ?_|refine Z1 Y Y Y ?_|refine YQ Y Y Y Y Y Y ?_|refine QB Y ((hw2 _).w v1) Y Y ?_|refine ZI ?_|refine ZL ?_|refine Z0 ?_|refine Z8 ?_)
   refine⟨(i+1,G++[Blk.arr 4 0 [kd.av]]),⟨rfl,?_⟩,by simp only;omega,by simp only;omega⟩
   rw[hfin];rfl
  ·obtain rfl:i=x.ks.length:=by omega
   rw[List.take_length]
   repeat'(first|refine ZE ?_|refine ZD ?_|refine ZG Y ?_|refine ZB Y ?_|refine ZC ?_|(refine cm0 Y Y Y ?_ ?_<;>intro _<;>try omega)|refine ZH Y ?_|refine ZP ?_|refine Zq ?_|refine ZO ?_|refine Zb ?_|refine Za Y ?_|refine Zn ?_)
   all_goals try omega
   refine Zj (st:=⟨(σ _).ps++more,ro,L⟩) (by rw[<- List.append_assoc]) (.inr rfl) rfl rfl rfl rfl ?_
   rfl
theorem ZIy:∀ {l:List (FuncId × Ent)},(l.all fun p=>decide (p.1<yB))=true->∀f x,Y7 l f=some x->f<yB
 | [],_,f,x,h=>by simp[Y7]at h
 | p::l,ha,f,x,h=>by
  simp only[List.all_cons,Bool.and_eq_true,decide_eq_true_eq]at ha;simp only[Y7]at h
  split at h
  ·rename_i e;rw[<- e];exact ha.1
  ·exact ZIy ha.2 f x h
theorem Zm1:∀f x,Tb f=some x->f<yB:=ZIy (l:=tl) (by decide +kernel)
def RtOk(N:ZJ)(r:Ro):Prop:=r=.zero\/(r.at_≠0/\∃x,lk N r.at_=some x/\NdOk x/\x.h=r.h/\x.mea=r.m)
def Zm(N:ZJ)(r:Ro):List Nat:=if r.at_=0 then [] else XG N r.h r.at_
theorem RtOk.h13{N:ZJ}(hN:GoodN N){r:Ro}(hr:RtOk N r):r.h<=13:=by
 rcases hr with rfl|⟨h0,x,h1,h2,h3,h4⟩
 ·decide
 ·have hv:Val N (.keep r):=.kept h0 h1 h2 h3 h4 rfl
  have hb:(Tr.keep r).bytes=r.m.b:=by simp[Tr.keep,Tr.bytes,Tr.bytesO]
  have:=h2.mea_pos
  exact hv.height hN (by rw[hb,<- h4];omega)
theorem Xz{N:ZJ}(hN:GoodN N){r:Ro}(hr:RtOk N r):(Zm N r).length<100000000:=by
 have h13:=hr.h13 hN;unfold Zm
 split
 ·simp
 ·rename_i q
  rcases hr with rfl|⟨h0,x,h1,h2,h3,h4⟩
  ·exact absurd Y q
  ·have:=Zm0 hN r.h r.at_ x h1 h3
   have h5:4 ^ (r.h+1)<=4 ^ 14:=Nat.pow_le_pow_right (by decide) (by omega)
   have h6:(4:Nat) ^ 14=268435456:=by decide
   omega
def Yx(r:Ro):Tr:=if r.at_=0 then .zero else .keep r
theorem ZVn{lv:Nat}{N:ZJ}(hr:Rd st lv ix N){r:Ro}(h:RtOk N r):S Tb Ya [.ptr lv ix 0 0 0,r.av] st=some (.tup [(Yx r).av,.int .i64 0],st):=by
 unfold Yx
 rcases h with rfl|⟨h0,x,h1,h2,h3,h4⟩
 ·rw[if_pos (by rfl)];exact Zks
 ·rw[if_neg h0];exact ZqQ hr h1 h2 h0 h3 h4
theorem Zj3{L:List Blk}{b:Nat}{r:Ro}:S Tb ZAM [.ptr la (b+5) 0 0 0,r.av] ⟨A,false,L⟩=some (.func (.func JY) [] [.ptr A.length L.length 0 0 0,.ptr A.length (L.length+1) 0 0 0],⟨A,false,L++[.arr 1 0 [.ptr la (b+5) 0 0 0],.arr 5 0 [r.av]]⟩):=by
 refine Xv Y ?_
 have e0:(⟨A,false,L⟩:St)=⟨A,false,L++[]⟩:=by rw[lN]
 rw[e0];unfold Ro.av
 repeat'(first|refine YO Y Y Y Y Y ?_|refine ZE ?_|refine ZD ?_|refine ZG Y ?_|refine ZB Y ?_|refine ZC ?_|refine XY Y Y ?_|refine ZP ?_|refine ZO ?_)
 refine (J9 (.inr Y) Y Y Y Y).trans ?_;rfl
theorem ZhL{b a1 a2 a3 x1 x2 x3:Nat}(st:St)(h1:a1<b)(h2:a2<b)(h3:a3<b):ZY QD b st (.func (.func f) [] [.ptr a1 x1 0 0 0,.ptr a2 x2 0 0 0,.ptr a3 x3 0 0 0])=some (.func (.func f) [] [.ptr a1 x1 0 0 0,.ptr a2 x2 0 0 0,.ptr a3 x3 0 0 0],st):=by
 simp only[ZY,QD,Zfj,if_true,mapSt,oS,if_pos h1,if_pos h2,if_pos h3,Y1]
theorem Zp2{TY:Tab}(hT:TLe Tb TY){σ:List Nat->St}{N:ZJ}(hN:GoodN N){b lv:Nat}(hcw:Ze caps=caps)(hRd:∀v,Rd (σ v) la (b+5) N)(hlen:∀v,(σ v).A.length=(σ []).A.length)
 {B:Nat} (hy:∀v h x more ro L,v.length<B->lk N h=some x->S TY (yB+lv) (.int .u64 (h:Nat)::ZlE x::caps) ⟨(σ v).ps++more,ro,L⟩=some (.bool true,⟨(σ (v++[h])).ps++more,ro,L⟩))
 {r:Ro} (hr:RtOk N r) (hB:(Zm N r).length<=B) {l1 i1 l4 i4:Nat} (ha:∀v,(σ v).get l1 i1=some (.arr 1 0 [.ptr la (b+5) 0 0 0])) (hro:∀v,(σ v).get l4 i4=some (.arr 5 0 [r.av])) :
 S TY JY [.func (.yield lv) [] caps,.ptr l1 i1 0 0 0,.ptr l4 i4 0 0 0] ⟨(σ []).ps,false,[]⟩=some (.tup [],⟨(σ (Zm N r)).ps,false,[]⟩):=by
 refine ZBe (hT _ _ Y) (fun A hA=>?_)
 have hA0:A=(σ []).ps++[(false,[])]:=hA
 have g4:∀L,St.get ⟨A,false,L⟩ l4 i4=some (.arr 5 0 [r.av]):=fun L=>by rw[hA0];exact ZIx (hro []) _ _ _
 have l1l:l1<A.length+1:=by have:=St.get_le (ha []);rw[hA0];simp;omega
 unfold Ro.av at g4
 have hNW:∀yv wv,yv=Blk.arr 1 0 [.func (.yield lv) [] caps]->wv=Blk.arr 1 0 [.func (.func YU) [] [.ptr l1 i1 0 0 0,.ptr A.length 0 0 0 0,.ptr A.length 1 0 0 0]]->NW σ lv caps la b [(false,[])] false [yv,wv] l1 i1 A.length 0 A.length 1:=by
  rintro yv wv rfl rfl
  have hl:∀v,A.length=((σ v).ps++[(false,([]:List Blk))]).length:=fun v=>by rw[hA0];simp[hlen v]
  refine⟨fun v=>ZIx (ha v) _ _ _,fun v=>?_,fun v=>?_⟩
  ·rw[hl v,St.get_cur];rfl
  ·rw[hl v,St.get_cur];rfl
 by_cases h0:r.at_=0
 ·have e:Zm N r=[]:=by unfold Zm;rw[if_pos h0]
  rw[e]
  repeat'(first|refine ZE ?_|refine ZD ?_|refine ZV Y Y ?_|refine ZB Y ?_|refine ZC ?_|(refine cm0 Y Y Y ?_ ?_<;>intro _<;>try omega)|refine ZH Y ?_|refine XY Y Y ?_|refine Zi Y Y Y ?_|refine Zv Y Y Y (ZhL _ l1l (Nat.lt_succ_self _) (Nat.lt_succ_self _)) Y Y ?_|refine QB Y (g4 _) Y Y ?_|refine ZI ?_|refine ZO ?_)
  all_goals try omega
  refine Zj hA (.inl Y) Y Y Y Y ?_;rfl
 ·have e:Zm N r=XG N r.h r.at_:=by unfold Zm;rw[if_neg h0]
  rw[e]at hB ⊢
  obtain⟨x,h1,h2,h3,h4⟩:∃x,lk N r.at_=some x/\NdOk x/\x.h=r.h/\x.mea=r.m:=by
   rcases hr with rfl|q
   ·exact absurd Y h0
   ·exact q.2
  have hW:=Zqf hT hN hcw hRd hlen hy r.h r.at_ x h1 h3 [] [(false,[])] false _ l1 i1 A.length 0 A.length 1 (by simpa using hB) (hNW _ _ rfl rfl)
  rw[<- hA0,lE]at hW
  repeat'(first|refine ZA Y Y Y hW ?_|refine ZE ?_|refine ZD ?_|refine ZV Y Y ?_|refine ZU Y Y Y Y ?_|refine ZB Y ?_|refine ZC ?_|(refine cm0 Y Y Y ?_ ?_<;>intro _<;>try omega)|refine ZQ Y ?_|refine XY Y Y ?_|refine Zi Y Y Y ?_|refine Zv Y Y Y (ZhL _ l1l (Nat.lt_succ_self _) (Nat.lt_succ_self _)) Y Y ?_|refine QB Y (g4 _) Y Y ?_|refine ZO ?_)
  all_goals try omega
  refine Zj (st:=⟨(σ _).ps,false,[]⟩) Y (.inl Y) Y Y Y Y ?_;rfl
noncomputable def t1:List (FuncId × Ent):=(Yh,.base (rfO Tb p_rope_Check))::tl
noncomputable def T1:Tab:=Y7 t1
theorem le1:TLe Tb T1:=fun g y hg=>by
 unfold T1 t1;simp only[Y7];rw[if_neg]
 ·exact hg
 ·intro e;subst e
  have:Y7 tl Yh=none:=by decide +kernel
  unfold Tb at hg;rw[this]at hg;simp at hg
theorem ZVo{b:Nat}{N:ZJ}(hN:GoodN N)(hR:Rd st la (b+5) N){r:Ro}(hr:RtOk N r):S T1 Yh [.ptr la (b+5) 0 0 0,r.av] st=some (.int .i64 0,st):=by
 refine s_rf (rf:=p_rope_Check) Y (fun A hA=>?_)
 have hK:=fun L=>ZVn (hR.push hA (ro:=false) (L:=L)) hr
 have hNd:=fun L=>Zj3 (A:=A) (L:=L) (la:=la) (b:=b) (r:=r)
 obtain⟨LF,hLF⟩:∃LF:List Blk,LF=[.arr 5 0 [r.av],.arr 7 0 [(Yx r).av],.arr 1 0 [.int .i64 0],.arr 1 0 [.ptr la (b+5) 0 0 0],.arr 5 0 [r.av]]:=⟨_,rfl⟩
 have hseq:=fun (caps:LV) (hcw:Ze caps=caps) (o:LV->St->OS) hy=>Zp2 (TY:=ZSs Tb (A.length+1) o) (Zj0 Zm1 _ _) (σ:=fun _=>⟨A,false,LF⟩) hN (lv:=A.length+1) (caps:=caps) hcw (fun _=>hR.push hA) (fun _=>rfl) (B:=(Zm N r).length) hy hr (Nat.le_refl _) (l1:=A.length) (i1:=3) (l4:=A.length) (i4:=4) (fun _=>by rw[St.get_cur,hLF];rfl) (fun _=>by rw[St.get_cur,hLF];rfl)
 unfold Ro.av at *
 repeat'(first|refine ZE ?_|refine ZD ?_|refine ZG Y ?_|refine ZU Y Y Y Y ?_|refine Zw Y Y ?_|refine ZB Y ?_|refine ZC ?_|(refine cm0 Y Y Y ?_ ?_<;>intro _<;>try omega)|refine ZH Y ?_|refine Zi Y Y Y ?_|refine Zv Y Y Y Y Y Y ?_|refine Zv Y Y Y (QQ _ _ _) (Qw _ _) Y ?_|refine ZA Y Y (by first|rfl|(simp only[lE,lN,lC,Ze,ZW,ZX];first|done|rfl)) (hK _) ?_|refine ZA Y Y (by first|rfl|(simp only[lE,lN,lC,Ze,ZW,ZX];first|done|rfl)) (hNd _) ?_|refine ZI ?_|refine ZO ?_)
 all_goals try contradiction
 have hS:=hseq (ZJ0 30 [(7,.ptr A.length 2 0 0 0),(21,.func (.func JY) [] [.ptr A.length 3 0 0 0,.ptr A.length 4 0 0 0]),(23,.any)]) rfl (ZAp (S Tb) itS p_rope_Check.nt p_rope_Check.rng) (fun v h x more ro L _ hx=>Zj1 _ _ _ _ _ (ZhK rfl (fun A' hA'=>by
  unfold ZlE
  repeat'(first|refine ZD ?_|refine ZB Y ?_|refine Zi Y Y Y ?_|refine Zv Y Y Y Y Y Y ?_|refine ZO ?_)
  all_goals try omega
  refine⟨rfl,?_⟩
  repeat'(first|refine ZE ?_|refine ZD ?_|refine ZV Y Y ?_|refine ZU Y Y Y Y ?_|refine ZB Y ?_|refine ZC ?_|(refine cm0 Y Y Y ?_ ?_<;>intro _<;>try omega)|refine ZH Y ?_|refine ZI ?_|refine ZL ?_|refine ZO ?_|refine Z0 ?_)
  all_goals try contradiction
  exact⟨rfl,hA'⟩)))
 rw[hLF]at hS
 refine .inr ⟨rfl,_,Zmz (g:=JY) Y (by decide) hS,?_⟩
 repeat'(first|refine ZE ?_|refine ZD ?_|refine ZG Y ?_|refine ZU Y Y Y Y ?_|refine ZB Y ?_|refine ZC ?_|refine ZI ?_|refine ZP ?_|refine ZO ?_)
 refine Zj hA (by simp) Y Y Y Y ?_
 rfl
end Go.Q15
namespace Go.QAbs
variable {a:Act}{ro:Bool}{c:Code}{e:Env}{f:FuncId}{A:List (Bool × List Blk)}{args caps cls:LV}{l:List Nat}{clock d i ip ix j la mx n ob ox rx ver wb:Nat}{o:Oper}{s st:St}
theorem ZB8{l:Nat}{b:Blk}(h:s.get l i=some b)(more:List (Bool × List Blk))(ro:Bool)(L:List Blk):St.get ⟨s.ps++more,ro,L⟩ l i=some b:=by
 have hl:=St.get_le h;have h1:=ZS (A:=s.ps) rfl (ro:=ro) (L:=L) h;unfold St.get at h1 ⊢
 have e1:l≠s.ps.length:=by simp;omega
 have e2:l≠(s.ps++more).length:=by simp;omega
 simp only[if_neg e1,if_neg e2]at h1 ⊢
 rw[jL (by simp;omega)]
 exact h1
theorem Zj4{lv:Nat}(hl:lv<=s.A.length)(h:s.wr lv)(more:List (Bool × List Blk))(ro:Bool)(L:List Blk):St.wr ⟨s.ps++more,ro,L⟩ lv:=by
 have h1:=XK (A:=s.ps) rfl hl h (ro:=ro) (L:=L);unfold St.wr at h1 ⊢
 have e1:lv≠s.ps.length:=by simp;omega
 have e2:lv≠(s.ps++more).length:=by simp;omega
 simp only[if_neg e1,if_neg e2]at h1 ⊢
 rw[jL (by simp;omega)]
 exact h1
theorem ZhM{lv:Nat}{b:Blk}(hl:lv<=s.A.length)(more:List (Bool × List Blk))(ro:Bool)(L:List Blk):St.upd ⟨s.ps++more,ro,L⟩ lv ix b=⟨(s.upd lv ix b).ps++more,ro,L⟩:=by
 have h1:=Ji (A:=s.ps) (ro:=ro) (L:=L) rfl hl (ix:=ix) (b:=b);unfold St.upd at h1 ⊢
 have e1:lv≠s.ps.length:=by simp;omega
 have e2:lv≠(s.ps++more).length:=by simp;omega
 simp only[if_neg e1,if_neg e2]at h1 ⊢;simp only[St.mk.injEq,and_true]at h1 ⊢
 rw[jL (by simp;omega),List.set_append_left _ _ (by simp;omega),h1]
theorem ZR9:∀ {ks:List (Nat × Nat)} {s:St} {bs:List Blk} {more:List (Bool × List Blk)} {ro:Bool} {L:List Blk},(∀k∈ks,k.1<=s.A.length)->Jh ⟨s.ps++more,ro,L⟩ ks bs=⟨(Jh s ks bs).ps++more,ro,L⟩
 | [],_,bs,_,_,_,_=>by cases bs<;>rfl
 | _::_,_,[],_,_,_,_=>rfl
 | k::ks,s,b::bs,more,ro,L,hk=>by
  rw[Jh,ZhM (hk k (by simp)),ZR9 (s:=s.upd k.1 k.2 b) (fun q hq=>by rw[St.upd_A];exact hk q (by simp[hq]))]
  rfl
theorem Cl.more{ks:List (Nat × Nat)}{bs:List Blk}(h:Cl s ks bs)(more:List (Bool × List Blk))(ro:Bool)(L:List Blk):Cl ⟨s.ps++more,ro,L⟩ ks bs :=
 ⟨h.nd,h.len,fun k hk=>Zj4 (h.le k hk) (h.wr k hk) _ _ _,fun j lv ix b h1 h2=>ZB8 (h.get j lv ix b h1 h2) _ _ _⟩
end Go.QAbs
namespace Go.Q15
open Go Go.QAbs
variable {r':AR}{a:Act}{ro:Bool}{c:Code}{e:Env}{f:FuncId}{A:List (Bool × List Blk)}{args caps cls:LV}{l:List Nat}{clock d i ip ix j la mx n ob ox rx ver wb:Nat}{x:Nd}{o:Oper}{s st:St}{t:Tr}
theorem Zm2:∀f x,T1 f=some x->f<yB:=ZIy (l:=t1) (by decide +kernel)
noncomputable def t3:List (FuncId × Ent):=(ZaO,.base (rfO T1 ZJ5))::(Yf,.base (rfO T1 p_rope_Nodes))::t1
noncomputable def T3:Tab:=Y7 t3
theorem X3{l:List (FuncId × Ent)}{x:Ent}(h:Y7 l f=none):TLe (Y7 l) (Y7 ((f,x)::l)):=fun g y hg=>by
 simp only[Y7];rw[if_neg]
 ·exact hg
 ·intro e;subst e;rw[h]at hg;simp at hg
theorem le13:TLe T1 T3:=fun g y hg=>X3 (l:=(Yf,.base (rfO T1 p_rope_Nodes))::t1) (by decide +kernel) g y (X3 (l:=t1) (by decide +kernel) g y hg)
theorem le3:TLe Tb T3:=fun g y hg=>le13 g y (le1 g y hg)
theorem up3{r:AV × St}(h:S Tb f args st=some r):S T3 f args st=some r:=ZOq le3 _ _ _ _ h
theorem up1{r:AV × St}(h:S Tb f args st=some r):S T1 f args st=some r:=ZOq le1 _ _ _ _ h
theorem Zqg{r:AV × St}(h:S T1 f args st=some r):S T3 f args st=some r:=ZOq le13 _ _ _ _ h
theorem ZlF(l:List B8):Q7 1 (l.map AV.str)=true:=by
 induction l with
 | nil=>rfl
 | cons b s ih=>rw[jC,Q7,List.all_cons];exact Bool.and_eq_true_iff.2 ⟨rfl,ih⟩
def Jr(w:List Nat)(h:Nat):List Nat:=if h∈w then w else w++[h]
def Z6(v:List Nat):List Nat:=v.foldl Jr []
theorem Zi1(v:List Nat)(h:Nat):Z6 (v++[h])=Jr (Z6 v) h:=by unfold Z6;rw[List.foldl_append];rfl
theorem ZlG{w:List Nat}{h x:Nat}:x∈Jr w h↔x∈w\/x=h:=by
 unfold Jr
 split
 ·rename_i q;exact⟨.inl,fun p=>p.elim id fun e=>e▸q⟩
 ·simp
theorem Ym:∀v:List Nat,(Z6 v).Nodup/\(∀x,x∈Z6 v↔x∈v)/\(Z6 v).length<=v.length:=by
 intro v
 have key:∀(v w:List Nat),w.Nodup->(v.foldl Jr w).Nodup/\(∀x,x∈v.foldl Jr w↔x∈w\/x∈v)/\(v.foldl Jr w).length<=w.length+v.length:=by
  intro v
  induction v with
  | nil=>intro w h;exact⟨h,by simp,by simp⟩
  | cons a v ih =>
   intro w h
   have h1:(Jr w a).Nodup:=by
    unfold Jr;split
    ·exact h
    ·rename_i q
     rw[List.nodup_append]
     refine⟨h,by simp,fun x hx y hy=>?_⟩
     rw[List.mem_singleton]at hy;intro e;rw[e,hy]at hx;exact q hx
   obtain⟨i1,i2,i3⟩:=ih (Jr w a) h1
   refine⟨i1,fun x=>?_,?_⟩
   ·rw[List.foldl_cons,i2,ZlG,List.mem_cons,or_assoc]
   ·have:(Jr w a).length<=w.length+1:=by unfold Jr;split<;>simp
    rw[List.foldl_cons,List.length_cons];omega
 have:=key v [] List.nodup_nil
 exact⟨this.1,fun x=>by have h:=this.2.1 x;simpa [Z6] using h,by have h:=this.2.2;simpa [Z6] using h⟩
def ndL(A:List (Bool × List Blk))(la b:Nat)(r:Ro)(w:List Nat):List Blk:=[.arr 5 0 [r.av],.arr 1 w.length (w.map Zt),.arr 1 0 [.ref A.length 1 w.length 0 w.length],.map (YI w),.arr 1 0 [.map A.length 3],.arr 1 0 [.ptr la (b+5) 0 0 0],.arr 5 0 [r.av]]
def ndF(A:List (Bool × List Blk))(la b:Nat)(r:Ro)(v:List Nat):St:=⟨A,false,ndL A la b r (Z6 v)⟩
def ndK(A:List (Bool × List Blk)):List (Nat × Nat):=[(A.length,1),(A.length,2),(A.length,3)]
def ndB(A:List (Bool × List Blk))(w:List Nat):List Blk:=[.arr 1 w.length (w.map Zt),.arr 1 0 [.ref A.length 1 w.length 0 w.length],.map (YI w)]
theorem ZrQ(A:List (Bool × List Blk))(la b:Nat)(r:Ro)(w:List Nat):Cl ⟨A,false,ndL A la b r w⟩ (ndK A) (ndB A w):=by
 refine⟨by simp[ndK],rfl,fun k hk=>?_,fun j lv ix b h1 h2=>?_⟩
 ·simp only[ndK,List.mem_cons,List.not_mem_nil,or_false]at hk
  rcases hk with rfl|rfl|rfl<;>simp[St.wr]
 ·match j,h1,h2 with
  | 0,h1,h2=>obtain⟨rfl,rfl⟩:=Prod.mk.inj (Option.some.inj h1);obtain rfl:=Option.some.inj h2;exact St.get_cur ..
  | 1,h1,h2=>obtain⟨rfl,rfl⟩:=Prod.mk.inj (Option.some.inj h1);obtain rfl:=Option.some.inj h2;exact St.get_cur ..
  | 2,h1,h2=>obtain⟨rfl,rfl⟩:=Prod.mk.inj (Option.some.inj h1);obtain rfl:=Option.some.inj h2;exact St.get_cur ..
  | n+3,h1,h2=>simp[ndK]at h1
theorem Zqh(A:List (Bool × List Blk))(la b:Nat)(r:Ro)(w u:List Nat):Jh ⟨A,false,ndL A la b r w⟩ (ndK A) (ndB A u)=⟨A,false,ndL A la b r u⟩:=by
 simp[Jh,St.upd,ndL,ndK,ndB]
theorem Zm3{N:ZJ}{b:Nat}{r:Ro}(hc7:∃rest,caps=.any::.any::.any::.any::.any::.any::.any::.ptr A.length 2 0 0 0::.ptr A.length 4 0 0 0::rest/\rest.length=24)(v:List Nat)(hlim:(Z6 v).length<4000000000)(h:Nat)(x:Nd)(more:List (Bool × List Blk))(ro:Bool)(L:List Blk)(hx:lk N h=some x):
 ZAp (S T1) itS p_rope_Nodes.nt p_rope_Nodes.rng (.int .u64 (h:Nat)::ZlE x::caps) ⟨(ndF A la b r v).ps++more,ro,L⟩=some (.bool true,⟨(ndF A la b r (v++[h])).ps++more,ro,L⟩):=by
 obtain⟨rest,rfl,hrl⟩:=hc7;unfold ndF;rw[Zi1]
 generalize Z6 v=w at *
 have hwl:(w.map Zt).length=w.length:=List.length_map ..
 have H:=(ZrQ A la b r w).more more ro L
 refine ZhK (by simp[hrl];rfl) (fun A' hA'=>?_)
 rw[<- H.same]at hA'
 have g2:=fun L'=>H.old hA' rfl rfl (ro:=false) (L:=L') (j:=1) rfl rfl
 have g3:=fun L'=>H.old hA' rfl rfl (ro:=false) (L:=L') (j:=2) rfl rfl
 have g4:∀L',St.get ⟨A',false,L'⟩ A.length 4=some (.arr 1 0 [.map A.length 3]):=fun L'=>by
  rw[hA',H.same];exact ZS Y (ZIx (s:=⟨A,false,ndL A la b r w⟩) (St.get_cur ..) more ro L)
 have hlk:=fun L'=>ZGD (g3 L') h
 unfold ZlE
 by_cases hm:h∈w
 ·simp only[decide_eq_true hm]at hlk
  repeat'(first|refine ZD ?_|refine ZG Y ?_|refine ZB Y ?_|refine ZO ?_)
  refine⟨rfl,?_⟩
  repeat'(first|refine ZE ?_|refine ZD ?_|refine ZG Y ?_|refine ZB Y ?_|refine ZC ?_|refine ZH Y ?_|refine Jo Y Y ?_|refine QB Y (g4 _) Y Y ?_|refine Jz Y Y (hlk _) ?_|refine ZI ?_|refine ZL ?_|refine ZO ?_|refine Z0 ?_)
  all_goals try contradiction
  refine⟨rfl,hA'.trans ?_⟩;rw[H.same];unfold Jr;rw[if_pos hm]
 ·simp only[decide_eq_false hm]at hlk
  repeat'(first|refine ZD ?_|refine ZG Y ?_|refine ZB Y ?_|refine ZO ?_)
  refine⟨rfl,?_⟩
  repeat'(first|refine ZE ?_|refine ZD ?_|refine ZG Y ?_|refine ZB Y ?_|refine ZC ?_|refine ZQ Y ?_|refine Jo Y Y ?_|refine QB Y (g4 _) Y Y ?_|refine Jz Y Y (hlk _) ?_|refine ZL ?_)
  all_goals try contradiction
  refine ZmY H hA' Y Y (j:=2) Y Y Y Y Y Y Y (ZOp h w hm) (fun A2 hA2 hl2=>?_)
  have k2:=fun L'=>H.old hA2 rfl rfl (ro:=false) (L:=L') (j:=1) rfl rfl
  repeat'(first|refine QB Y (k2 _) Y Y ?_|refine ZD ?_|refine ZG Y ?_|refine ZB Y ?_|refine ZC ?_|refine QM Y Y Y Y ?_)
  refine Zjk (es:=w.map Zt) (ys:=[.int .u64 h]) H hA2 Y Y (j:=0) Y Y (by rw[hwl];rfl) rfl rfl rfl rfl (by rw[hwl,List.length_singleton];omega) (by decide) (fun A3 hA3 hl3=>?_)
  refine ZmX H hA3 Y Y (j:=1) Y Y Y Y Y (Ja _ (Nat.lt_succ_self _)) Y (fun A4 hA4 hl4=>?_)
  repeat'(first|refine ZB Y ?_|refine ZO ?_|refine Z0 ?_)
  refine⟨rfl,hA4.trans ?_⟩;have e:=Zqh A la b r w (w++[h]);unfold Jr;rw[if_neg hm,<- e]
  rw[<- ZR9 (fun k hk=>by simp only[ndK,List.mem_cons,List.not_mem_nil,or_false]at hk;rcases hk with rfl|rfl|rfl<;>exact Nat.le_refl _)]
  simp only[ndB,lL,List.length_singleton,List.length_map,List.map_append];rfl
theorem ZOr{b:Nat}{N:ZJ}(hN:GoodN N)(hR:Rd st la (b+5) N){r:Ro}(hr:RtOk N r):S T3 Yf [.ptr la (b+5) 0 0 0,r.av] st=some (.tup [.lit ((Z6 (Zm N r)).map Zt),.int .i64 0],st):=by
 refine s_rf (rf:=p_rope_Nodes) Y (fun A hA=>?_)
 have hK:=fun L=>ZVo hN (hR.push hA (ro:=false) (L:=L)) hr
 have hNd:=fun L=>up1 (Zj3 (A:=A) (L:=L) (la:=la) (b:=b) (r:=r))
 have hlen:=Xz hN hr
 have hseq:=fun (caps:LV) (hcw:Ze caps=caps) (o:LV->St->OS) hy=>Zp2 (TY:=ZSs T1 (A.length+1) o) (fun g y hg=>Zj0 Zm2 _ _ g y (le1 g y hg)) (σ:=ndF A la b r) hN (lv:=A.length+1) (caps:=caps) hcw (fun _=>hR.push hA) (fun _=>rfl) (B:=100000000) hy hr (by omega) (l1:=A.length) (i1:=5) (l4:=A.length) (i4:=6) (fun _=>St.get_cur ..) (fun _=>St.get_cur ..)
 have hS:=hseq (ZJ0 33 [(7,.ptr A.length 2 0 0 0),(8,.ptr A.length 4 0 0 0),(19,.func (.func JY) [] [.ptr A.length 5 0 0 0,.ptr A.length 6 0 0 0]),(20,.any)]) rfl (ZAp (S T1) itS p_rope_Nodes.nt p_rope_Nodes.rng) (fun v h x more ro L hv hx=>Zj1 _ _ _ _ _ (Zm3 ⟨_,rfl,rfl⟩ v (by have:=(Ym v).2.2;omega) h x more ro L hx))
 unfold ndF at hS
 generalize hes:Z6 (Zm N r)=l at *
 have e0:ndL A la b r (Z6 [])=ndL A la b r []:=rfl;rw[e0]at hS;unfold ndL at hS
 unfold Ro.av at *
 repeat'(first|refine ZE ?_|refine ZD ?_|refine ZG Y ?_|refine ZU Y Y Y Y ?_|refine ZB Y ?_|refine ZC ?_|(refine cm0 Y Y Y ?_ ?_<;>intro _<;>try omega)|refine ZH Y ?_|refine Zi Y Y Y ?_|refine ZET Y ?_|refine ZCN Y ?_|refine ZA Y Y Y (hK _) ?_|refine ZI ?_)
 all_goals try contradiction
 refine Zv Y Y Y (by simp only[ZY,QD,if_pos (Nat.lt_succ_self _)]) Y Y ?_
 repeat'(first|refine ZE ?_|refine ZD ?_|refine ZG Y ?_|refine ZU Y Y Y Y ?_|refine ZB Y ?_|refine ZC ?_|refine ZA Y Y Y (hNd _) ?_|refine ZI ?_|refine ZO ?_)
 refine .inr ⟨rfl,_,Zmz (g:=JY) Y (by decide) hS,?_⟩
 repeat'(first|refine ZE ?_|refine ZD ?_|refine ZG Y ?_|refine ZU Y Y Y Y ?_|refine ZB Y ?_|refine ZC ?_|refine ZI ?_|refine ZP ?_|refine ZO ?_)
 exact ZEU hA (.inr Y) Y Y (by simp) (fun v hv=>by obtain⟨x,_,rfl⟩:=List.mem_map.1 hv;rfl) rfl rfl
end Go.Q15
namespace Go.QAbs
open Go.RowKit (Below)
open Go.ChangeMaps (setBlock)
variable {a:Act}{ro:Bool}{c:Code}{e:Env}{f:FuncId}{A:List (Bool × List Blk)}{args caps cls:LV}{l:List Nat}{clock d i ip ix j la mx n ob ox rx ver wb:Nat}{o:Oper}{s st:St}
def ZSA:Obj->Bool
 | .mapIter _ _ _ _=>true
 | _=>false
structure Jk(r:Nat)(W W':World):Prop where
 os:W'.os=W.os
 tape:W'.tape=W.tape
 output:W'.output=W.output
 size:W.heap.size<=W'.heap.size
 blk:∀i,i<W.heap.size->i≠r->W'.heap[i]?=W.heap[i]?
 it:W.heap.size<=r\/∃o o',W.heap[r]?=some o/\ZSA o=true/\W'.heap[r]?=some o'/\ZSA o'=true
section
variable {P:Program}{W0:World}{B0:Bse}{st st':St}{ρ:Rho}{W W':World}{e:Env}{r:Nat}
theorem Jk.heap(h:Jk r W W'){o:Obj}(ho:W.heap[i]?=some o)(hi:ZSA o=false):W'.heap[i]?=some o:=by
 have hlt:=QR ho
 by_cases e:i=r
 ·subst e
  rcases h.it with q|⟨o1,o2,q1,q2,_⟩
  ·omega
  ·rw[q1]at ho;simp only[oJ]at ho;subst ho;rw[q2]at hi;simp at hi
 ·rw[h.blk i hlt e];exact ho
theorem Jk.cell(h:Jk r W W'){a:Addr}{v:Value}(hv:W.cell? a=some v):W'.cell? a=some v:=by
 unfold World.cell? at hv ⊢
 cases ho:W.heap[a.block]? with
 | none=>rw[ho]at hv;simp at hv
 | some o =>
  rw[ho]at hv
  cases o<;>simp at hv
  rename_i c t f
  rw[h.heap ho rfl]
  simpa using hv
theorem Jk.frozen(h:Jk r W W'){a:Addr}(hv:(W.cell? a).isSome=true):W'.frozen? a=W.frozen? a:=by
 unfold World.cell? at hv
 cases ho:W.heap[a.block]? with
 | none=>rw[ho]at hv;simp at hv
 | some o =>
  rw[ho]at hv
  cases o<;>simp at hv
  rename_i c t f
  unfold World.frozen?;rw[h.heap ho rfl,ho]
theorem Rel.jk(h:Rel W0 B0 st ρ W)(hj:Jk r W W')(hr:B0.n<=r):Goes W0 B0 st ρ W st ρ W':=by
 have hle:∀m,(cx st ρ W m).le (cx st ρ W' m):=fun m=>⟨fun b o v q=>⟨hj.cell q.1,q.2⟩,fun _ _ _ _ _ _ q=>q,fun _ _ _ _ _ _ q=>q,fun _ _ _ q=>q,fun _ _ _ q=>q⟩
 have hb0:=h.b0
 have hbel:BelowS B0 W0 W':=by
  refine h.below.trans ⟨⟨hj.os,hj.tape,hj.output,hj.size,fun i hi=>hj.blk i (by omega) (by omega)⟩,fun i ob hi hs=>hj.heap hi (by cases ob<;>simp_all [Jd,ZSA])⟩
 refine⟨⟨hbel,Nat.le_trans h.b0 hj.size,h.yl,?_,h.sep,?_,h.msep⟩,⟨rfl,fun m _=>hle m,fun _ r h=>⟨r,h,rfl,fun _=>rfl⟩,rfl,fun _=>rfl,rfl⟩⟩
 ·intro lv ix w ver es hg
  obtain⟨a1,a2,a3⟩:=h.arr lv ix w ver es hg
  refine⟨a1,fun i e he=>?_,fun j hj'=>?_⟩
  ·obtain⟨x,h1,h2,h3⟩:=a2 i e he
   exact⟨x,h1.mono (hle lv),h2,h3.mono fun _ _ _=>hj.cell⟩
  ·obtain⟨m1,m2,m3⟩:=a3 j hj'
   obtain⟨u,hu⟩:=Option.isSome_iff_exists.1 m2
   exact⟨m1,by rw[hj.cell hu];rfl,by rw[hj.frozen m2];exact m3⟩
 ·intro lv ix es hg
  obtain⟨m1,en,clock,m2,m3,m4⟩:=h.map lv ix es hg
  refine⟨m1,en,clock,hj.heap m2 Y,m3,fun i k v hk=>?_⟩
  obtain⟨n1,x,n2,n3,n4⟩:=m4 i k v hk;exact⟨n1,x,n2,n3.mono (hle lv),n4.mono (hle lv)⟩
theorem Jk.trans{W W1 W2:World}{r:Nat}(hr:W.heap.size<=r)(h:Jk r W W1)(k:Jk r W1 W2):Jk r W W2 :=
 ⟨k.os.trans h.os,k.tape.trans h.tape,k.output.trans h.output,Nat.le_trans h.size k.size,fun i hi hne=>(k.blk i (Nat.lt_of_lt_of_le hi h.size) hne).trans (h.blk i hi hne),.inl hr⟩
theorem Jk.step{w1:World}(h1:w1=W\/w1=W.drew){o o':Obj}(ho:W.heap[r]?=some o)(hi:ZSA o=true)(hi':ZSA o'=true):Jk r W (setBlock w1 r o'):=by
 have hh:w1.heap=W.heap:=by rcases h1 with rfl|rfl<;>rfl
 have hlt:=QR ho
 refine⟨by rcases h1 with rfl|rfl<;>rfl,by rcases h1 with rfl|rfl<;>rfl,by rcases h1 with rfl|rfl<;>rfl,by simp[setBlock,hh],fun i hi hne=>?_,.inr ⟨o,o',ho,hi,?_,hi'⟩⟩
 ·simp only[setBlock,hh]
  rw[Array.getElem?_setIfInBounds,if_neg (fun q=>hne q.symm)]
 ·simp only[setBlock,hh]
  rw[Array.getElem?_setIfInBounds,if_pos rfl,if_pos hlt]
theorem ZOs{ops:Array Oper}{Q:Exit->Act->World->Prop}{K:Act->World->Prop}{x:Value}(ho:ops[i]?=some o)(hg:o.guard=none)(hnd:∀c,o.op≠.defer c)
 (hrun:(execOp a.eval o).run P W=.ok (.value x) W') (hK:K (a.put o.dst x) W'):wpOpIn (fen none) 0 P ops Q i K a W:=by
 unfold wpOpIn
 have hw:Region.wanted o (yielded ops a.tmps)=true:=by unfold Region.wanted;rw[hg]
 simp only[ho,hw,if_true]
 refine⟨fun _ _=>trivial,?_⟩
 rw[Oper.semAt_eq _ _ _ hnd,hrun];exact hK
theorem ZIz{t k el:TypeId}{m:Operand}(hop:o.op=.range t m)(ht:P.underlying t=some (.map k el)){b:Nat}{en:Array MapEntry}(hm:a.eval m=.map (some b))(hb:W.heap[b]?=some (.map en clock)):
 (execOp a.eval o).run P W=.ok (.value (.pointer (some ⟨W.heap.size,0,none⟩))) (W.alloc (.mapIter (some b) clock #[] clock)):=by
 simp only[execOp,hop,Instr.range,hm,Sem.run_bind,Zz ht,Result.andThen_ok,ZAn hb,Sem.run_pure];rfl
def Yy(en:Array MapEntry)(seen:Array Nat):List MapEntry:=(leftOf en seen).toList
theorem run_nextOp{it:Operand}(hop:o.op=.next it false){r bm c0:Nat}{seen:Array Nat}{en:Array MapEntry}(hit:a.eval it=.pointer (some ⟨r,0,none⟩))
 (hr:W.heap[r]?=some (.mapIter (some bm) clock seen c0)) (hb:W.heap[bm]?=some (.map en clock)) (hf:MapFit en clock n) (hc:clock<=c0) :
 (Yy en seen=[]/\(execOp a.eval o).run P W=.ok (.value (.tuple #[.bool false])) W) \/
 ∃x∈Yy en seen,∃w1:World,(w1=W\/w1=W.drew)/\(execOp a.eval o).run P W=.ok (.value (.tuple #[.bool true,x.key,x.val])) (setBlock w1 r (.mapIter (some bm) clock (seen.push x.born) clock)):=by
 rcases run_next_at (P:=P) W o.type r bm clock c0 seen en clock hr hb hf.lt hc with⟨h1,h2⟩|⟨x,hx,w1,hw,h2⟩
 ·refine .inl ⟨List.eq_nil_of_length_eq_zero (by simpa [Yy] using h1),?_⟩
  simp only[execOp,hop,hit];exact Y5 h2
 ·refine .inr ⟨x,hx,w1,hw,?_⟩
  simp only[execOp,hop,hit];exact Y5 h2
theorem ZI0{it:Operand}(hop:o.op=.entry it){r bm:Nat}{seen:Array Nat}{en:Array MapEntry}{x:MapEntry}(hit:a.eval it=.pointer (some ⟨r,0,none⟩))
 (hr:W.heap[r]?=some (.mapIter (some bm) clock (seen.push x.born) clock)) (hb:W.heap[bm]?=some (.map en clock)) (hf:MapFit en clock n) (hx:x∈en.toList) :
 (execOp a.eval o).run P W=.ok (.value (.tuple #[x.key,x.val])) W:=by
 simp only[execOp,hop,hit];exact Y5 (run_entry_at W r bm clock seen en clock x hr hb hx hf.nd)
theorem ZSB(en:Array MapEntry):Yy en #[]=en.toList:=by
 simp[Yy,leftOf]
theorem ZA0{en:Array MapEntry}{seen:Array Nat}{x:MapEntry}(h:x∈Yy en seen):x∈en.toList:=by
 simp only[Yy,leftOf,Array.toList_filter,List.mem_filter]at h;exact h.1
theorem ZGE{en:Array MapEntry}(hf:MapFit en clock n){seen:Array Nat}{x:MapEntry}(h:x∈Yy en seen):(Yy en seen).Perm (x::Yy en (seen.push x.born)):=by
 have key:∀(l:List MapEntry),(l.map (·.born)).Nodup->x∈l->(seen.contains x.born=false) ->
  (l.filter fun e=>!seen.contains e.born).Perm (x::l.filter fun e=>!(seen.push x.born).contains e.born):=by
  intro l
  induction l with
  | nil=>intro _ h;simp at h
  | cons y l ih =>
   intro hn hx hs;simp only[jC,List.nodup_cons]at hn
   have hc:∀z:MapEntry,(seen.push x.born).contains z.born=(seen.contains z.born || z.born == x.born):=by
    intro z;rw[Bool.eq_iff_iff];simp[or_comm]
   by_cases hyx:y=x
   ·subst hyx
    simp only[List.filter_cons,hs,Bool.not_false,if_true,hc,beq_self_eq_true,Bool.or_true,Bool.not_true,jB,if_false];refine .cons _ ?_
    have:(l.filter fun e=>!seen.contains e.born)=l.filter fun e=>!(seen.contains e.born || e.born == y.born):=by
     apply List.filter_congr
     intro z hz
     have:z.born≠y.born:=fun q=>hn.1 (List.mem_map.2 ⟨z,hz,q⟩)
     simp[this]
    rw[this]
   ·have hx' : x ∈ l := by
     rcases List.mem_cons.1 hx with q|q
     ·exact absurd q.symm hyx
     ·exact q
    have hb:y.born≠x.born:=fun q=>hn.1 (List.mem_map.2 ⟨x,hx',q.symm⟩)
    have ih':=ih hn.2 hx' hs;simp only[hc]at ih' ⊢;simp only[List.filter_cons]
    have hyb:(y.born == x.born)=false:=by simpa using hb
    rw[hyb,Bool.or_false]
    split
    ·exact (List.Perm.cons _ ih').trans (.swap ..)
    ·exact ih'
 have hm:=h;simp only[Yy,leftOf,Array.toList_filter,List.mem_filter,Bool.not_eq_true']at hm
 have:=key en.toList hf.nd hm.1 hm.2
 simpa [Yy,leftOf] using this
end
section
variable {P:Program}{T:Tab}{O:Orc}{nt:Nat}{W0:World}{B0:Bse}{st st':St}{ρ:Rho}{W W':World}{e:Env}{r:Nat}
theorem Act.put_look{x:Value}(h:d<a.tmps.size):(a.put (some d) x).eval (.tmp d)=x:=by
 simp[Act.put,Act.eval,h]
theorem Act.put_other{t:Nat}{x:Value}(h:d≠t):(a.put (some d) x).eval (.tmp t)=a.eval (.tmp t):=by
 simp[Act.put,Act.eval,Array.getElem?_setIfInBounds,h]
theorem ZA1{t:Operand}{k:Nat}{xs:Array Value}{x:Value}(hop:o.op=.extract t k)(ht:a.eval t=.tuple xs)(hx:xs[k]?=some x):(execOp a.eval o).run P W=.ok (.value x) W:=by
 simp[execOp,hop,ht,Instr.extract,hx,Sem.run]
def Zi2(W:World)(r:Nat):Array Nat:=match W.heap[r]? with|some (.mapIter _ _ s _)=>s|_=>#[]
structure Itr(W:World)(b r clock:Nat)(en:Array MapEntry)(seen:Array Nat):Prop where
 map:W.heap[b]?=some (.map en clock)
 it:∃c0,clock<=c0/\W.heap[r]?=some (.mapIter (some b) clock seen c0)
theorem Itr.seen{b:Nat}{en:Array MapEntry}{seen:Array Nat}(h:Itr W b r clock en seen):Zi2 W r=seen:=by
 obtain⟨c0,_,h2⟩:=h.it
 simp[Zi2,h2]
theorem ZLg{en:Array MapEntry}{b:Nat}(hf:MapFit en clock n){o3 o4:Oper}{it:Operand}{nx ok i6 id:Nat}{body:Code}{Q:Exit->Act->World->Prop}
 (h3:o3.op=.next it false) (g3:o3.guard=none) (d3:o3.dst=some nx) (h4:o4.op=.extract (.tmp nx) 0) (g4:o4.guard=none) (d4:o4.dst=some ok)
 (I:Array Nat->Act->World->Prop)
 (hI:∀seen a W,I seen a W->a.eval it=.pointer (some ⟨r,0,none⟩)/\nx<a.tmps.size/\ok<a.tmps.size/\Itr W b r clock en seen)
 (hdone:∀seen a W,I seen a W->Yy en seen=[]->Q .normal ((a.put (some nx) (.tuple #[.bool false])).put (some ok) (.bool false)) W)
 (hstep:∀seen a W x w1,I seen a W->x∈Yy en seen->(w1=W\/w1=W.drew)->Itr (setBlock w1 r (.mapIter (some b) clock (seen.push x.born) clock)) b r clock en (seen.push x.born) ->
  (setBlock w1 r (.mapIter (some b) clock (seen.push x.born) clock)).heap[r]?=some (.mapIter (some b) clock (seen.push x.born) clock)->Jk r W (setBlock w1 r (.mapIter (some b) clock (seen.push x.born) clock)) ->
  body.wpIn (fen none) 0 P (fun ex a2 W2=>ex=.normal/\I (seen.push x.born) a2 W2) ((a.put (some nx) (.tuple #[.bool true,x.key,x.val])).put (some ok) (.bool true)) (setBlock w1 r (.mapIter (some b) clock (seen.push x.born) clock)))
 {a:Act} (h0:I #[] a W):(Code.block id (.loop (.seq (.region i6 #[o3,o4] false) (.seq (.cond (.tmp ok) .skip (.exit id)) body)))).wpIn (fen none) 0 P Q a W:=by
 refine wpIn_block (wpIn_loop (fun a w=>∃seen,I seen a w) (fun _ w=>(Yy en (Zi2 w r)).length) ⟨_,h0⟩ ?_)
 rintro a W ⟨seen,hi⟩
 obtain⟨e1,e2,e3,e4⟩:=hI _ _ _ hi;obtain⟨c0,hc,hit⟩:=e4.it;refine wpIn_seq (wpIn_region ?_)
 show wpOpsIn (fen none) 0 P #[o3,o4] _ [0,1] a W
 rw[wpOpsIn_cons]
 have nd3:∀c,o3.op≠.defer c:=fun c q=>by rw[h3]at q;simp at q
 have nd4:∀c,o4.op≠.defer c:=fun c q=>by rw[h4]at q;simp at q
 rcases run_nextOp (P:=P) h3 e1 hit e4.map hf hc with⟨k1,k2⟩|⟨x,hx,w1,hw,k2⟩
 ·refine ZOs (o:=o3) Y g3 nd3 k2 ?_
  rw[wpOpsIn_cons,d3];refine ZOs (o:=o4) Y g4 nd4 (ZA1 h4 (Act.put_look e2) (x:=.bool false) Y) ?_;rw[d4]
  show Code.wpIn _ _ _ _ _ _ _
  refine wpIn_seq (wpIn_cond_false (Act.put_look (by simpa [Act.put] using e3)) (wpIn_exit ?_))
  show Exit.inBlock id Q (.exit id) _ _
  simp only[Exit.inBlock,if_true];exact hdone _ _ _ hi k1
 ·refine ZOs (o:=o3) Y g3 nd3 k2 ?_
  rw[wpOpsIn_cons,d3];refine ZOs (o:=o4) Y g4 nd4 (ZA1 h4 (Act.put_look e2) (x:=.bool true) Y) ?_;rw[d4]
  show Code.wpIn _ _ _ _ _ _ _
  refine wpIn_seq (wpIn_cond_true (Act.put_look (by simpa [Act.put] using e3)) (wpIn_skip ?_))
  show Code.wpIn _ _ _ _ _ _ _
  have hjk:=Jk.step (W:=W) hw hit rfl (o':=.mapIter (some b) clock (seen.push x.born) clock) rfl
  have hnew:(setBlock w1 r (.mapIter (some b) clock (seen.push x.born) clock)).heap[r]?=some (.mapIter (some b) clock (seen.push x.born) clock):=by
   have hlt:=QR hit
   have hh:w1.heap=W.heap:=by rcases hw with rfl|rfl<;>rfl
   simp[setBlock,hh,hlt]
  refine wpIn_mono (hstep seen a W x w1 hi hx hw ⟨hjk.heap e4.map Y,clock,Nat.le_refl _,hnew⟩ hnew hjk) ?_
  rintro ex a2 W2 ⟨rfl,h2⟩
  refine⟨⟨_,h2⟩,?_⟩;rw[(hI _ _ _ h2).2.2.2.seen,e4.seen,(ZGE hf hx).length_eq]
  simp
end
structure OpIs(o:Oper)(op:Op)(d:Nat):Prop where
 op:o.op=op
 gd:o.guard=none
 dst:o.dst=some d
theorem Qi{P:Program}{W W':World}{ops:Array Oper}{op:Op}{Q:Exit->Act->World->Prop}{K:Act->World->Prop}{x:Value}(h:OpIs o op d)(ho:ops[i]?=some o)(hnd:∀c,op≠.defer c)
 (hrun:(execOp a.eval o).run P W=.ok (.value x) W') (hK:K (a.put (some d) x) W'):wpOpIn (fen none) 0 P ops Q i K a W :=
 ZOs ho h.gd (fun c q=>hnd c (h.op.symm.trans q)) hrun (by rw[h.dst];exact hK)
section
variable {P:Program}{W0:World}{B0:Bse}{st st':St}{ρ:Rho}{W W':World}{e:Env}{a:Act}
theorem QT{x:Operand}(hop:o.op=.move x\/o.op=.assign x):(execOp a.eval o).run P W=.ok (.value (a.eval x)) W:=by
 rcases hop with h|h<;>simp[execOp,h]
theorem ZdE{op:BinOp}{t yt:TypeId}{x y:Operand}{k:IntKind}{m n r:Int}(hop:o.op=.binOp op t x y yt)(hx:a.eval x=.int k m)(hy:a.eval y=.int k n)
 (h:ZD7 op (.int k m) (.int k n)=some (.int k r)):(execOp a.eval o).run P W=.ok (.value (.int k r)) W:=by
 let C:Cx:=⟨fun _ _ _=>True,fun _ _ _ _ _ _=>True,fun _ _ _ _ _ _=>True,fun _ _ _=>True,fun _ _ _=>True⟩
 obtain⟨z,hz,hv⟩:=Zdo (P:=P) (W:=W) (t:=t) (ox:=x) (oy:=y) (C:=C) h (.int k m) (.int k n)
 have:=Jf (hv C);subst this
 simp only[execOp,hop,hx,hy];exact Y5 hz
end
theorem ZpY{n:Int}(h:0<=n)(h2:n<4611686018427387904):IntKind.i64.wrap n=n:=by
 have h1:n % 2 ^ 64=n:=Int.emod_eq_of_lt h (by omega)
 simp only[IntKind.wrap,IntKind.bits,IntKind.signed,h1]
 rw[if_neg (by simp;omega)]
section
variable {P:Program}{T:Tab}{O:Orc}{nt:Nat}{W0:World}{B0:Bse}{st st':St}{ρ:Rho}{W W':World}{e:Env}{r:Nat}
theorem CodeOk.seq{d:Code}{F G:Run}(h:CodeOk none P O nt W0 B0 c F)(k:CodeOk none P O nt W0 B0 d G):CodeOk none P O nt W0 B0 (.seq c d) (fun e st=>(F e st).bind (JW G)):=by
 intro e st ρ W a r Q hx hr he hn hQ;simp only[oB]at hx;obtain⟨⟨xx,e1,st1⟩,hx1,hx2⟩:=hx;refine wpIn_seq (h e st ρ W a (xx,e1,st1) _ hx1 hr he hn ?_);intro a' ρ' W' g he' hs' hd'
 cases xx with
 | norm=>exact k e1 st1 ρ' W' a' r Q hx2 g.rel he' (by omega) (hQ.after g hs' hd')
 | ex id=>simp only[JW,oJ]at hx2;subst hx2;exact hQ a' ρ' W' g he' hs' hd'
 | ret=>simp only[JW,oJ]at hx2;subst hx2;exact hQ a' ρ' W' g he' hs' hd'
theorem ZZu(hm:P.follows .mixedOrders=true)(hT:TabOk P T){hs hs':List Hint}{pc:PC}(hc:Jw P nt hs c=some (pc,hs'))(hg:KG P W0 B0):CodeOk none P (S T) nt W0 B0 c (exec (S T) itS pc):=by
 intro e st ρ W a r Q hx hr he hn hQ;obtain⟨n,hx⟩:=ZB1 hx
 exact exec_ok (ro:=none) (Xe hm (K:=fun _ _=>True) hT.y n) ⟨trivial,hg⟩ hm n c hs hs' pc hc e st ρ W a r Q hx hr he hn hQ
def toM(P:Program)(nt:Nat)(k:Nat):List Hint->Code->Option ((PC × Code × PC) × List Hint)
 | hs,.seq a b =>
  match Jw P nt hs a with
  | some r=>(toM P nt k r.2 b).map fun q=>((.seq r.1 q.1.1,q.1.2.1,q.1.2.2),q.2)
  | none=>(Jw P nt (hs.drop k) b).map fun r=>((.skip,a,r.1),r.2)
 | _,_=>none
def ZhN(O:Orc)(I:Run->Run)(X:Run)(pre post:PC):Run:=fun e st=>(exec O I pre e st).bind (JW fun e st=>(X e st).bind (JW (exec O I post)))
theorem Zqi(hm:P.follows .mixedOrders=true)(hT:TabOk P T){k:Nat}{X:Run}(hg:KG P W0 B0):∀(c:Code) (hs hs':List Hint) (p1 p2:PC) (x:Code),toM P nt k hs c=some ((p1,x,p2),hs')->CodeOk none P (S T) nt W0 B0 x X ->
 CodeOk none P (S T) nt W0 B0 c (ZhN (S T) itS X p1 p2):=by
 intro c
 induction c with
 | seq a b _ ihb =>
  intro hs hs' p1 p2 x hc hX
  have hc':(match Jw P nt hs a with
   | some r=>(toM P nt k r.2 b).map fun q=>(((.seq r.1 q.1.1,q.1.2.1,q.1.2.2):PC × Code × PC),q.2)
   | none=>(Jw P nt (hs.drop k) b).map fun r=>((.skip,a,r.1),r.2))=some ((p1,x,p2),hs'):=by cases hs<;>exact hc
  cases ha:Jw P nt hs a with
  | some q =>
   obtain⟨pa,h1⟩:=q;rw[ha]at hc';simp only[oM,jP]at hc';obtain⟨⟨⟨q1,q2,q3⟩,h2⟩,hy,⟨rfl,rfl,rfl⟩,rfl⟩:=hc'
   have:=(ZZu hm hT ha hg).seq (ihb h1 h2 q1 q3 q2 hy hX)
   intro e st ρ W a r Q hx;refine this e st ρ W a r Q ?_;simp only[ZhN,exec]at hx;rw[ZCL]at hx;exact hx
  | none =>
   rw[ha]at hc';simp only[oM,jP]at hc';obtain⟨⟨pb,h1⟩,hb,⟨rfl,rfl,rfl⟩,rfl⟩:=hc'
   have:=hX.seq (ZZu hm hT hb hg)
   intro e st ρ W a r Q hx;refine this e st ρ W a r Q ?_;simp only[ZhN,exec,oS,JW]at hx;exact hx
 | _=>intro hs hs' p1 p2 x hc;cases hs<;>simp[toM]at hc
def fnO(F:Run)(rs:List RV):LV->St->OS:=fun args st=>(F (Qc 0 args) st.push).bind (JD false rs)
theorem Zm4{fn:Func}{F:Run}{rs:List RV}(hf:P.funcs[f]?=some fn)(hb:fn.body=some c)(hF:∀W0 B0,KG P W0 B0->CodeOk none P O fn.ntmps W0 B0 c F)(hX:FrX F)
 (hrs:fn.results.toList.mapM (ZBj P)=some rs):ZHf P f (.base (fnO F rs)):=by
 refine⟨fun args=>ZgT hX _ rs,?_⟩
 intro args st v st' h W0 B0 ρ W xs hg hr hx;have h:(F (Qc 0 args) st.push).bind (JD false rs)=some (v,st'):=h;simp only[oB]at h;obtain⟨⟨ex,e1,st1⟩,hex,hend⟩:=h;refine (callsIn_wide (n:=0)).1 (callsIn_of_wp_marks (F:=.wide) hf hb trivial ?_)
 have hsz:fn.ntmps<=(xs.toArray++Array.replicate (fn.ntmps-xs.toArray.size) Go.undef).size:=by simp;omega
 have hpl:st.push.A.length=st.A.length+1:=by simp[St.push]
 have hpush:=Sub.push st
 refine hF W B0 (hg.rel hr) (Qc 0 args) st.push ρ W { tmps:=xs.toArray++Array.replicate (fn.ntmps-xs.toArray.size) Go.undef,defers:=[] } (ex,e1,st1) _ hex (hpush.rel hr).rebase
  ((ZFG ((hx.mono (hpush.cx (Nat.le_refl _))).mono (ZJz (by omega))) _)) hsz ?_
 intro a' ρ' W' g he' _ hd'
 have key:(QW st1 e1 rs).bind (ZBB st1)=some (v,st')->LeavesInM .wide 0 P fn a'.tmps (fun e W'=>∃x ρ',e=.returned x/\Goes W0 B0 st ρ W st' ρ' W'/\R (cx st' ρ' W' st'.A.length) v x) a'.defers .returning W':=by
  intro hend;rw[hd'];simp only[oB,ZBB,Jn,ZLp,oJ,jP]at hend;obtain⟨v0,hv,⟨v1,st2⟩,hseal,⟨A',r0⟩,hpop,rfl,rfl⟩:=hend;obtain⟨x,hx,hxv⟩:=ZI9 hrs hv g.rel he'
  have hl1:st1.A.length=st.A.length+1:=by rw[g.ev.len,hpl]
  obtain⟨g2,hv2⟩:=Xd QD st1.A.length st1 v0 x v1 st2 g.rel (by omega) hxv hseal
  obtain⟨g3,hle⟩:=ZCH g2.rel (g.ev.trans g2.ev) hpop;refine⟨x,hx,x,ρ',rfl,⟨g3.rel.base (hr.below.trans g3.rel.below),g3.ev⟩,?_⟩;rw[hl1]at hv2;have hl3:(⟨A',r0.1,r0.2⟩:St).A.length=st.A.length:=g3.ev.len;rw[hl3]
  exact QAbs.R.mono (show QAbs.R (cx st2 ρ' W' st.A.length) v1 x from hv2) hle
 cases ex with
 | norm=>exact key (by simpa [JD] using hend)
 | ret=>exact key (by simpa [JD] using hend)
 | ex id=>simp[JD]at hend
end
end Go.QAbs
namespace Go.Q15
open Go Go.QAbs
open Go.ChangeMaps (setBlock)
variable {r':AR}{a:Act}{ro:Bool}{c:Code}{e:Env}{f:FuncId}{A:List (Bool × List Blk)}{args caps cls:LV}{l:List Nat}{clock d i ip ix j la mx n ob ox rx ver wb:Nat}{x:Nd}{o:Oper}{s st:St}{t:Tr}
def ZKI:Code->List (Array Oper)
 | .seq a b=>ZKI a++ZKI b|.cond _ a b=>ZKI a++ZKI b|.block _ b=>ZKI b|.loop b=>ZKI b|.scope b=>ZKI b
 | .region _ ops _=>[ops]
 | _=>[]
noncomputable def cV:Code:=Proofs.Tryz.f13.body.getD .skip
noncomputable def oV(i j:Nat):Oper:=((ZKI cV).getD i #[]).getD j default
noncomputable def xV8:Code:=.region 8 #[oV 8 0,oV 8 1,oV 8 2,oV 8 3,oV 8 4] false
noncomputable def xVb:Code:=.block 1 (.seq (.region 7 #[oV 7 0,oV 7 1,oV 7 2] false) xV8)
noncomputable def xV:Code:=.seq (.region 5 #[oV 5 0,oV 5 1] false) (.block 0 (.loop (.seq (.region 6 #[oV 6 0,oV 6 1] false) (.seq (.cond (.tmp 26) .skip (.exit 0)) xVb))))
def h_V:List Hint:=[⟨[0,4,5],[],[],[],[],[]⟩,⟨[8,9],[],[],[],[],[]⟩,⟨[8,9,21],[],[],[],[],[]⟩,⟨[6,7],[],[],[],[],[]⟩,⟨[8,10],[],[],[],[],[]⟩,⟨[],[],[],[],[],[]⟩,⟨[],[],[],[],[],[]⟩,⟨[],[],[],[],[],[]⟩,⟨[],[],[],[],[],[]⟩,⟨[6,7],[],[],[],[],[]⟩]
def ZrR:PC:=.reg [0,4,5] [⟨(some 4),none,false,.box (.s 1)⟩,⟨(some 5),none,false,.box (.s 2)⟩,⟨(some 6),none,false,.mv (.v (.int .i64 0))⟩,⟨(some 7),none,false,.mv (.v (.int .i64 0))⟩]
def Zp3:PC:=.reg [8,9] [⟨(some 14),none,false,.mv (.s 0)⟩,⟨(some 15),none,false,.ld true 5 (.s 4)⟩,⟨(some 16),none,false,.ld true 5 (.s 5)⟩,⟨(some 17),none,false,.call .norm (.v (.func (.func ZAL) [] [])) [(.s 14),(.s 15),(.s 16)]⟩,⟨(some 13),none,false,.mv (.s 17)⟩,⟨(some 18),none,false,.ext (.s 13) 0⟩,⟨(some 19),none,false,.ext (.s 13) 1⟩,⟨(some 8),none,false,.mv (.s 18)⟩,⟨(some 9),none,false,.mv (.s 19)⟩]
def Zp4:PC:=.reg [8,9,21] [⟨(some 20),none,false,.mv (.s 9)⟩,⟨(some 21),none,false,.bin .neq (.s 20) (.v (.int .i64 0))⟩]
def ZrS:PC:=.reg [6,7] [⟨(some 22),none,false,.mv (.s 9)⟩,⟨(some 6),none,false,.mv (.v (.int .i64 0))⟩,⟨(some 7),none,false,.mv (.s 22)⟩]
def ZrT:PC:=.reg [8,10] [⟨(some 10),none,false,.mv (.v (.int .i64 0))⟩]
def pV1:PC:=.seq ZrR (D Zp3 (D (D Zp4 (E 21 (D ZrS .ret) .skip)) (D ZrT .skip)))
def pV2:PC:=.seq (R [6,7] [⟨(some 33),none,false,.mv (.s 10)⟩,⟨(some 6),none,false,.mv (.s 33)⟩,⟨(some 7),none,false,.mv (.v (.int .i64 0))⟩]) .ret
def rsV:List RV:=[.s 6,.s 7]
theorem cV_m:toM Proofs.Tryz.prog 34 4 h_V cV=some ((pV1,xV,pV2),[]):=by kernel_rfl
theorem oV50:OpIs (oV 5 0) (.move (.tmp 8)) 23:=⟨by kernel_rfl,by kernel_rfl,by kernel_rfl⟩
theorem oV51:OpIs (oV 5 1) (.range 94 (.tmp 23)) 24:=⟨by kernel_rfl,by kernel_rfl,by kernel_rfl⟩
theorem oV60:OpIs (oV 6 0) (.next (.tmp 24) false) 25:=⟨by kernel_rfl,by kernel_rfl,by kernel_rfl⟩
theorem oV61:OpIs (oV 6 1) (.extract (.tmp 25) 0) 26:=⟨by kernel_rfl,by kernel_rfl,by kernel_rfl⟩
theorem oV70:OpIs (oV 7 0) (.entry (.tmp 24)) 27:=⟨by kernel_rfl,by kernel_rfl,by kernel_rfl⟩
theorem oV71:OpIs (oV 7 1) (.extract (.tmp 27) 1) 28:=⟨by kernel_rfl,by kernel_rfl,by kernel_rfl⟩
theorem oV72:OpIs (oV 7 2) (.assign (.tmp 28)) 12:=⟨by kernel_rfl,by kernel_rfl,by kernel_rfl⟩
theorem oV80:OpIs (oV 8 0) (.move (.tmp 10)) 29:=⟨by kernel_rfl,by kernel_rfl,by kernel_rfl⟩
theorem oV81:OpIs (oV 8 1) (.move (.tmp 12)) 30:=⟨by kernel_rfl,by kernel_rfl,by kernel_rfl⟩
theorem oV82:OpIs (oV 8 2) (.binOp .rem 3 (.tmp 30) (.const (.int .i64 2)) 3) 31:=⟨by kernel_rfl,by kernel_rfl,by kernel_rfl⟩
theorem oV83:OpIs (oV 8 3) (.binOp .add 3 (.tmp 29) (.tmp 31) 3) 32:=⟨by kernel_rfl,by kernel_rfl,by kernel_rfl⟩
theorem oV84:OpIs (oV 8 4) (.assign (.tmp 32)) 10:=⟨by kernel_rfl,by kernel_rfl,by kernel_rfl⟩
attribute [irreducible] oV
def Zm5:AV->Option Int
 | .int .i64 v=>if 0<=v then some (v % 2) else none
 | _=>none
def ZZv:List (AV × AV)->Option Int
 | []=>some 0
 | (_,v)::l=>(Zm5 v).bind fun x=>(ZZv l).map fun y=>x+y
def Zm6:Run:=fun e st=>match QAbs.look e 8,QAbs.look e 10 with
 | .map lv ix,.int .i64 n0=>(ZBi (st.get lv ix)).bind fun es=>if n0=0/\es.length<1000000000 then (ZZv es).map fun s=>(.norm,[(10,.int .i64 s)],st) else none
 | _,_=>none
def ZZw(x:MapEntry):Int:=match x.val with|.int _ v=>v % 2|_=>0
theorem ZdF{C:Cx}:∀ {es:List (AV × AV)} {l:List MapEntry} {s:Int},EntR C es l->ZZv es=some s->(l.map ZZw).sum=s/\∀x∈l,∃v:Int,0<=v/\x.val=.int .i64 v
 | [],l,s,h,hs=>by
  have:l=[]:=List.eq_nil_of_length_eq_zero h.1.symm
  subst this;simp only[ZZv,oJ]at hs
  exact⟨by simpa using hs,by simp⟩
 | (k,v)::es,[],s,h,hs=>by have:=h.1;simp at this
 | (k,v)::es,x::l,s,h,hs=>by
  simp only[ZZv,oB,oM]at hs;obtain⟨n,hn,m,hm,rfl⟩:=hs
  obtain⟨i1,i2⟩:=ZdF (C:=C) (es:=es) (l:=l) ⟨by have:=h.1;simpa using this,fun i k' v' x' a b=>h.2 (i+1) k' v' x' (by simpa using a) (by simpa using b)⟩ hm
  obtain⟨_,_,hv⟩:=h.2 0 k v x rfl rfl;unfold Zm5 at hn
  split at hn
  ·rename_i w
   split at hn
   ·rename_i hw
    simp only[oJ]at hn;have hx:=Jf hv
    refine⟨by simp[ZZw,hx,i1,hn],fun y hy=>?_⟩
    rcases List.mem_cons.1 hy with rfl|hy
    ·exact⟨w,hw,hx⟩
    ·exact i2 y hy
   ·simp at hn
  ·simp at hn
theorem Zj5{l:List MapEntry}(h:∀x∈l,∃v:Int,0<=v/\x.val=.int .i64 v):0<=(l.map ZZw).sum/\(l.map ZZw).sum<=l.length:=by
 induction l with
 | nil=>simp
 | cons x l ih =>
  obtain⟨i1,i2⟩:=ih fun y hy=>h y (by simp[hy])
  obtain⟨v,hv,hx⟩:=h x (by simp)
  have:ZZw x=v % 2:=by simp[ZZw,hx]
  simp only[jC,List.sum_cons,List.length_cons,this];omega
structure VI(W:World)(a:Act)(b clock:Nat)(en:Array MapEntry)(s:Int)(seen:Array Nat)(a':Act)(W':World):Prop where
 it:Itr W' b W.heap.size clock en seen
 jk:Jk W.heap.size W W'
 sz:a'.tmps.size=a.tmps.size
 df:a'.defers=a.defers
 ev:a'.eval (.tmp 24)=.pointer (some ⟨W.heap.size,0,none⟩)
 n:∃n:Int,0<=n/\a'.eval (.tmp 10)=.int .i64 n/\n+((Yy en seen).map ZZw).sum=s
theorem Zqj{T:Tab}{W0:World}{B0:Bse}:CodeOk none Proofs.Tryz.prog (S T) 34 W0 B0 xV Zm6:=by
 intro e st ρ W a r Q hx hr he hn hQ;unfold Zm6 at hx
 split at hx
 case h_2=>simp at hx
 rename_i lv ix n0 hl hl10
 simp only[oB]at hx;obtain⟨es,hes,hx⟩:=hx
 split at hx
 case isFalse=>simp at hx
 rename_i hlen
 obtain⟨rfl,hlen⟩:=hlen;simp only[oM]at hx;obtain⟨s,hs,rfl⟩:=hx;have hg:=ZAI hes;have h10:=he 10;rw[hl10]at h10;have hev10:a.eval (.tmp 10)=.int .i64 0:=Jf h10;have h8:=he 8;rw[hl]at h8;generalize hm8:a.tmps.getD 8 Go.undef=m8 at h8
 have hev8:a.eval (.tmp 8)=m8:=by rw[<- hm8];rfl
 cases h8 with
 | map hp =>
 obtain⟨p1,p2,r0,rfl,p3⟩:=hp
 have:=p3 es hg;subst this
 obtain⟨en,clock,h1,h2,hf⟩:=(hr.map lv ix es hg).ent;obtain⟨hsum,hall⟩:=ZdF h2 hs
 have hsz:en.toList.length<1000000000:=by have:=h2.1;omega
 unfold xV;refine wpIn_seq (wpIn_region ?_)
 show wpOpsIn (fen none) 0 _ #[oV 5 0,oV 5 1] _ [0,1] a W
 rw[wpOpsIn_cons]
 refine Qi oV50 Y (by simp) (QT (x:=.tmp 8) (.inl oV50.op)) ?_
 rw[wpOpsIn_cons,hev8]
 have z23:23<a.tmps.size:=by omega
 refine Qi oV51 Y (by simp) (ZIz (m:=.tmp 23) (t:=94) oV51.op (show Proofs.Tryz.prog.underlying 94=some (TypeDesc.map 32 3) by kernel_rfl) (Act.put_look z23) h1) ?_
 show Code.wpIn _ _ _ _ _ _ _
 have hjk0:Jk W.heap.size W (W.alloc (.mapIter (some (ρ lv ix).b) clock #[] clock)):=by
  exact⟨rfl,rfl,rfl,by simp,fun i hi _=>Go.RowKit.Below.heap_alloc _ _ _ hi,.inl (Nat.le_refl _)⟩
 refine ZLg (o3:=oV 6 0) (o4:=oV 6 1) (it:=.tmp 24) (nx:=25) (ok:=26) hf oV60.op oV60.gd oV60.dst oV61.op oV61.gd oV61.dst
  (VI W a (ρ lv ix).b clock en s) (fun seen a' W' h=>⟨h.ev,by have:=h.sz;omega,by have:=h.sz;omega,h.it⟩) ?_ ?_ ?_
 ·intro seen a' W' h hl
  obtain⟨n,hn0,hn1,hn2⟩:=h.n;rw[hl]at hn2;simp only[List.map_nil,List.sum_nil,Int.add_zero]at hn2;subst hn2
  refine hQ _ ρ W' (hr.jk h.jk hr.b0) ?_ (by simpa [Act.put] using h.sz) h.df
  intro t
  by_cases ht:t=10
  ·subst ht
   have h1:((a'.put (some 25) (.tuple #[.bool false])).put (some 26) (.bool false)).eval (.tmp 10)=.int .i64 n:=by
    rw[Act.put_other (by decide),Act.put_other (by decide)];exact hn1
   have h2:((a'.put (some 25) (.tuple #[.bool false])).put (some 26) (.bool false)).tmps.getD 10 Go.undef=.int .i64 n:=h1;rw[h2];exact .int _ _
  ·have:QAbs.look [((10:Nat),(AV.int .i64 n))] t=.any:=by simp[QAbs.look,Ne.symm ht]
   show QAbs.R _ (QAbs.look [((10:Nat),(AV.int .i64 n))] t) _
   rw[this];exact .any _
 ·intro seen a' W' x w1 h hx hw hit hnew hjk
  obtain⟨n,hn0,hn1,hn2⟩:=h.n;obtain⟨v,hv0,hv⟩:=hall x (ZA0 hx);have hsz':=h.sz
  generalize hW1:setBlock w1 W.heap.size (.mapIter (some (ρ lv ix).b) clock (seen.push x.born) clock)=W1 at *
  have hperm:=ZGE hf hx
  have hsum2:((Yy en seen).map ZZw).sum=v % 2+((Yy en (seen.push x.born)).map ZZw).sum:=by
   have:∀l l':List Int,l.Perm l'->l.sum=l'.sum:=fun l l' h=>by
    induction h with
    | nil=>rfl
    | cons x _ ih=>simp[ih]
    | swap x y l=>simp;omega
    | trans _ _ i1 i2=>exact i1.trans i2
   rw[this _ _ (hperm.map ZZw)]
   simp[ZZw,hv]
  have hrest:=Zj5 (l:=Yy en (seen.push x.born)) fun y hy=>hall y (ZA0 hy)
  have hlen2:(Yy en (seen.push x.born)).length<=en.toList.length:=by
   have:(Yy en (seen.push x.born))=en.toList.filter fun e=>!(seen.push x.born).contains e.born:=by simp[Yy,leftOf]
   rw[this];exact List.length_filter_le ..
  have hs0:=(Zj5 hall).2;rw[hsum]at hs0;unfold xVb;refine wpIn_block (wpIn_seq (wpIn_region ?_))
  show wpOpsIn (fen none) 0 _ #[oV 7 0,oV 7 1,oV 7 2] _ [0,1,2] _ W1
  generalize ha1:(a'.put (some 25) (.tuple #[.bool true,x.key,x.val])).put (some 26) (.bool true)=a1
  have s1:a1.tmps.size=a.tmps.size:=by rw[<- ha1];simpa [Act.put] using hsz'
  have d1:a1.defers=a.defers:=by rw[<- ha1];exact h.df
  have e24:a1.eval (.tmp 24)=.pointer (some ⟨W.heap.size,0,none⟩):=by rw[<- ha1,Act.put_other (by decide),Act.put_other (by decide)];exact h.ev
  have e10:a1.eval (.tmp 10)=.int .i64 n:=by rw[<- ha1,Act.put_other (by decide),Act.put_other (by decide)];exact hn1
  rw[wpOpsIn_cons]
  refine Qi oV70 Y (by simp) (ZI0 (it:=.tmp 24) oV70.op e24 hnew hit.map hf (ZA0 hx)) ?_
  rw[wpOpsIn_cons]
  refine Qi oV71 Y (by simp) (ZA1 (t:=.tmp 27) (k:=1) (x:=x.val) oV71.op (Act.put_look (by omega)) Y) ?_
  rw[wpOpsIn_cons]
  refine Qi oV72 Y (by simp) (QT (x:=.tmp 28) (.inr oV72.op)) ?_
  rw[Act.put_look (by simp[Act.put];omega),hv]
  show Code.wpIn _ _ _ _ _ _ _
  generalize ha2:((a1.put (some 27) (.tuple #[x.key,.int .i64 v])).put (some 28) (.int .i64 v)).put (some 12) (.int .i64 v)=a2
  have s2:a2.tmps.size=a.tmps.size:=by rw[<- ha2];simpa [Act.put] using s1
  have d2:a2.defers=a.defers:=by rw[<- ha2];exact d1
  have f24:a2.eval (.tmp 24)=.pointer (some ⟨W.heap.size,0,none⟩):=by rw[<- ha2,Act.put_other (by decide),Act.put_other (by decide),Act.put_other (by decide)];exact e24
  have f10:a2.eval (.tmp 10)=.int .i64 n:=by rw[<- ha2,Act.put_other (by decide),Act.put_other (by decide),Act.put_other (by decide)];exact e10
  have f12:a2.eval (.tmp 12)=.int .i64 v:=by rw[<- ha2];exact Act.put_look (by simp[Act.put];omega)
  unfold xV8;refine wpIn_region ?_
  show wpOpsIn (fen none) 0 _ #[oV 8 0,oV 8 1,oV 8 2,oV 8 3,oV 8 4] _ [0,1,2,3,4] a2 W1
  rw[wpOpsIn_cons]
  refine Qi oV80 Y (by simp) (QT (x:=.tmp 10) (.inl oV80.op)) ?_
  rw[f10,wpOpsIn_cons]
  refine Qi oV81 Y (by simp) (QT (x:=.tmp 12) (.inl oV81.op)) ?_
  rw[Act.put_other (by decide),f12,wpOpsIn_cons]
  refine Qi oV82 Y (by simp) (ZdE (x:=.tmp 30) (y:=.const (.int .i64 2)) (m:=v) (n:=2) (r:=v % 2) oV82.op (Act.put_look (by simp[Act.put];omega)) rfl
   (by show some (AV.int .i64 (v.tmod 2))=_;rw[Int.tmod_eq_emod_of_nonneg hv0])) ?_
  rw[wpOpsIn_cons]
  refine Qi oV83 Y (by simp) (ZdE (x:=.tmp 29) (y:=.tmp 31) (m:=n) (n:=v % 2) (r:=n+v % 2) oV83.op (by rw[Act.put_other (by decide),Act.put_other (by decide)];exact Act.put_look (by omega)) (Act.put_look (by simp[Act.put];omega))
   (by show some (AV.int .i64 (IntKind.i64.wrap (n+v % 2)))=_;rw[ZpY (by omega) (by omega)])) ?_
  rw[wpOpsIn_cons]
  refine Qi oV84 Y (by simp) (QT (x:=.tmp 32) (.inr oV84.op)) ?_
  rw[Act.put_look (by simp[Act.put];omega)]
  refine⟨rfl,hit,h.jk.trans (Nat.le_refl _) hjk,by simpa [Act.put] using s2,d2,?_,n+v % 2,by omega,Act.put_look (by simp[Act.put];omega),by omega⟩
  rw[Act.put_other (by decide),Act.put_other (by decide),Act.put_other (by decide),Act.put_other (by decide),Act.put_other (by decide)];exact f24
 ·refine⟨⟨?_,clock,Nat.le_refl _,?_⟩,hjk0,by simp[Act.put],rfl,Act.put_look (by simp[Act.put];omega),0,by omega,?_,?_⟩
  ·exact hjk0.heap h1 Y
  ·exact World.alloc_heap_new _ _
  ·rw[Act.put_other (by decide),Act.put_other (by decide)];exact hev10
  ·rw[ZSB,hsum];omega
end Go.Q15
namespace Go.Q15
open Go Go.QAbs
variable {r':AR}{a:Act}{ro:Bool}{c:Code}{e:Env}{f:FuncId}{A:List (Bool × List Blk)}{args caps cls:LV}{l:List Nat}{clock d i ip ix j la mx n ob ox rx ver wb:Nat}{x:Nd}{o:Oper}{s st:St}{t:Tr}
theorem ZpZ:FrX Zm6:=FrX.of fun e st r hr=>by
 unfold Zm6 at hr ⊢
 split at hr
 case h_2=>simp at hr
 rename_i lv ix n0 h1 h2
 simp only[oB]at hr;obtain⟨es,hes,hr⟩:=hr
 split at hr
 case isFalse=>simp at hr
 rename_i hc
 simp only[oM]at hr;obtain⟨s,hs,rfl⟩:=hr
 refine⟨rfl,fun M i B hh=>?_⟩
 have hg:=ZAI hes;simp only[JM hh lv ix _ hg];simp only[ZBi,oS,if_pos hc,hs,Option.map_some]
theorem ZlH{P:Program}{T:Tab}(hm:P.follows .mixedOrders=true)(hT:TabOk P T){X:Run}(hX:FrX X)(p1 p2:PC):FrX (ZhN (S T) itS X p1 p2) :=
 ZBD (ZWZ hm hT p1) fun x r hr=>ZCJ (ZBD hX fun x r hr=>ZCJ (ZWZ hm hT p2) hr) hr
noncomputable def visE:Ent:=.base (fnO (ZhN (S T3) itS Zm6 pV1 pV2) rsV)
noncomputable def tv:List (FuncId × Ent):=(ZBU,visE)::t3
noncomputable def TV:Tab:=Y7 tv
theorem Zpa(hT:TabOk Proofs.Tryz.prog T3)(hm:Proofs.Tryz.prog.follows .mixedOrders=true)(hf:Proofs.Tryz.prog.funcs[ZBU]?=some Proofs.Tryz.f13):ZHf Proofs.Tryz.prog ZBU visE:=by
 refine Zm4 (c:=cV) (O:=S T3) hf (by kernel_rfl) (fun W0 B0 hg=>?_) (ZlH hm hT ZpZ _ _) (by kernel_rfl)
 exact Zqi (nt:=Proofs.Tryz.f13.ntmps) hm hT hg cV h_V [] pV1 pV2 xV cV_m Zqj
def Y0(l:List (Nat × Int)):List (AV × AV):=l.map fun p=>(AV.int .u64 p.1,AV.int .i64 p.2)
def ZBL(h:Nat):List (Nat × Int)->List (Nat × Int)
 | []=>[(h,1)]
 | (k,n)::l=>if k=h then (k,n+1)::l else (k,n)::ZBL h l
def Q1(h:Nat):List (Nat × Int)->Int
 | []=>0
 | (k,n)::l=>if k=h then n else Q1 h l
def fC(h:Nat):List (Nat × Int)->Option AV
 | []=>none
 | (k,n)::l=>if k=h then some (.int .i64 n) else fC h l
theorem ZhO(o:Nat):∀l,X5 (.int .u64 o) (Y0 l)=some (fC o l)
 | []=>rfl
 | (k,n)::l=>by
  rw[Y0,jC,X5]
  show (Option.bind (if IntKind.u64=IntKind.u64 then some ((o:Int) == (k:Int)) else none) fun b=>if b=true then some (some (AV.int .i64 n)) else X5 (.int .u64 o) (Y0 l))=_
  rw[if_pos rfl,oS,ZhO o l,fC]
  by_cases h:k=o
  ·subst h;simp
  ·rw[if_neg h,if_neg (by simp;omega)]
theorem Zm7(o:Nat):∀l,(fC o l).getD (.int .i64 0)=.int .i64 (Q1 o l)
 | []=>rfl
 | (k,n)::l=>by
  unfold fC Q1
  split
  ·rfl
  ·exact Zm7 o l
theorem ZVp(o:Nat):∀l,ZBh (.int .u64 o) (.int .i64 (Q1 o l+1)) (Y0 l)=some (Y0 (ZBL o l))
 | []=>rfl
 | (k,n)::l=>by
  rw[Y0,jC,ZBh]
  show (Option.bind (if IntKind.u64=IntKind.u64 then some ((o:Int) == (k:Int)) else none) fun b=>if b=true then some ((AV.int .u64 o,AV.int .i64 (Q1 o ((k,n)::l)+1))::Y0 l) else (ZBh (.int .u64 o) (.int .i64 (Q1 o ((k,n)::l)+1)) (Y0 l)).map fun r=>(AV.int .u64 k,AV.int .i64 n)::r)=_
  rw[if_pos rfl,oS]
  by_cases h:k=o
  ·subst h
   rw[if_pos (by simp),Q1,if_pos rfl,ZBL,if_pos rfl];rfl
  ·rw[if_neg (by simp;omega),Q1,if_neg h,ZVp o l,ZBL,if_neg h];rfl
theorem ZVq{lv:Nat}{l:List (Nat × Int)}(hg:st.get lv mx=some (.map (Y0 l)))(o:Nat):lookV st 0 (.int .i64 0) false (.int .u64 o) (.map lv mx)=some (.int .i64 (Q1 o l)):=by
 simp only[lookV,ZcU,hg,ZBi,oS,YG,if_true,ZhO,Option.map_some,oJ];rw[<- Zm7]
 cases fC o l<;>rfl
theorem ZhP(o h:Nat):∀l,Q1 o (ZBL h l)=Q1 o l+if o=h then 1 else 0
 | []=>by simp only[ZBL,Q1];by_cases e:h=o<;>simp[e,Ne.symm]
 | (k,n)::l=>by
  unfold ZBL
  by_cases e:k=h
  ·subst e
   rw[if_pos rfl];unfold Q1
   by_cases e2:k=o
   ·subst e2;simp
   ·rw[if_neg e2,if_neg e2,if_neg (fun q=>e2 q.symm)];simp
  ·rw[if_neg e]
   show (if k=o then n else Q1 o (ZBL h l))=(if k=o then n else Q1 o l)+_
   by_cases e2:k=o
   ·subst e2;rw[if_pos rfl,if_pos rfl,if_neg e];simp
   ·rw[if_neg e2,if_neg e2];exact ZhP o h l
def Ju(c:List (Nat × Int))(l:List Nat):List (Nat × Int):=l.foldl (fun c h=>ZBL h c) c
theorem ZAG(o:Nat):∀(l:List Nat) (c:List (Nat × Int)),Q1 o (Ju c l)=Q1 o c+l.count o
 | [],c=>by simp[Ju]
 | h::l,c=>by
  show Q1 o (Ju (ZBL h c) l)=_
  rw[ZAG o l,ZhP,List.count_cons]
  by_cases e:o=h
  ·subst e;simp;omega
  ·rw[if_neg e,if_neg (by simpa using fun q=>e q.symm)];simp
theorem ZSC(c:List (Nat × Int))(l:List Nat)(h:Nat):Ju c (l++[h])=ZBL h (Ju c l):=by simp[Ju]
theorem ZSD{O:Orc}{k:List Fr}{Q:YD}{L:List Blk}{keep:List Nat}{is:List QAbs.PI}{kk:Nat}{x i v:Opd}{ki w:AV}{es es':List (AV × AV)}
 (hx:Zc e x=some (.map A.length ix)) (hi:Zc e i=some ki) (hki:YG kk ki=true) (hv:Zc e v=some w) (hs:ZY QD (A.length+1) ⟨A,false,L⟩ w=some (w,⟨A,false,L⟩)) (hb:L[ix]?=some (.map es)) (hp:ZBh ki w es=some es')
 (h:Is O is keep k Q e ⟨A,false,L.set ix (.map es')⟩):Is O (⟨none,none,false,.mupd kk x i v⟩::is) keep k Q e ⟨A,false,L⟩:=by
 have hlt:=Zs hb
 have hg:St.get ⟨A,false,L⟩ A.length ix=some (.map es):=by simp only[St.get,if_true,hb];rfl
 have hput:St.put ⟨A,false,L⟩ A.length ix (.map es')=some ⟨A,false,L.set ix (.map es')⟩:=by simp only[St.put,if_true,jB,if_false,if_pos hlt]
 refine Z3 (od:=none) (v:=.undef) (st':=⟨A,false,L.set ix (.map es')⟩) ?_ h;simp only[Zg,evalPO,ZF hx,ZF hi,ZF hv,ZHZ,hki,if_true,hs,oS,ZJw,hg,ZBi,hp,hput,ZA9]
theorem leV:TLe T3 TV:=fun g y hg=>X3 (l:=t3) (by decide +kernel) g y hg
theorem upV{r:AV × St}(h:S T3 f args st=some r):S TV f args st=some r:=ZOq leV _ _ _ _ h
theorem Zm8{X Y':Blk}{b:Nat}{N:ZJ}(hN:GoodN N)(hR:∀L,Rd ⟨A,false,L⟩ la (b+5) N){x y:Ro}(hx:RtOk N x)(hy:RtOk N y):
 S T3 ZAL [.ptr la (b+5) 0 0 0,x.av,y.av] ⟨A,false,[X,Y']⟩=some (.tup [.map A.length 4,.int .i64 0],
  ⟨A,false,[X,Y',.arr 5 0 [x.av],.arr 5 0 [y.av],.map (Y0 (Ju (Ju [] (Z6 (Zm N x))) (Z6 (Zm N y)))),.arr 5 0 [x.av],.arr 5 0 [y.av],.arr 5 0 [x.av],.arr 5 0 [y.av]]⟩):=by
 refine Xv Y ?_
 have cx:=fun L=>Zqg (ZVo hN (hR L) hx)
 have cy:=fun L=>Zqg (ZVo hN (hR L) hy)
 have nx:=fun L=>(ZOr hN (hR L) hx)
 have ny:=fun L=>(ZOr hN (hR L) hy)
 have lx:=Xz hN hx;have ly:=Xz hN hy
 have lx2:(Z6 (Zm N x)).length<=1000000000:=by have:=(Ym (Zm N x)).2.2;omega
 have ly2:(Z6 (Zm N y)).length<=1000000000:=by have:=(Ym (Zm N y)).2.2;omega
 generalize Z6 (Zm N x)=vx at *
 generalize Z6 (Zm N y)=vy at *
 unfold Ro.av at *
 repeat'(first|refine ZE ?_|refine ZD ?_|refine ZG Y ?_|refine ZU Y Y Y Y ?_|refine ZB Y ?_|refine ZC ?_|refine ZBm Y Y ?_|refine Zi Y Y Y ?_|refine QM Y Y Y Y ?_|refine ZCN Y ?_|refine ZL ?_)
 refine Qz ?_
 repeat'(first|refine ZE ?_|refine ZD ?_|refine ZG Y ?_|refine ZU Y Y Y Y ?_|refine ZB Y ?_|refine ZC ?_|refine QA Y Y ?_|refine ZWe Y Y (by first|omega|decide|(simp only[List.length_cons,List.length_nil];omega)) rfl rfl ?_|(refine cm0 Y Y Y ?_ ?_<;>intro _<;>try omega)|(refine cm0 Y Y Y ?_ ?_<;>intro _<;>try omega)|refine ZQ Y ?_|refine ZH Y ?_|refine Zh Y Y (by omega) ?_|refine Zi Y Y Y ?_|refine Zv Y Y Y Y Y Y ?_|refine ZA Y Y Y (cx _) ?_|refine ZI ?_|refine ZL ?_|refine Z0 ?_)
 all_goals try contradiction
 refine Qz ?_
 repeat'(first|refine ZE ?_|refine ZD ?_|refine ZG Y ?_|refine ZU Y Y Y Y ?_|refine ZB Y ?_|refine ZC ?_|refine QA Y Y ?_|refine ZWe Y Y (by first|omega|decide|(simp only[List.length_cons,List.length_nil];omega)) rfl rfl ?_|(refine cm0 Y Y Y ?_ ?_<;>intro _<;>try omega)|(refine cm0 Y Y Y ?_ ?_<;>intro _<;>try omega)|refine ZQ Y ?_|refine ZH Y ?_|refine Zh Y Y (by omega) ?_|refine Zi Y Y Y ?_|refine Zv Y Y Y Y Y Y ?_|refine ZA Y Y Y (cy _) ?_|refine ZI ?_|refine ZL ?_|refine Z0 ?_)
 all_goals try contradiction
 refine Qz ?_
 repeat'(first|refine ZE ?_|refine ZD ?_|refine ZG Y ?_|refine ZU Y Y Y Y ?_|refine ZB Y ?_|refine ZC ?_|refine ZBm Y Y ?_|(refine cm0 Y Y Y ?_ ?_<;>intro _<;>try omega)|refine ZH Y ?_|refine QM Y Y Y Y ?_|refine Zq ?_|refine ZL ?_|refine Zb ?_|refine Za Y ?_)
 all_goals try omega
 refine Qz ?_
 repeat'(first|refine ZE ?_|refine ZD ?_|refine ZG Y ?_|refine ZU Y Y Y Y ?_|refine Zw Y Y ?_|refine ZB Y ?_|refine ZC ?_|refine QH Y ?_|refine QA Y Y ?_|refine ZWe Y Y (by first|omega|decide|(simp only[List.length_cons,List.length_nil];omega)) rfl rfl ?_|(refine cm0 Y Y Y ?_ ?_<;>intro _<;>try omega)|(refine cm0 Y Y Y ?_ ?_<;>intro _<;>try omega)|refine ZQ Y ?_|refine ZH Y ?_|refine Zi Y Y Y ?_|refine Zv Y Y Y Y Y Y ?_|refine ZA Y Y Y (nx _) ?_|refine ZI ?_|refine ZL ?_)
 all_goals try contradiction
 refine Zy (α:=Nat) (fun i=>[(0,.ptr la (b+5) 0 0 0),(8,.map A.length 4),(36,.lit [x.av,y.av]),(37,.int .i64 2),(38,.int .i64 0),(51,.lit (vx.map Zt)),(52,.int .i64 vx.length),(53,.int .i64 i)]) (fun i=>⟨A,false,[X,Y',.arr 5 0 [x.av],.arr 5 0 [y.av],.map (Y0 (Ju [] (vx.take i))),.arr 5 0 [x.av],.arr 5 0 [y.av],.arr 5 0 [x.av]]⟩) (fun i=>i<=vx.length) (fun i=>vx.length-i) 0 Y Y (by omega) ?_
 rintro i hi
 unfold Ro.av
 rcases Nat.lt_or_ge i vx.length with hlt|hge
 ·obtain⟨h,hh⟩:∃k,vx[i]?=some k:=⟨vx[i]'hlt,jE _⟩
  have qk:0<=((i:Nat):Int)/\vx[((i:Nat):Int).toNat]?=some h:=⟨by omega,by rw[show ((i:Nat):Int).toNat=i by omega];exact hh⟩
  have ht:vx.take (i+1)=vx.take i++[h]:=ZZ hh
  have hg0:0<=Q1 h (Ju [] (vx.take i))/\Q1 h (Ju [] (vx.take i))<=2000000000:=by
   have h1:=ZAG h (vx.take i) [];have h2:=List.count_le_length (a:=h) (l:=vx.take i)
   have h3:(vx.take i).length<=vx.length:=by rw[List.length_take];omega
   simp only[Q1]at h1;omega
  have hc:Ju [] (vx.take (i+1))=ZBL h (Ju [] (vx.take i)):=by rw[ht,ZSC]
  generalize Ju [] (vx.take i)=c at *
  have hlk:lookV ⟨A,false,[X,Y',.arr 5 0 [x.av],.arr 5 0 [y.av],.map (Y0 c),.arr 5 0 [x.av],.arr 5 0 [y.av],.arr 5 0 [x.av]]⟩ 0 (.int .i64 0) false (.int .u64 h) (.map A.length 4)=some (.int .i64 (Q1 h c)):=ZVq (by simp only[St.get,if_true];rfl) h
  have hput:=ZVp h c
  generalize Q1 h c=n at *
  repeat'(first|refine QX (f:=Zt) Y Y qk (fun _=>rfl) ?_|refine Jz Y Y hlk ?_|refine ZSD Y Y Y Y Y Y hput ?_|refine ZE ?_|refine ZD ?_|refine ZG Y ?_|refine ZB Y ?_|refine ZC ?_|refine QA Y Y ?_|(refine cm0 Y Y Y ?_ ?_<;>intro _<;>try omega)|refine ZQ Y ?_|refine Zh Y Y (by omega) ?_|refine ZI ?_|refine ZL ?_|refine Z0 ?_|refine Z8 ?_)
  all_goals try omega
  refine⟨i+1,⟨rfl,?_⟩,by omega,by omega⟩
  rw[hc];rfl
 ·obtain rfl:i=vx.length:=by omega
  rw[List.take_length]
  repeat'(first|refine ZE ?_|refine ZD ?_|refine ZG Y ?_|refine ZB Y ?_|refine ZC ?_|(refine cm0 Y Y Y ?_ ?_<;>intro _<;>try omega)|refine ZH Y ?_|refine Zh Y Y (by omega) ?_|refine Zq ?_|refine Zb ?_|refine Z0 ?_|refine Za Y ?_|refine Zn ?_)
  all_goals try omega
  refine Qz ?_
  repeat'(first|refine ZE ?_|refine ZD ?_|refine ZG Y ?_|refine ZU Y Y Y Y ?_|refine Zw Y Y ?_|refine ZB Y ?_|refine ZC ?_|refine QH Y ?_|refine QA Y Y ?_|refine ZWe Y Y (by first|omega|decide|(simp only[List.length_cons,List.length_nil];omega)) rfl rfl ?_|(refine cm0 Y Y Y ?_ ?_<;>intro _<;>try omega)|(refine cm0 Y Y Y ?_ ?_<;>intro _<;>try omega)|refine ZQ Y ?_|refine ZH Y ?_|refine Zi Y Y Y ?_|refine Zv Y Y Y Y Y Y ?_|refine ZA Y Y Y (ny _) ?_|refine ZI ?_|refine ZL ?_)
  all_goals try contradiction
  refine Zy (α:=Nat) (fun i=>[(0,.ptr la (b+5) 0 0 0),(8,.map A.length 4),(36,.lit [x.av,y.av]),(37,.int .i64 2),(38,.int .i64 1),(51,.lit (vy.map Zt)),(52,.int .i64 vy.length),(53,.int .i64 i)]) (fun i=>⟨A,false,[X,Y',.arr 5 0 [x.av],.arr 5 0 [y.av],.map (Y0 (Ju (Ju [] vx) (vy.take i))),.arr 5 0 [x.av],.arr 5 0 [y.av],.arr 5 0 [x.av],.arr 5 0 [y.av]]⟩) (fun i=>i<=vy.length) (fun i=>vy.length-i) 0 Y Y (by omega) ?_
  rintro i hi
  unfold Ro.av
  rcases Nat.lt_or_ge i vy.length with hlt|hge
  ·obtain⟨h,hh⟩:∃k,vy[i]?=some k:=⟨vy[i]'hlt,jE _⟩
   have qk:0<=((i:Nat):Int)/\vy[((i:Nat):Int).toNat]?=some h:=⟨by omega,by rw[show ((i:Nat):Int).toNat=i by omega];exact hh⟩
   have ht:vy.take (i+1)=vy.take i++[h]:=ZZ hh
   have hg0:0<=Q1 h (Ju (Ju [] vx) (vy.take i))/\Q1 h (Ju (Ju [] vx) (vy.take i))<=2000000000:=by
    have h1:=ZAG h (vy.take i) (Ju [] vx);have h2:=List.count_le_length (a:=h) (l:=vy.take i)
    have h3:(vy.take i).length<=vy.length:=by rw[List.length_take];omega
    have h4:=ZAG h vx [];have h5:=List.count_le_length (a:=h) (l:=vx);simp only[Q1]at h4;omega
   have hc:Ju (Ju [] vx) (vy.take (i+1))=ZBL h (Ju (Ju [] vx) (vy.take i)):=by rw[ht,ZSC]
   generalize Ju (Ju [] vx) (vy.take i)=c at *
   have hlk:lookV ⟨A,false,[X,Y',.arr 5 0 [x.av],.arr 5 0 [y.av],.map (Y0 c),.arr 5 0 [x.av],.arr 5 0 [y.av],.arr 5 0 [x.av],.arr 5 0 [y.av]]⟩ 0 (.int .i64 0) false (.int .u64 h) (.map A.length 4)=some (.int .i64 (Q1 h c)):=ZVq (by simp only[St.get,if_true];rfl) h
   have hput:=ZVp h c
   generalize Q1 h c=n at *
   repeat'(first|refine QX (f:=Zt) Y Y qk (fun _=>rfl) ?_|refine Jz Y Y hlk ?_|refine ZSD Y Y Y Y Y Y hput ?_|refine ZE ?_|refine ZD ?_|refine ZG Y ?_|refine ZB Y ?_|refine ZC ?_|refine QA Y Y ?_|(refine cm0 Y Y Y ?_ ?_<;>intro _<;>try omega)|refine ZQ Y ?_|refine Zh Y Y (by omega) ?_|refine ZI ?_|refine ZL ?_|refine Z0 ?_|refine Z8 ?_)
   all_goals try omega
   refine⟨i+1,⟨rfl,?_⟩,by omega,by omega⟩
   rw[hc];rfl
  ·obtain rfl:i=vy.length:=by omega
   rw[List.take_length]
   repeat'(first|refine ZE ?_|refine ZD ?_|refine ZG Y ?_|refine ZB Y ?_|refine ZC ?_|(refine cm0 Y Y Y ?_ ?_<;>intro _<;>try omega)|refine ZH Y ?_|refine Zh Y Y (by omega) ?_|refine Zq ?_|refine Zb ?_|refine Z0 ?_|refine Za Y ?_|refine Zn ?_)
   all_goals try omega
   refine Qz ?_
   repeat'(first|refine ZE ?_|refine ZD ?_|refine ZG Y ?_|refine ZB Y ?_|refine ZC ?_|(refine cm0 Y Y Y ?_ ?_<;>intro _<;>try omega)|refine ZH Y ?_|refine ZP ?_|refine Zq ?_|refine ZO ?_|refine Zb ?_|refine Za Y ?_)
   all_goals try omega
   all_goals first|rfl|exact J9 (.inr Y) Y Y Y Y Y
theorem Zm9(h:Nat):∀c:List (Nat × Int),(∀p∈c,0<=p.2)->(∀p∈ZBL h c,0<=p.2)/\(ZBL h c).length<=c.length+1
 | [],_=>by simp[ZBL]
 | (k,n)::c,hc=>by
  unfold ZBL
  split
  ·refine⟨fun p hp=>?_,by simp⟩
   rcases List.mem_cons.1 hp with rfl|hp
   ·have:=hc (k,n) (by simp);simp only at *;omega
   ·exact hc p (by simp[hp])
  ·obtain⟨i1,i2⟩:=Zm9 h c fun p hp=>hc p (by simp[hp])
   refine⟨fun p hp=>?_,by simp only[List.length_cons];omega⟩
   rcases List.mem_cons.1 hp with rfl|hp
   ·exact hc _ (by simp)
   ·exact i1 p hp
theorem ZfZ:∀(l:List Nat) (c:List (Nat × Int)),(∀p∈c,0<=p.2)->(∀p∈Ju c l,0<=p.2)/\(Ju c l).length<=c.length+l.length
 | [],c,hc=>⟨hc,by simp[Ju]⟩
 | h::l,c,hc=>by
  obtain⟨i1,i2⟩:=Zm9 h c hc;obtain⟨j1,j2⟩:=ZfZ l (ZBL h c) i1
  exact⟨j1,by show (Ju (ZBL h c) l).length<=_;simp only[List.length_cons];omega⟩
end Go.Q15
namespace Go.Q15
open Go Go.QAbs
open Go.ChangeMaps (setBlock)
variable {r':AR}{a:Act}{ro:Bool}{c:Code}{e:Env}{f:FuncId}{A:List (Bool × List Blk)}{args caps cls:LV}{l:List Nat}{clock d i ip ix j la mx n ob ox rx ver wb:Nat}{x:Nd}{o:Oper}{s st:St}{t:Tr}
def hAV(h:H64):AV:=.int .u64 (h.val:Int)
def ZSE(p:Int->Bool)(x:MapEntry):Option H64:=match x.key,x.val with
 | .int _ h,.int _ n=>if p n=true then some ⟨h.toNat % 18446744073709551616,Nat.mod_lt _ (by decide)⟩ else none
 | _,_=>none
def ZZx(p:Int->Bool):List (AV × AV)->Option (List H64)
 | []=>some []
 | (.int .u64 h,.int .i64 n)::l=>if hh:0<=h/\h<18446744073709551616 then (ZZx p l).map fun r=>if p n=true then ⟨h.toNat,by omega⟩::r else r else none
 | _::_=>none
def EntH(x:MapEntry):Prop:=∃(h:H64) (n:Int),x.key=encH h/\x.val=.int .i64 n
theorem Zfa{p:Int->Bool}{x:MapEntry}{h:H64}{n:Int}(hk:x.key=encH h)(hv:x.val=.int .i64 n):ZSE p x=if p n=true then some h else none:=by
 unfold ZSE;rw[hk,hv]
 show (if p n=true then some (⟨((h.val:Nat):Int).toNat % 18446744073709551616,_⟩:H64) else none)=_
 have:(⟨((h.val:Nat):Int).toNat % 18446744073709551616,Nat.mod_lt _ (by decide)⟩:H64)=h:=by
  apply Fin.ext
  have:=h.isLt
  show ((h.val:Nat):Int).toNat % 18446744073709551616=h.val
  rw[Int.toNat_natCast];omega
 rw[this]
theorem Zfb{C:Cx}{p:Int->Bool}:∀ {es:List (AV × AV)} {l:List MapEntry} {ks:List H64},EntR C es l->ZZx p es=some ks->l.filterMap (ZSE p)=ks/\∀x∈l,EntH x
 | [],l,ks,h,hs=>by
  have:l=[]:=List.eq_nil_of_length_eq_zero h.1.symm
  subst this;simp only[ZZx,oJ]at hs
  exact⟨by simpa using hs,by simp⟩
 | (k,v)::es,[],ks,h,hs=>by have:=h.1;simp at this
 | (k,v)::es,x::l,ks,h,hs=>by
  unfold ZZx at hs
  split at hs
  ·rename_i e;simp at e
  ·rename_i hh n l' e
   simp only[List.cons.injEq,jP]at e;obtain⟨⟨rfl,rfl⟩,rfl⟩:=e
   split at hs
   ·rename_i hb
    simp only[oM]at hs;obtain⟨r,hr,hs⟩:=hs;obtain⟨i1,i2⟩:=Zfb (C:=C) (es:=es) (l:=l) h.tail hr;obtain⟨_,hk,hv⟩:=h.2 0 _ _ x rfl rfl;have hk:=Jf hk;have hv:=Jf hv
    have hk2:x.key=encH ⟨hh.toNat,by omega⟩:=by rw[hk];show Value.int .u64 hh=Value.int .u64 ((hh.toNat:Nat):Int);rw[Int.toNat_of_nonneg hb.1]
    refine⟨?_,fun y hy=>?_⟩
    ·rw[List.filterMap_cons,Zfa hk2 hv,i1]
     rw[<- hs]
     by_cases hp:p n=true
     ·rw[if_pos hp,if_pos hp]
     ·rw[if_neg hp,if_neg hp]
    ·rcases List.mem_cons.1 hy with rfl|hy
     ·exact⟨_,_,hk2,hv⟩
     ·exact i2 y hy
   ·simp at hs
  ·simp at hs
theorem ZOt{r:H64->H64->Prop}(anti:∀a b,r a b->r b a->a=b):∀ {l m:List H64},l.Perm m->l.Pairwise r->m.Pairwise r->l=m
 | [],m,h,_,_=>h.nil_eq
 | a::l,[],h,_,_=>by have:=h.length_eq;simp at this
 | a::l,b::m,h,h1,h2=>by
  rw[List.pairwise_cons]at h1 h2
  have e:a=b:=by
   rcases List.mem_cons.1 (h.mem_iff.1 List.mem_cons_self) with e|ha
   ·exact e
   ·rcases List.mem_cons.1 (h.mem_iff.2 List.mem_cons_self) with e|hb
    ·exact e.symm
    ·exact anti a b (h1.1 b hb) (h2.1 a ha)
  subst e;rw[ZOt anti (List.Perm.cons_inv h) h1.2 h2.2]
theorem ZVr{x y:H64}:leH x y=true↔¬ (y.val % 65536<x.val % 65536\/y.val % 65536=x.val % 65536/\y.val<x.val):=by
 unfold leH;rw[ltOfH,<- ltB_no];simp
theorem ZI1(l:List H64):(srtH l).Pairwise fun a b=>leH a b=true:=by
 unfold srtH
 refine List.pairwise_mergeSort (fun a b c h1 h2=>?_) (fun a b=>?_) l
 ·rw[ZVr]at *;omega
 ·simp only[Bool.or_eq_true,ZVr];omega
theorem ZdG{l m:List H64}(h:l.Perm m):srtH l=srtH m :=
 ZOt (r:=fun a b=>leH a b=true) (fun a b h1 h2=>by rw[ZVr]at *;apply Fin.ext;omega) (((List.mergeSort_perm l leH).trans h).trans (List.mergeSort_perm m leH).symm) (ZI1 l) (ZI1 m)
theorem ZhQ(l:List H64):(srtH l).length=l.length:=List.length_mergeSort ..
section
variable {P:Program}{T:Tab}{O:Orc}{nt:Nat}{W0:World}{B0:Bse}{st st':St}{ρ:Rho}{W W':World}{e:Env}{a:Act}{r:Nat}
theorem ZhR{op:BinOp}{t yt:TypeId}{x y:Operand}{k:IntKind}{m n:Int}{b:Bool}(hop:o.op=.binOp op t x y yt)(hx:a.eval x=.int k m)(hy:a.eval y=.int k n)
 (h:ZD7 op (.int k m) (.int k n)=some (.bool b)):(execOp a.eval o).run P W=.ok (.value (.bool b)) W:=by
 let C:Cx:=⟨fun _ _ _=>True,fun _ _ _ _ _ _=>True,fun _ _ _ _ _ _=>True,fun _ _ _=>True,fun _ _ _=>True⟩
 obtain⟨z,hz,hv⟩:=Zdo (P:=P) (W:=W) (t:=t) (ox:=x) (oy:=y) (C:=C) h (.int k m) (.int k n)
 have:=YJ (hv C);subst this
 simp only[execOp,hop,hx,hy];exact Y5 hz
theorem ZdH{s x:Operand}{t:TypeId}{v v':Value}{ad:Addr}{m c:Nat}(ho:o.op=.call { callee:=.builtin .append,args:=#[s,x],argTypes:=#[t,t] })(hs:a.eval s=v)(hx:a.eval x=.slice (some ad) m c)
 (hr:(Builtin.append_ #[t,t] o.type #[v,.slice (some ad) m c]).run P W=.ok v' W'):(execOp a.eval o).run P W=.ok (.value v') W':=by
 unfold execOp;simp only[ho,resolve,invoke,builtin,Sem.run_bind,Sem.run_pure,Result.andThen_ok,List.map_toArray,jC,List.map_nil,hs,hx,hr]
theorem ZdI{ops:Array Oper}{c:Call}{f:Operand}{g:FuncId}{Q:Exit->Act->World->Prop}{K:Act->World->Prop}(ho:ops[i]?=some o)(hg:o.guard=none)(hop:o.op=.call c)(hf:c.callee=.value f)(hv:a.eval f=.func (.func g) #[] #[])
 (hrun:∀(zs:Array Value) (W:World),(callFunc g zs).run P W=.ok (.enter g zs) W) (hC:Calls P g (c.args.toList.map a.eval).toArray W fun e W'=>∃x,e=.returned x/\K (a.put o.dst x) W'):wpOpIn (fen none) 0 P ops Q i K a W:=by
 unfold wpOpIn
 have hw:Region.wanted o (yielded ops a.tmps)=true:=by unfold Region.wanted;rw[hg]
 have hnd:∀c,o.op≠.defer c:=fun c q=>by rw[hop]at q;simp at q
 simp only[ho,hw,if_true]
 refine⟨fun _ _=>trivial,?_⟩
 rw[Oper.semAt_eq _ _ _ hnd,ZgK (xs:=[]) (ys:=[]) hop hf hv hrun]
 refine⟨fun h=>absurd h (by simp[fen,Fence.wide]),?_⟩
 refine (callsIn_wide (n:=0)).2 ?_;simp only[lE,lN];refine hC.mono ?_
 rintro e' W' ⟨x,rfl,hk⟩
 exact hk
theorem ZZy{W W':World}{r:Nat}{e:TypeId}{sz:Nat}{v:Value}{xs:List Value}(hj:Jk r W W')(h:W.ownsRow (r+1) e sz v n xs):W'.ownsRow (r+1) e sz v n xs:=by
 refine⟨h.1,?_⟩
 rcases h.2 with q|⟨g,cap,cur,q1,q2,q3,q4,q5,q6,q7⟩
 ·exact .inl q
 ·exact .inr ⟨g,cap,cur,q1,q2,hj.heap q3 Y,q4,q5,q6,q7⟩
def toP(P:Program)(nt:Nat):Nat->List Hint->Code->Option ((PC × Code) × List Hint)
 | 0,hs,c=>some ((.skip,c),hs)
 | k+1,hs,.seq a b=>(Jw P nt hs a).bind fun r=>(toP P nt k r.2 b).map fun q=>((.seq r.1 q.1.1,q.1.2),q.2)
 | _,_,_=>none
def ZOu(O:Orc)(I:Run->Run)(X:Run)(pre:PC):Run:=fun e st=>(exec O I pre e st).bind (JW X)
theorem ZnA(hm:P.follows .mixedOrders=true)(hT:TabOk P T){X:Run}(hg:KG P W0 B0):∀(k:Nat) (c:Code) (hs hs':List Hint) (p1:PC) (x:Code),toP P nt k hs c=some ((p1,x),hs')->CodeOk none P (S T) nt W0 B0 x X ->
 CodeOk none P (S T) nt W0 B0 c (ZOu (S T) itS X p1):=by
 intro k
 induction k with
 | zero =>
  intro c hs hs' p1 x hc hX;simp only[toP,oJ,jP]at hc;obtain⟨⟨rfl,rfl⟩,rfl⟩:=hc;intro e st ρ W a r Q hx;refine hX e st ρ W a r Q ?_
  simpa only [ZOu,exec,oS,JW] using hx
 | succ k ih =>
  intro c hs hs' p1 x hc hX
  cases c with
  | seq a b =>
   simp only[toP,oB,oM,jP]at hc;obtain⟨⟨pa,h1⟩,ha,⟨⟨q1,q2⟩,h2⟩,hy,⟨rfl,rfl⟩,rfl⟩:=hc
   have:=(ZZu hm hT ha hg).seq (ih b h1 h2 q1 q2 hy hX)
   intro e st ρ W a r Q hx;refine this e st ρ W a r Q ?_;simp only[ZOu,exec]at hx;rw[ZCL]at hx;exact hx
  | _=>simp[toP]at hc
theorem ZdJ(hm:P.follows .mixedOrders=true)(hT:TabOk P T){X:Run}(hX:FrX X)(p1:PC):FrX (ZOu (S T) itS X p1) :=
 ZBD (ZWZ hm hT p1) fun x r hr=>ZCJ hX hr
end
theorem Zpb(n:Int)(W:World):(Instr.buildSlice 37 1 #[(0,.int .u64 n)]).run Proofs.Tryz.prog W=.ok (.slice (some ⟨W.heap.size,0,none⟩) 1 1) (W.alloc (.cells #[.int .u64 n] 32)):=by
 have ht:Proofs.Tryz.prog.underlying 37=some (.slice 32):=by kernel_rfl
 have hs:=Proofs.Tryz.sizeOf32;have hz:=Proofs.Tryz.zeroValue32;simp only[Instr.buildSlice,Sem.run_bind,Zz ht,Result.andThen_ok,hs]
 rw[if_neg (by decide),if_neg (by decide)]
 simp only[Sem.run_bind,Sem.run_pure,Result.andThen_ok,hz]
 have hf:Instr.fill (fun i=>some (i*1,1)) (Array.map (fun x=>(Value.int IntKind.u64 0).cells[x % (Value.int IntKind.u64 0).cells.size]!) (Array.range (1*1))) [(0,Value.int IntKind.u64 n)]=some #[.int .u64 n]:=by
  first|rfl|kernel_rfl|simp[Instr.fill,Value.cells]
 rw[hf]
 simp[newRow]
theorem ZdK{W:World}{x:Operand}{h:H64}(hop:o.op=.buildSlice 37 1 #[(0,x)])(hx:a.eval x=encH h):
 (execOp a.eval o).run Proofs.Tryz.prog W=.ok (.value (.slice (some ⟨W.heap.size,0,none⟩) 1 1)) (W.alloc (.cells #[encH h] 32)):=by
 simp only[execOp,hop,List.map_toArray,jC,List.map_nil,hx];exact Y5 (Zpb _ W)
noncomputable def cSh:Code:=Proofs.Tryz.f12.body.getD .skip
noncomputable def oSh(i j:Nat):Oper:=((ZKI cSh).getD i #[]).getD j default
noncomputable def xShB:Code:=.block 1 (.seq (.region 7 #[oSh 7 0,oSh 7 1,oSh 7 2,oSh 7 3,oSh 7 4] false) (.seq (.region 8 #[oSh 8 0,oSh 8 1] false) (.cond (.tmp 31) (.region 9 #[oSh 9 0,oSh 9 1,oSh 9 2,oSh 9 3,oSh 9 4] false) .skip)))
noncomputable def xSh:Code:=.seq (.region 4 #[oSh 4 0] false) (.seq (.seq (.region 5 #[oSh 5 0,oSh 5 1] false) (.block 0 (.loop (.seq (.region 6 #[oSh 6 0,oSh 6 1] false) (.seq (.cond (.tmp 26) .skip (.exit 0)) xShB))))) (.seq (.region 10 #[oSh 10 0,oSh 10 1,oSh 10 2,oSh 10 3] false) .ret))
theorem oSh_4_0:OpIs (oSh 4 0) (.assign (.const (.slice none 0 0))) 10:=⟨by kernel_rfl,by kernel_rfl,by kernel_rfl⟩
theorem oSh_5_0:OpIs (oSh 5 0) (.move (.tmp 8)) 23:=⟨by kernel_rfl,by kernel_rfl,by kernel_rfl⟩
theorem oSh_5_1:OpIs (oSh 5 1) (.range 94 (.tmp 23)) 24:=⟨by kernel_rfl,by kernel_rfl,by kernel_rfl⟩
theorem oSh_6_0:OpIs (oSh 6 0) (.next (.tmp 24) false) 25:=⟨by kernel_rfl,by kernel_rfl,by kernel_rfl⟩
theorem oSh_6_1:OpIs (oSh 6 1) (.extract (.tmp 25) 0) 26:=⟨by kernel_rfl,by kernel_rfl,by kernel_rfl⟩
theorem oSh_7_0:OpIs (oSh 7 0) (.entry (.tmp 24)) 27:=⟨by kernel_rfl,by kernel_rfl,by kernel_rfl⟩
theorem oSh_7_1:OpIs (oSh 7 1) (.extract (.tmp 27) 0) 28:=⟨by kernel_rfl,by kernel_rfl,by kernel_rfl⟩
theorem oSh_7_2:OpIs (oSh 7 2) (.extract (.tmp 27) 1) 29:=⟨by kernel_rfl,by kernel_rfl,by kernel_rfl⟩
theorem oSh_7_3:OpIs (oSh 7 3) (.assign (.tmp 28)) 11:=⟨by kernel_rfl,by kernel_rfl,by kernel_rfl⟩
theorem oSh_7_4:OpIs (oSh 7 4) (.assign (.tmp 29)) 12:=⟨by kernel_rfl,by kernel_rfl,by kernel_rfl⟩
theorem oSh_8_0:OpIs (oSh 8 0) (.move (.tmp 12)) 30:=⟨by kernel_rfl,by kernel_rfl,by kernel_rfl⟩
theorem oSh_8_1:OpIs (oSh 8 1) (.binOp .eql 3 (.tmp 30) (.const (.int .i64 2)) 3) 31:=⟨by kernel_rfl,by kernel_rfl,by kernel_rfl⟩
theorem oSh_9_0:OpIs (oSh 9 0) (.move (.tmp 10)) 32:=⟨by kernel_rfl,by kernel_rfl,by kernel_rfl⟩
theorem oSh_9_1:OpIs (oSh 9 1) (.move (.tmp 11)) 33:=⟨by kernel_rfl,by kernel_rfl,by kernel_rfl⟩
theorem oSh_9_2:OpIs (oSh 9 2) (.buildSlice 37 1 #[(0,.tmp 33)]) 34:=⟨by kernel_rfl,by kernel_rfl,by kernel_rfl⟩
theorem oSh_9_3:OpIs (oSh 9 3) (.call { callee:=.builtin .append,args:=#[.tmp 32,.tmp 34],argTypes:=#[37,37] }) 35:=⟨by kernel_rfl,by kernel_rfl,by kernel_rfl⟩
theorem oSh_9_4:OpIs (oSh 9 4) (.assign (.tmp 35)) 10:=⟨by kernel_rfl,by kernel_rfl,by kernel_rfl⟩
theorem oSh_10_0:OpIs (oSh 10 0) (.move (.tmp 10)) 36:=⟨by kernel_rfl,by kernel_rfl,by kernel_rfl⟩
theorem oSh_10_1:OpIs (oSh 10 1) (.call { callee:=.value (.func 45),args:=#[.tmp 36],argTypes:=#[37] }) 37:=⟨by kernel_rfl,by kernel_rfl,by kernel_rfl⟩
theorem oSh_10_2:OpIs (oSh 10 2) (.assign (.tmp 37)) 6:=⟨by kernel_rfl,by kernel_rfl,by kernel_rfl⟩
theorem oSh_10_3:OpIs (oSh 10 3) (.assign (.const (.int .i64 0))) 7:=⟨by kernel_rfl,by kernel_rfl,by kernel_rfl⟩
attribute [irreducible] oSh
def ZhS:Run:=fun e st=>match QAbs.look e 8 with
 | .map lv ix=>(ZBi (st.get lv ix)).bind fun es=>(ZZx (fun n=>decide (n=2)) es).bind fun ks=>if ks.Nodup/\es.length<1000000000 then some (.ret,[(6,.lit ((srtH ks).map hAV)),(7,.int .i64 0)],st) else none
 | _=>none
structure ISh(p:Int->Bool)(W:World)(a:Act)(b clock:Nat)(en:Array MapEntry)(seen:Array Nat)(a':Act)(W':World):Prop where
 it:Itr W' b W.heap.size clock en seen
 jk:Jk W.heap.size W W'
 sz:a'.tmps.size=a.tmps.size
 df:a'.defers=a.defers
 ev:a'.eval (.tmp 24)=.pointer (some ⟨W.heap.size,0,none⟩)
 big:W.heap.size+1<=W'.heap.size
 out:∃ks:List H64,W'.ownsRow (W.heap.size+1) 32 1 (a'.eval (.tmp 10)) ks.length (ks.map encH)/\(a'.eval (.tmp 10)=.slice none 0 0↔ks=[])/\(ks++(Yy en seen).filterMap (ZSE p)).Perm (en.toList.filterMap (ZSE p))
theorem Zqk{T:Tab}{W0:World}{B0:Bse}:CodeOk none Proofs.Tryz.prog (S T) 38 W0 B0 xSh ZhS:=by
 intro e st ρ W a0 r Q hx hr he hn hQ;unfold ZhS at hx
 split at hx
 case h_2=>simp at hx
 rename_i lv ix hl 
 simp only[oB]at hx;obtain⟨es,hes,ks0,hks,hx⟩:=hx
 split at hx
 case isFalse=>simp at hx
 rename_i hcnd
 obtain⟨hnd,hlen⟩:=hcnd;simp only[oJ]at hx;subst hx;have hg:=ZAI hes;have hm:=he 8;rw[hl]at hm;generalize hm8:a0.tmps.getD 8 Go.undef=m8 at hm
 have hevm:a0.eval (.tmp 8)=m8:=by rw[<- hm8];rfl
 cases hm with
 | map hp =>
 obtain⟨p1,p2,r0,rfl,p3⟩:=hp
 have:=p3 es hg;subst this
 obtain⟨en,clock,h1,h2,hf⟩:=(hr.map lv ix es hg).ent;obtain⟨hsel,hall⟩:=Zfb h2 hks
 have hsz:en.toList.length<1000000000:=by have:=h2.1;omega
 unfold xSh;refine wpIn_seq (wpIn_region ?_)
 show wpOpsIn (fen none) 0 _ #[oSh 4 0] _ [0] a0 W
 rw[wpOpsIn_cons]
 refine Qi oSh_4_0 Y (by simp) (QT (x:=.const (.slice none 0 0)) (.inr oSh_4_0.op)) ?_
 show Code.wpIn _ _ _ _ _ _ _
 generalize ha:a0.put (some 10) (a0.eval (.const (.slice none 0 0)))=a
 have sza:a.tmps.size=a0.tmps.size:=by rw[<- ha];simp[Act.put]
 have dfa:a.defers=a0.defers:=by rw[<- ha];rfl
 have hev8:a.eval (.tmp 8)=.map (some (ρ lv ix).b):=by rw[<- ha,Act.put_other (by decide)];exact hevm
 have hev10:a.eval (.tmp 10)=.slice none 0 0:=by rw[<- ha];exact Act.put_look (by omega)
 clear ha;refine wpIn_seq (wpIn_seq (wpIn_region ?_))
 show wpOpsIn (fen none) 0 _ #[oSh 5 0,oSh 5 1] _ [0,1] a W
 rw[wpOpsIn_cons]
 refine Qi oSh_5_0 Y (by simp) (QT (x:=.tmp 8) (.inl oSh_5_0.op)) ?_
 rw[wpOpsIn_cons,hev8]
 refine Qi oSh_5_1 Y (by simp) (ZIz (m:=.tmp 23) (t:=94) oSh_5_1.op (show Proofs.Tryz.prog.underlying 94=some (TypeDesc.map 32 3) by kernel_rfl) (Act.put_look (by omega)) h1) ?_
 show Code.wpIn _ _ _ _ _ _ _
 have hjk0:Jk W.heap.size W (W.alloc (.mapIter (some (ρ lv ix).b) clock #[] clock)):=by
  exact⟨rfl,rfl,rfl,by simp,fun i hi _=>Go.RowKit.Below.heap_alloc _ _ _ hi,.inl (Nat.le_refl _)⟩
 refine ZLg (o3:=oSh 6 0) (o4:=oSh 6 1) (it:=.tmp 24) (nx:=25) (ok:=26) hf oSh_6_0.op oSh_6_0.gd oSh_6_0.dst oSh_6_1.op oSh_6_1.gd oSh_6_1.dst
  (ISh (fun n=>decide (n=2)) W a (ρ lv ix).b clock en) (fun seen a' W' h=>⟨h.ev,by have:=h.sz;omega,by have:=h.sz;omega,h.it⟩) ?_ ?_ ?_
 ·-- behind the loop
  intro seen a' W' h hl0;obtain⟨ks,hown,hnil,hperm⟩:=h.out;rw[hl0,List.filterMap_nil,lN,hsel]at hperm;have hsz':=h.sz
  show Code.wpIn _ _ _ _ _ _ _
  generalize ha1:(a'.put (some 25) (.tuple #[.bool false])).put (some 26) (.bool false)=a1
  have s1:a1.tmps.size=a0.tmps.size:=by rw[<- ha1];simpa [Act.put,sza] using hsz'
  have d1:a1.defers=a0.defers:=by rw[<- ha1];exact h.df.trans dfa
  have e10:a1.eval (.tmp 10)=a'.eval (.tmp 10):=by rw[<- ha1,Act.put_other (by decide),Act.put_other (by decide)]
  generalize a'.eval (.tmp 10)=vo at *
  refine wpIn_seq (wpIn_region ?_)
  show wpOpsIn (fen none) 0 _ #[oSh 10 0,oSh 10 1,oSh 10 2,oSh 10 3] _ [0,1,2,3] a1 W'
  rw[wpOpsIn_cons]
  refine Qi oSh_10_0 Y (by simp) (QT (x:=.tmp 10) (.inl oSh_10_0.op)) ?_
  rw[wpOpsIn_cons,e10]
  have hz:(a1.put (some 36) vo).eval (.tmp 36)=vo:=Act.put_look (by omega)
  have hc:Go.Calls Proofs.Tryz.prog 45 #[vo] W' fun e W2=>∃x,e=.returned x/\(Go.RowKit.Below W'.heap.size W' W2/\QAbs.R (cx st ρ W2 st.A.length) (.lit ((srtH ks0).map hAV)) x):=by
   have hsame:srtH ks=srtH ks0:=ZdG hperm;have hlen0:=hperm.length_eq
   have hks0:ks0.length<=1000000000:=by
    have h4:=List.length_filterMap_le (ZSE (fun n=>decide (n=2))) en.toList
    rw[hsel]at h4;omega
   rcases hown.2 with⟨rfl,hz0⟩|⟨g,cap,cur,rfl,hgb,hgc,hnc,hcm,hcs,htk⟩
   ·have:ks0=[]:=List.eq_nil_of_length_eq_zero (by omega)
    subst this;refine (hSort_nil W').mono ?_
    rintro e' W2 ⟨rfl,rfl⟩
    exact⟨_,rfl,Go.RowKit.Below.refl _ _,by rw[show srtH []=[] by simp[srtH]];exact .lit0 _ _⟩
   ·have hpos : 0 < ks.length := by
     rcases Nat.eq_zero_or_pos ks.length with h0|h0
     ·have:=hnil.2 (List.eq_nil_of_length_eq_zero h0)
      simp at this
     ·exact h0
    refine (hSort ⟨g,0,none⟩ cap ks (hperm.nodup_iff.2 hnd) hpos (by omega) W' (fun j u hj=>hown.cells Y j u hj)).mono ?_
    rintro e' W2 ⟨g2,cap2,rfl,hg2,hc1,hc2,hbel,hH⟩
    refine⟨_,rfl,hbel,?_⟩;rw[<- hsame]
    have hes:((srtH ks).map hAV).length=ks.length:=by rw[List.length_map,ZhQ]
    have:=ZPD (C:=cx st ρ W2 st.A.length) (es:=(srtH ks).map hAV) (xs:=(srtH ks).map encH) (b:=g2) (o:=0) (w:=1) (c:=cap2) (a:=some ⟨g2,0,none⟩) ⟨by simp,fun i v x hv hx=>?_⟩ (fun i x hx=>?_) (by rw[hes];exact hc1) (fun _=>rfl)
    ·rw[hes]at this;exact this
    ·rw[jG,oM]at hv hx
     obtain⟨u,hu,rfl⟩:=hv;obtain⟨u2,hu2,rfl⟩:=hx;rw[hu]at hu2
     have:=Option.some.inj hu2
     subst this;exact .int _ _
    ·rw[jG,oM]at hx
     obtain⟨u,hu,rfl⟩:=hx
     refine⟨rfl,fun j v hv=>?_⟩
     have hj:j=0:=by
      have:=(Array.getElem?_eq_some_iff.1 hv).1
      simpa [encH,Value.cells] using this
     subst hj
     have hv2:v=encH u:=by simpa [encH,Value.cells] using hv.symm
     subst hv2
     have hi:i<(srtH ks).toArray.size:=by simpa using (List.getElem?_eq_some_iff.1 hu).1
     have hcell:=(hH i hi).1
     have hget:(srtH ks).toArray[i]! =u:=by
      rw[getElem!_pos _ i hi]
      have:=(List.getElem?_eq_some_iff.1 hu).2
      simpa using this
     rw[hget]at hcell
     refine⟨by rw[show 0+i*1+0=0+i by omega];exact hcell,?_⟩
     rintro⟨lv',ix',w2,ver',es',hg',h2',h3',h4'⟩
     have hmm:=(hr.arr _ _ _ _ _ hg').mem (0+i*1+0-(ρ lv' ix').o) (by omega)
     obtain⟨y,hy⟩:=Option.isSome_iff_exists.1 hmm.2.1
     have:=ZFA (W:=W) (b:=(ρ lv' ix').b) hy
     have:=h.jk.size
     omega
  refine ZdI (o:=oSh 10 1) (f:=.func 45) Y oSh_10_1.gd oSh_10_1.op Y Y Proofs.Tryz.call45 ?_
  show Go.Calls Proofs.Tryz.prog 45 #[(a1.put (some 36) vo).eval (.tmp 36)] W' _
  rw[hz];refine hc.mono ?_
  rintro e' W2 ⟨x,rfl,hbel,hR⟩
  refine⟨x,rfl,?_⟩;rw[oSh_10_1.dst,wpOpsIn_cons]
  refine Qi oSh_10_2 Y (by simp) (QT (x:=.tmp 37) (.inr oSh_10_2.op)) ?_
  rw[Act.put_look (by simp[Act.put];omega)]
  rw[wpOpsIn_cons]
  refine Qi oSh_10_3 Y (by simp) (QT (x:=.const (.int .i64 0)) (.inr oSh_10_3.op)) ?_
  show Code.wpIn _ _ _ _ _ _ _
  refine wpIn_ret ?_
  have hjk2:Jk W.heap.size W W2:=by
   refine⟨hbel.os.trans h.jk.os,hbel.tape.trans h.jk.tape,hbel.output.trans h.jk.output,Nat.le_trans h.jk.size hbel.size,fun i hi hne=>?_,.inl (Nat.le_refl _)⟩
   rw[hbel.block i (by have:=h.jk.size;omega)]
   exact h.jk.blk i hi hne
  refine hQ _ ρ W2 (hr.jk hjk2 hr.b0) ?_ (by simpa [Act.put] using s1) d1
  intro t
  by_cases ht:t=6
  ·subst ht
   have q:((((a1.put (some 36) vo).put (some 37) x).put (some 6) x).put (some 7) (.int .i64 0)).eval (.tmp 6)=x:=by
    rw[Act.put_other (by decide)];exact Act.put_look (by simp[Act.put];omega)
   have q2:((((a1.put (some 36) vo).put (some 37) x).put (some 6) x).put (some 7) (.int .i64 0)).tmps.getD 6 Go.undef=x:=q
   show QAbs.R _ _ (((((a1.put (some 36) vo).put (some 37) x).put (some 6) x).put (some 7) (.int .i64 0)).tmps.getD 6 Go.undef)
   rw[q2];exact hR
  ·by_cases ht7:t=7
   ·subst ht7
    have q:((((a1.put (some 36) vo).put (some 37) x).put (some 6) x).put (some 7) (.int .i64 0)).eval (.tmp 7)=.int .i64 0:=Act.put_look (by simp[Act.put];omega)
    have q2:((((a1.put (some 36) vo).put (some 37) x).put (some 6) x).put (some 7) (.int .i64 0)).tmps.getD 7 Go.undef=.int .i64 0:=q
    show QAbs.R _ _ (((((a1.put (some 36) vo).put (some 37) x).put (some 6) x).put (some 7) (.int .i64 0)).tmps.getD 7 Go.undef)
    rw[q2];exact .int _ _
   ·have q:QAbs.look [((6:Nat),(AV.lit ((srtH ks0).map hAV))),(7,.int .i64 0)] t=.any:=by simp[QAbs.look,Ne.symm ht,Ne.symm ht7]
    show QAbs.R _ (QAbs.look [((6:Nat),(AV.lit ((srtH ks0).map hAV))),(7,.int .i64 0)] t) _
    rw[q];exact .any _
 ·-- a round
  intro seen a' W' x w1 h hx hw hit hnew hjk;obtain⟨ks,hown,hnil,hperm⟩:=h.out;have hsz':=h.sz;obtain⟨hh,n,hkey,hval⟩:=hall x (ZA0 hx)
  have hperm2:=(ZGE hf hx).filterMap (ZSE (fun n=>decide (n=2)))
  rw[List.filterMap_cons,Zfa hkey hval]at hperm2;have hlb:W'.heap.size<=(setBlock w1 W.heap.size (.mapIter (some (ρ lv ix).b) clock (seen.push x.born) clock)).heap.size:=hjk.size;have hbig:=h.big
  generalize hW1:setBlock w1 W.heap.size (.mapIter (some (ρ lv ix).b) clock (seen.push x.born) clock)=W1 at *
  have hown1:=ZZy hjk hown;have jk1:=h.jk.trans (Nat.le_refl _) hjk;clear hW1 hown hw;unfold xShB;refine wpIn_block (wpIn_seq (wpIn_region ?_))
  show wpOpsIn (fen none) 0 _ #[oSh 7 0,oSh 7 1,oSh 7 2,oSh 7 3,oSh 7 4] _ [0,1,2,3,4] _ W1
  generalize ha1:(a'.put (some 25) (.tuple #[.bool true,x.key,x.val])).put (some 26) (.bool true)=a1
  have s1:a1.tmps.size=a0.tmps.size:=by rw[<- ha1];simpa [Act.put,sza] using hsz'
  have d1:a1.defers=a.defers:=by rw[<- ha1];exact h.df
  have e1:a1.eval (.tmp 24)=.pointer (some ⟨W.heap.size,0,none⟩):=by rw[<- ha1,Act.put_other (by decide),Act.put_other (by decide)];exact h.ev
  have e2:a1.eval (.tmp 10)=a'.eval (.tmp 10):=by rw[<- ha1,Act.put_other (by decide),Act.put_other (by decide)]
  generalize a'.eval (.tmp 10)=vo at *
  clear ha1;rw[wpOpsIn_cons]
  refine Qi oSh_7_0 Y (by simp) (ZI0 (it:=.tmp 24) oSh_7_0.op e1 hnew hit.map hf (ZA0 hx)) ?_
  rw[wpOpsIn_cons]
  refine Qi oSh_7_1 Y (by simp) (ZA1 (t:=.tmp 27) (k:=0) (x:=x.key) oSh_7_1.op (Act.put_look (by omega)) Y) ?_
  rw[wpOpsIn_cons]
  refine Qi oSh_7_2 Y (by simp) (ZA1 (t:=.tmp 27) (k:=1) (x:=x.val) oSh_7_2.op (by rw[Act.put_other (by decide)];exact Act.put_look (by omega)) Y) ?_
  generalize hb:((a1.put (some 27) (.tuple #[x.key,x.val])).put (some 28) x.key).put (some 29) x.val=a2
  have s2:a2.tmps.size=a0.tmps.size:=by rw[<- hb];simpa [Act.put] using s1
  have d2:a2.defers=a.defers:=by rw[<- hb];exact d1
  have f1:a2.eval (.tmp 24)=.pointer (some ⟨W.heap.size,0,none⟩):=by rw[<- hb,Act.put_other (by decide),Act.put_other (by decide),Act.put_other (by decide)];exact e1
  have f2:a2.eval (.tmp 10)=vo:=by rw[<- hb,Act.put_other (by decide),Act.put_other (by decide),Act.put_other (by decide)];exact e2
  have f3:a2.eval (.tmp 28)=x.key:=by rw[<- hb,Act.put_other (by decide)];exact Act.put_look (by simp[Act.put];omega)
  have f4:a2.eval (.tmp 29)=x.val:=by rw[<- hb];exact Act.put_look (by simp[Act.put];omega)
  clear hb;rw[wpOpsIn_cons]
  refine Qi oSh_7_3 Y (by simp) (QT (x:=.tmp 28) (.inr oSh_7_3.op)) ?_
  rw[wpOpsIn_cons,f3]
  refine Qi oSh_7_4 Y (by simp) (QT (x:=.tmp 29) (.inr oSh_7_4.op)) ?_
  rw[Act.put_other (by decide),f4]
  show Code.wpIn _ _ _ _ _ _ _
  generalize hb:(a2.put (some 11) x.key).put (some 12) x.val=a3
  have s3:a3.tmps.size=a0.tmps.size:=by rw[<- hb];simpa [Act.put] using s2
  have d3:a3.defers=a.defers:=by rw[<- hb];exact d2
  have g1:a3.eval (.tmp 24)=.pointer (some ⟨W.heap.size,0,none⟩):=by rw[<- hb,Act.put_other (by decide),Act.put_other (by decide)];exact f1
  have g2:a3.eval (.tmp 10)=vo:=by rw[<- hb,Act.put_other (by decide),Act.put_other (by decide)];exact f2
  have g3:a3.eval (.tmp 11)=encH hh:=by rw[<- hb,Act.put_other (by decide),<- hkey];exact Act.put_look (by omega)
  have g4:a3.eval (.tmp 12)=.int .i64 n:=by rw[<- hb,<- hval];exact Act.put_look (by simp[Act.put];omega)
  clear hb;refine wpIn_seq (wpIn_region ?_)
  show wpOpsIn (fen none) 0 _ #[oSh 8 0,oSh 8 1] _ [0,1] a3 W1
  rw[wpOpsIn_cons]
  refine Qi oSh_8_0 Y (by simp) (QT (x:=.tmp 12) (.inl oSh_8_0.op)) ?_
  rw[wpOpsIn_cons,g4]
  refine Qi oSh_8_1 Y (by simp) (ZhR (x:=.tmp 30) (y:=.const (.int .i64 2)) (k:=.i64) (m:=n) (n:=2) (b:=decide (n=2)) oSh_8_1.op (Act.put_look (by omega)) Y Y) ?_
  show Code.wpIn _ _ _ _ _ _ _
  generalize hb:(a3.put (some 30) (.int .i64 n)).put (some 31) (.bool (decide (n=2)))=a4
  have s4:a4.tmps.size=a0.tmps.size:=by rw[<- hb];simpa [Act.put] using s3
  have d4:a4.defers=a.defers:=by rw[<- hb];exact d3
  have k1:a4.eval (.tmp 24)=.pointer (some ⟨W.heap.size,0,none⟩):=by rw[<- hb,Act.put_other (by decide),Act.put_other (by decide)];exact g1
  have k2:a4.eval (.tmp 10)=vo:=by rw[<- hb,Act.put_other (by decide),Act.put_other (by decide)];exact g2
  have k3:a4.eval (.tmp 11)=encH hh:=by rw[<- hb,Act.put_other (by decide),Act.put_other (by decide)];exact g3
  have k4:a4.eval (.tmp 31)=.bool (decide (n=2)):=by rw[<- hb];exact Act.put_look (by simp[Act.put];omega)
  clear hb
  by_cases hp:decide (n=2)=true
  ·rw[if_pos hp]at hperm2
   refine wpIn_cond_true (by rw[k4,hp]) (wpIn_region ?_)
   show wpOpsIn (fen none) 0 _ #[oSh 9 0,oSh 9 1,oSh 9 2,oSh 9 3,oSh 9 4] _ [0,1,2,3,4] a4 W1
   rw[wpOpsIn_cons]
   refine Qi oSh_9_0 Y (by simp) (QT (x:=.tmp 10) (.inl oSh_9_0.op)) ?_
   rw[wpOpsIn_cons,k2]
   refine Qi oSh_9_1 Y (by simp) (QT (x:=.tmp 11) (.inl oSh_9_1.op)) ?_
   rw[Act.put_other (by decide),k3,wpOpsIn_cons]
   refine Qi oSh_9_2 Y (by simp) (ZdK (h:=hh) oSh_9_2.op (Act.put_look (by simp[Act.put];omega))) ?_
   have hcnt:ks.length<=1000000000:=by
    have h3:=hperm.length_eq
    have h4:=List.length_filterMap_le (ZSE (fun n=>decide (n=2))) en.toList
    rw[lL]at h3;omega
   obtain⟨i0,z,q1,q2,q3,q4,q5⟩:=hinfo;have hown2:=hown1.alloc (.cells #[encH hh] 32)
   have hsz2:(W1.alloc (.cells #[encH hh] 32)).heap.size=W1.heap.size+1:=by simp
   obtain⟨v',W3,hrun,hown3,hgr,hiff⟩:=run_append_own (P:=Proofs.Tryz.prog) (w:=W1.alloc (.cells #[encH hh] 32)) (W.heap.size+1) 37 (oSh 9 3).type 32 i0 z 1 8 (by kernel_rfl) q1 q2 q3 q4 q5 (by decide) vo ks.length (ks.map encH) hown2
    ⟨W1.heap.size,0,none⟩ 1 1 [encH hh] rfl (fun j u hj=>by
     match j,hj with
     | 0,hj =>
      simp only[List.getElem?_cons_zero,oJ]at hj;subst hj
      show (W1.alloc (.cells #[encH hh] 32)).cell? ⟨W1.heap.size,0+0,none⟩=_
      rw[World.cell?_alloc_new];rfl
     | j+1,hj=>simp at hj) (fun u hu=>by simp only[List.mem_singleton]at hu;subst hu;rfl) (by unfold maxLen;omega) (by omega) (by omega)
   rw[wpOpsIn_cons]
   refine Qi oSh_9_3 Y (by simp) (ZdH (v:=vo) (ad:=⟨W1.heap.size,0,none⟩) (m:=1) (c:=1) oSh_9_3.op (by rw[Act.put_other (by decide),Act.put_other (by decide)];exact Act.put_look (by omega)) (Act.put_look (by simp[Act.put];omega)) hrun) ?_
   rw[wpOpsIn_cons]
   refine Qi oSh_9_4 Y (by simp) (QT (x:=.tmp 35) (.inr oSh_9_4.op)) ?_
   rw[Act.put_look (by simp[Act.put];omega)]
   have hblk:∀i,i<=W.heap.size->W3.heap[i]?=W1.heap[i]?:=fun i hi=>by
    rw[hgr.block i (by omega) (fun q=>?_)]
    ·exact Go.RowKit.Below.heap_alloc _ _ _ (by omega)
    ·have:=(hown2.lt i q.symm).1
     omega
   have hsz3:=hgr.size
   refine⟨rfl,⟨by rw[hblk _ (by have:=QR h1;omega)];exact hit.map,clock,Nat.le_refl _,by rw[hblk _ (Nat.le_refl _)];exact hnew⟩,⟨hgr.os.trans jk1.os,hgr.tape.trans jk1.tape,hgr.output.trans jk1.output,by have:=jk1.size;omega,fun i hi hne=>?_,.inl (Nat.le_refl _)⟩,by simpa [Act.put,sza] using s4,d4,?_,by omega,ks++[hh],?_,?_,?_⟩
   ·rw[hblk i (by omega)];exact jk1.blk i hi hne
   ·rw[Act.put_other (by decide),Act.put_other (by decide),Act.put_other (by decide),Act.put_other (by decide),Act.put_other (by decide)];exact k1
   ·rw[Act.put_look (by simp[Act.put];omega),lL,List.map_append];exact hown3
   ·rw[Act.put_look (by simp[Act.put];omega),hiff];simp
   ·refine List.Perm.trans ?_ hperm
    rw[List.append_assoc];exact (hperm2.append_left ks).symm
  ·rw[if_neg hp]at hperm2
   refine wpIn_cond_false (by rw[k4];simpa using hp) (wpIn_skip ?_)
   refine⟨rfl,hit,jk1,by rw[s4,sza],d4,k1,by omega,ks,by rw[k2];exact hown1,by rw[k2];exact hnil,?_⟩
   exact (hperm2.append_left ks).symm.trans hperm
 ·refine⟨⟨?_,clock,Nat.le_refl _,?_⟩,hjk0,by simp[Act.put],rfl,Act.put_look (by simp[Act.put];omega),by simp,[],?_,?_,?_⟩
  ·exact hjk0.heap h1 Y
  ·exact World.alloc_heap_new _ _
  ·rw[Act.put_other (by decide),Act.put_other (by decide),hev10];exact World.ownsRow_nil _ _ _ _
  ·rw[Act.put_other (by decide),Act.put_other (by decide),hev10];simp
  ·rw[ZSB];exact .refl _
end Go.Q15
namespace Go.Q15
open Go Go.QAbs
variable {r':AR}{a:Act}{ro:Bool}{c:Code}{e:Env}{f:FuncId}{A:List (Bool × List Blk)}{args caps cls:LV}{l:List Nat}{clock d i ip ix j la mx n ob ox rx ver wb:Nat}{x:Nd}{o:Oper}{s st:St}{t:Tr}
def h_S:List Hint:=[⟨[0,4,5],[],[],[],[],[]⟩,⟨[8,9],[],[],[],[],[]⟩,⟨[8,9,21],[],[],[],[],[]⟩,⟨[6,7],[],[],[],[],[]⟩]
def ZrU:PC:=.reg [0,4,5] [⟨(some 4),none,false,.box (.s 1)⟩,⟨(some 5),none,false,.box (.s 2)⟩,⟨(some 6),none,false,.mv (.v .nils)⟩,⟨(some 7),none,false,.mv (.v (.int .i64 0))⟩]
def ZrV:PC:=.reg [6,7] [⟨(some 22),none,false,.mv (.s 9)⟩,⟨(some 6),none,false,.mv (.v .nils)⟩,⟨(some 7),none,false,.mv (.s 22)⟩]
def pS1:PC:=.seq ZrU (D Zp3 (D (D Zp4 (E 21 (D ZrV .ret) .skip)) .skip))
theorem ZrW:toP Proofs.Tryz.prog 38 3 h_S cSh=some ((pS1,xSh),[]):=by kernel_rfl
theorem Zql:FrX ZhS:=FrX.of fun e st r hr=>by
 unfold ZhS at hr ⊢
 split at hr
 case h_2=>simp at hr
 rename_i lv ix h1
 simp only[oB]at hr;obtain⟨es,hes,ks,hks,hr⟩:=hr
 split at hr
 case isFalse=>simp at hr
 rename_i hc
 simp only[oJ]at hr;subst hr
 refine⟨rfl,fun M i B hh=>?_⟩
 have hg:=ZAI hes;simp only[JM hh lv ix _ hg];simp only[ZBi,oS,hks,if_pos hc]
noncomputable def shE:Ent:=.base (fnO (ZOu (S T3) itS ZhS pS1) rsV)
noncomputable def tw:List (FuncId × Ent):=(Y9,shE)::tv
noncomputable def TW:Tab:=Y7 tw
theorem Zqm(hT:TabOk Proofs.Tryz.prog T3)(hm:Proofs.Tryz.prog.follows .mixedOrders=true)(hf:Proofs.Tryz.prog.funcs[Y9]?=some Proofs.Tryz.f12):ZHf Proofs.Tryz.prog Y9 shE:=by
 refine Zm4 (c:=cSh) (O:=S T3) hf (by kernel_rfl) (fun W0 B0 hg=>?_) (ZdJ hm hT Zql _) (by kernel_rfl)
 exact ZnA (nt:=Proofs.Tryz.f12.ntmps) hm hT hg 3 cSh h_S [] pS1 xSh ZrW Zqk
theorem leW:TLe TV TW:=fun g y hg=>X3 (l:=tv) (by decide +kernel) g y hg
theorem upW{r:AV × St}(h:S TV f args st=some r):S TW f args st=some r:=ZOq leW _ _ _ _ h
theorem s_pr{T T0:Tab}{X:Run}{pre:PC}{rs:List RV}{r:AV × St}(hT:T f=some (.base (fnO (ZOu (S T0) itS X pre) rs)))
 (h:∀A,A=st.ps->Ru (S T0) pre [] (fun x e s=>(x=.ret/\JD false rs (.ret,e,s)=some r)\/(x=.norm/\∃x2 e2 s2,X e s=some (x2,e2,s2)/\JD false rs (x2,e2,s2)=some r)) (Qc 0 args) ⟨A,false,[]⟩):S T f args st=some r:=by
 refine ZV7 (o:=fnO (ZOu (S T0) itS X pre) rs) hT ?_;obtain⟨x,e1,s1,h1,h2⟩:=(h _ rfl).h;unfold fnO ZOu
 have:st.push=⟨st.ps,false,[]⟩:=rfl
 rw[this,h1,oS]
 rcases h2 with⟨rfl,h3⟩|⟨rfl,x2,e2,s2,h3,h4⟩
 ·simp only[JW,oS];exact h3
 ·simp only[JW,h3,oS];exact h4
def ZJv(p:Int->Bool)(c:List (Nat × Int)):List Nat:=(c.filter fun q=>p q.2).map Prod.fst
def toH(h:Nat):H64:=⟨h % 18446744073709551616,Nat.mod_lt _ (by decide)⟩
theorem Zfc(p:Int->Bool):∀c:List (Nat × Int),(∀q∈c,q.1<18446744073709551616)->ZZx p (Y0 c)=some ((ZJv p c).map toH)
 | [],_=>rfl
 | (k,n)::c,hc=>by
  have h0:k<18446744073709551616:=hc (k,n) (by simp)
  show ZZx p ((AV.int .u64 (k:Int),AV.int .i64 n)::Y0 c)=_
  unfold ZZx
  rw[dif_pos ⟨by omega,by omega⟩,Zfc p c fun q hq=>hc q (by simp[hq])]
  unfold ZJv;rw[List.filter_cons]
  have e:toH k=⟨((k:Nat):Int).toNat,by omega⟩:=by
   apply Fin.ext
   show k % 18446744073709551616=((k:Nat):Int).toNat
   rw[Int.toNat_natCast];omega
  by_cases hp:p n=true
  ·simp only[hp,if_true,Option.map_some,jC,e]
  ·simp[hp]
theorem ZhT(h:Nat):∀c:List (Nat × Int),(c.map Prod.fst).Nodup->((ZBL h c).map Prod.fst).Nodup/\∀x,x∈(ZBL h c).map Prod.fst↔x=h\/x∈c.map Prod.fst
 | [],_=>by simp[ZBL]
 | (k,n)::c,hc=>by
  simp only[jC,List.nodup_cons]at hc;unfold ZBL
  split
  ·rename_i e
   subst e;simp only[jC,List.nodup_cons,List.mem_cons]
   exact⟨hc,fun x=>by constructor<;>intro q<;>simp_all⟩
  ·rename_i e
   obtain⟨i1,i2⟩:=ZhT h c hc.2;simp only[jC,List.nodup_cons,List.mem_cons]
   refine⟨⟨fun q=>?_,i1⟩,fun x=>?_⟩
   ·rcases (i2 k).1 q with q|q
    ·exact e q
    ·exact hc.1 q
   ·rw[i2];constructor<;>(rintro (q|q|q)<;>simp[q])
theorem XS:∀(l:List Nat) (c:List (Nat × Int)),(c.map Prod.fst).Nodup->((Ju c l).map Prod.fst).Nodup/\∀x,x∈(Ju c l).map Prod.fst↔x∈c.map Prod.fst\/x∈l
 | [],c,hc=>⟨hc,by simp[Ju]⟩
 | h::l,c,hc=>by
  obtain⟨i1,i2⟩:=ZhT h c hc;obtain⟨j1,j2⟩:=XS l (ZBL h c) i1
  refine⟨j1,fun x=>?_⟩
  show x∈(Ju (ZBL h c) l).map Prod.fst↔_
  rw[j2,i2,List.mem_cons]
  constructor
  ·rintro ((q|q)|q)<;>simp[q]
  ·rintro (q|q|q)<;>simp[q]
theorem Zfd:∀ {c:List (Nat × Int)} {k:Nat} {n:Int},(c.map Prod.fst).Nodup->(k,n)∈c->Q1 k c=n
 | (k0,n0)::c,k,n,hn,h=>by
  simp only[jC,List.nodup_cons]at hn;unfold Q1
  rcases List.mem_cons.1 h with q|q
  ·simp only[jP]at q
   rw[if_pos q.1.symm];exact q.2.symm
  ·rw[if_neg (fun e=>hn.1 (by rw[e];exact List.mem_map.2 ⟨(k,n),q,rfl⟩))]
   exact Zfd hn.2 q
theorem ZhU{p:Int->Bool}{c:List (Nat × Int)}(hn:(c.map Prod.fst).Nodup){x:Nat}:x∈ZJv p c↔x∈c.map Prod.fst/\p (Q1 x c)=true:=by
 unfold ZJv;rw[List.mem_map]
 constructor
 ·rintro⟨⟨k,n⟩,h,rfl⟩
  rw[List.mem_filter]at h
  exact⟨List.mem_map.2 ⟨_,h.1,rfl⟩,by rw[Zfd hn h.1];exact h.2⟩
 ·rintro⟨h1,h2⟩
  obtain⟨⟨k,n⟩,h,rfl⟩:=List.mem_map.1 h1;refine⟨(k,n),List.mem_filter.2 ⟨h,?_⟩,rfl⟩;rw[Zfd hn h]at h2;exact h2
theorem ZGF{p:Int->Bool}{c:List (Nat × Int)}(hn:(c.map Prod.fst).Nodup):(ZJv p c).Nodup:=by
 unfold ZJv
 exact ((List.filter_sublist (p:=fun q=>p q.2) (l:=c)).map Prod.fst).nodup hn
def ZhV(l:List Nat):List Nat:=(srtH (l.map toH)).map Fin.val
theorem Zj6(l:List H64):l.map hAV=(l.map Fin.val).map Zt:=by rw[List.map_map];rfl
theorem Zj7(hl:∀x∈l,x<18446744073709551616)(hn:l.Nodup):(l.map toH).Nodup:=by
 induction l with
 | nil=>simp
 | cons a l ih =>
  rw[List.nodup_cons]at hn;rw[jC,List.nodup_cons]
  refine⟨fun h=>?_,ih (fun x hx=>hl x (by simp[hx])) hn.2⟩
  obtain⟨b,hb,e⟩:=List.mem_map.1 h
  have h1:=hl a (by simp)
  have h2:=hl b (by simp[hb])
  have e2:b % 18446744073709551616=a % 18446744073709551616:=congrArg Fin.val e
  have:b=a:=by omega
  subst this;exact hn.1 hb
theorem ZhW:∀l:List Tr,(∀t∈l,4*(t.cnt:Int)+4<=t.bytes)->4*(Tr.cntL l:Int)+4*l.length<=Tr.bytesL l
 | [],_=>by simp[Tr.cntL,Tr.bytesL]
 | t::l,h=>by
  have h1:=h t (by simp)
  have h2:=ZhW l fun u hu=>h u (by simp[hu])
  simp only[Tr.cntL,Tr.bytesL,List.length_cons];omega
theorem ZnB{N:ZJ}(hN:GoodN N)(hv:Val N t):(t.cnt:Int)<=t.bytes/\(Big t->4*(t.cnt:Int)+4<=t.bytes):=by
 have hsz:=hv.size hN;have hps:=hv.pos.2
 induction hv with
 | @kept o h m k x h0 hx hok hh hm hk =>
  have ec:(Tr.mk o h m [] k).cnt=0:=by rw[Tr.cnt,Tr.cntO_getD,hk,if_neg h0];rfl
  have hl:h<=16:=by
   rcases hok with q|⟨n,ks,q⟩
   ·rw[<- hh,q.h];omega
   ·have:=q.n15;have e:=q.eq;subst e;simp only at hh;omega
  rw[ec]
  refine⟨by omega,fun q=>?_⟩
  have h1:=hsz q;have h2:=(ZEy hl).1;simp only[Tr.h]at h1;omega
 | @leaf s k h1 h2 hk =>
  have ec:(Tr.mk 0 0 .zero s k).cnt=1:=by rw[Tr.cnt,Tr.cntO_getD,hk];rfl
  rw[ec]
  refine⟨by omega,fun q=>?_⟩
  have:=q rfl
  omega
 | @inner h l hh h2 h4 hl hb hv ih =>
  have ec:(Tr.mk 0 (h+1) .zero [] (some l)).cnt=Tr.cntL l+1:=by rw[Tr.cnt,Tr.cntO];simp;omega
  have eb:(Tr.mk 0 (h+1) .zero [] (some l)).bytes=Tr.bytesL l:=by rw[Tr.bytes,Tr.bytesO];simp[Mea.zero]
  have:=ZhW l fun u hu=>(ih u hu ((hv u hu).size hN) (hv u hu).pos.2).2 (fun q=>hb u hu (by rw[<- hl u hu];exact q))
  rw[ec,eb]
  exact⟨by omega,fun _=>by omega⟩
theorem ZrX{N:ZJ}(hN:GoodN N)(hv:VE N t):(nw t:Int)<=t.bytes:=by
 rcases hv with he|hv
 ·unfold nw;rw[if_pos ⟨he.old,he.h,he.text⟩,he.bytes];decide
 ·rw[ZR8 hv];exact (ZnB hN hv).1
theorem Zi3{L:List Blk}{b:Nat}{r:AR}(hA:HasR ⟨A,false,L⟩ la b r)(hN:r.n<=r.blk.length)(h16:r.states.length<=16384)(h6:r.n<65536)(hg:GoodN r.nodes)(hv:VE r.nodes t)(hb:t.bytes<=65536)(hn:r.n<nw t):
 S Tb XN [.ptr la (b+5) 0 0 0,t.av] ⟨A,false,L⟩=some (.tup [.nilptr,.int .i64 6],⟨A,false,L++[.arr 7 0 [t.av]]⟩):=by
 have hv:Val r.nodes t:=by
  rcases hv with he|hv
  ·unfold nw at hn;rw[if_pos ⟨he.old,he.h,he.text⟩]at hn;omega
  ·exact hv
 rw[ZR8 hv]at hn;have hcb:=(ZnB hg hv).1
 have hCk:=fun T=>ZR0 (hA.app T).rd hv hb
 have hNw:=fun st=>Zp0 hv (by omega) st
 have hSt:=fun T=>ZfT (hA.app T) hN h16 h6
 unfold AR.statsAV at hSt;refine Xv Y ?_
 have e0:(⟨A,false,L⟩:St)=⟨A,false,L++[]⟩:=by rw[lN]
 rw[e0]
 repeat'(first|refine YO Y (Z4 _) (QG _) Y Y ?_|refine Xb Y Y Y (Zo _) ?_|refine ZE ?_|refine ZD ?_|refine ZG Y ?_|refine ZB Y ?_|refine ZC ?_|refine ZWd (agg:=false) Y Y ?_|(refine cm0 Y Y Y ?_ ?_<;>intro _<;>try omega)|(refine cm0 Y Y Y ?_ ?_<;>intro _<;>try omega)|refine ZQ Y ?_|refine ZH Y ?_|refine ZA Y Y (by first|rfl|(simp only[lE,lN,lC,Ze,ZW,ZX];first|done|rfl)) (hCk _) ?_|refine ZA Y Y (by first|rfl|(simp only[lE,lN,lC,Ze,ZW,ZX];first|done|rfl)) (hNw _) ?_|refine ZA Y Y (by first|rfl|(simp only[lE,lN,lC,Ze,ZW,ZX];first|done|rfl)) (hSt _) ?_|refine ZI ?_|refine ZP ?_|refine ZO ?_|refine Zd ?_)
 all_goals try omega
 refine (J9 (.inr Y) Y Y Y Y).trans ?_;rfl
theorem Zi4{b:Nat}{r:AR}(hA:Has st la b r)(ho:AROk r)(hg:GoodN r.nodes)(hv:VE r.nodes t)(hb:t.bytes<=65536)(hn:r.n<nw t):
 S Tb XL [.ptr la (b+5) 0 0 0,t.av] st=some (.tup [Ro.zero.av,.lit [],.int .i64 6],st):=by
 refine ZBe Y (fun A hA'=>?_)
 have hS:=fun L=>Zi3 (L:=L) (hA.push hA').r ho.nb ho.n16 (by have:=ho.nn;have:=ho.n16;omega) hg hv hb hn
 repeat'(first|refine ZE ?_|refine ZD ?_|refine ZG Y ?_|refine Zw Y Y ?_|refine ZB Y ?_|refine ZC ?_|(refine cm0 Y Y Y ?_ ?_<;>intro _<;>try omega)|refine ZQ Y ?_|refine Zx Y Y Y ?_|refine Zi Y Y Y ?_|refine Zv Y Y Y Y Y Y ?_|refine ZAK Y ?_|refine ZU Y Y Y (Zo _) ?_|refine Z1 Y (Z4 _) (QG _) ?_|refine ZA Y Y (by first|rfl|(simp only[lE,lN,lC,Ze,ZW,ZX];first|done|rfl)) (hS _) ?_|refine ZP ?_|refine ZO ?_|refine Zd ?_)
 all_goals try first|contradiction|omega
 exact Zmw (ro:=.zero) (l:=[]) hA' (.inr Y) Y Y Y Y Y Y
theorem ZhX{x:B8}{l:List B8}(h:l[i]?=some x):(l.take (i+1)).flatten=(l.take i).flatten++x:=by
 rw[List.take_add_one,h];simp
theorem ZVs(l:List B8)(i:Nat):(l.take i).flatten.length<=l.flatten.length:=by
 have:=congrArg List.length (congrArg List.flatten (List.take_append_drop i l))
 rw[List.flatten_append,lL]at this;omega
theorem PI.ok{r:AR}(ho:AROk r)(hg:GoodN r.nodes)(hv:VE r.nodes t)(hb:t.bytes<=65536)(hn:nw t<=r.n){its:List It}{ρ:Nat->Ro}(h:PI t its rx ρ):
 WrB r (nw t) (wrV t r).1 (wrV t r).2.2/\(IsEmpty t/\(wrV t r).2.1=.zero\/Val r.nodes t/\WrOk r.nodes t (wrV t r).1 (wrV t r).2.1):=by
 rcases h with⟨h1,_,h2⟩|⟨⟨M,hM⟩,R,h1,h2,h3⟩
 ·have e:nw t=0:=by unfold nw;rw[if_pos ⟨h1.old,h1.h,h1.text⟩]
  rw[ZdC h1,e];exact⟨.refl ho hg,.inl ⟨h1,rfl⟩⟩
 ·rcases hv with hv|hv
  ·exact absurd hv hM.not_empty
  ·rw[Zjy hv,ZR8 hv]
   rw[ZR8 hv]at hn;obtain⟨ρ',a1,a2,a3,a4,a5⟩:=exec_ok hg hv hb r ho hg (.refl _) hn rx its R ρ h1 h2 h3;exact⟨a4,.inr ⟨hv,a5⟩⟩
theorem ZrY{b:Nat}{r:AR}(hA:Has st la b r)(ho:AROk r)(hg:GoodN r.nodes)(hv:VE r.nodes t)(hb:t.bytes<=65536)(hn:nw t<=r.n):
 WrB r (nw t) (wrV t r).1 (wrV t r).2.2/\(IsEmpty t/\(wrV t r).2.1=.zero\/Val r.nodes t/\WrOk r.nodes t (wrV t r).1 (wrV t r).2.1):=by
 obtain⟨L2,tx,ver,cs,its,F,keys,rx,ρ,hS,hB⟩:=Zjz (L:=[]) (hA.push rfl).r ho.nb ho.n16 (by have:=ho.nn;have:=ho.n16;omega) hv hb hn
 exact hB.pi.ok ho hg hv hb hn
def ZZz(N:ZJ)(r:Ro):B8:=if r.at_=0 then [] else Qd N r.h r.at_
structure Rt(N:ZJ)(r:Ro)(s:B8):Prop where
 rt:RtOk N r
 tx:ZZz N r=s
theorem RtOk.ext{N M:ZJ}(hE:Ext N M){r:Ro}(h:RtOk N r):RtOk M r:=h.imp id fun ⟨h0,x,h1,h2⟩=>⟨h0,x,hE _ _ h1,h2⟩
theorem Rt.ext{N M:ZJ}(hN:GoodN N)(hE:Ext N M){r:Ro}{s:B8}(h:Rt N r s):Rt M r s:=by
 refine⟨h.rt.ext hE,?_⟩;rw[<- h.tx];unfold ZZz
 split
 ·rfl
 ·rename_i q
  rcases h.rt with e|⟨_,x,h1,_,h2,_⟩
  ·rw[e]at q;exact absurd Y q
  ·exact ZJM hN hE _ _ x h1 h2
theorem Rt.zero(N:ZJ):Rt N .zero []:=⟨.inl rfl,rfl⟩
theorem Rt.m{N:ZJ}(hN:GoodN N){r:Ro}{s:B8}(h:Rt N r s):r.m=Yj s:=by
 obtain⟨h,rfl⟩:=h;unfold ZZz
 rcases h with rfl|⟨h0,x,h1,h2,h3,h4⟩
 ·rfl
 ·rw[if_neg h0,ZB6 hN _ _ x h1 h3,h4]
theorem Rt.wr{r:AR}(ho:AROk r){N:ZJ}{ro:Ro}(h:WrOk N t r ro):Rt r.nodes ro (t.txt N):=by
 obtain⟨y,h1,h2,h3,h4⟩:=h.live;have h0:=(ho.hnd h1).2
 refine⟨.inr ⟨h0,y,h1,h2,by rw[h3,h.rh],by rw[h4,h.rm]⟩,?_⟩
 unfold ZZz;rw[if_neg h0,h.rh,h.txt]
theorem Rt.keep{N:ZJ}{r:Ro}{s:B8}(h:Rt N r s):VE N (Yx r)/\(Yx r).txt N=s:=by
 obtain⟨h,rfl⟩:=h;unfold ZZz Yx
 rcases h with rfl|⟨h0,x,h1,h2,h3,h4⟩
 ·rw[if_pos (by rfl),if_pos (by rfl)];exact⟨.inl zero_empty,rfl⟩
 ·rw[if_neg h0,if_neg h0]
  exact⟨.inr (.kept h0 h1 h2 h3 h4 Y),by rw[Tr.keep,Tr.txt,if_neg h0];simp[Tr.txtO]⟩
theorem Rt.b{N:ZJ}(hN:GoodN N){r:Ro}{s:B8}(h:Rt N r s):(Yx r).bytes=s.length/\r.m.b=s.length:=by
 have h1:=h.keep;have h2:=h1.1.len hN;rw[h1.2]at h2
 exact⟨h2.symm,by rw[h.m hN];rfl⟩
theorem ZhY{b:Nat}{r:AR}(hA:Has st la b r)(ho:AROk r)(hg:GoodN r.nodes)(hv:VE r.nodes t)(hb:t.bytes<=65536)(hn:nw t<=r.n):
 WrB r (nw t) (wrV t r).1 (wrV t r).2.2/\Rt (wrV t r).1.nodes (wrV t r).2.1 (t.txt r.nodes):=by
 obtain⟨h1,h2⟩:=ZrY hA ho hg hv hb hn;refine⟨h1,?_⟩
 rcases h2 with⟨he,h2⟩|⟨hv,h2⟩
 ·rw[h2,he.txt];exact .zero _
 ·exact .wr h1.ok h2
theorem ZBy(A:List (Bool × List Blk))(L0 T:List Blk)(r:AR):Has ⟨A,false,L0++(arB A.length L0.length r++T)⟩ A.length L0.length r:=by
 have h:∀i b,(arB A.length L0.length r++T)[i]?=some b->vis (some b)=some b->St.get ⟨A,false,L0++(arB A.length L0.length r++T)⟩ A.length (L0.length+i)=some b:=by
  intro i b hb hv;rw[St.get_cur,Qj,hb,hv]
 exact⟨by simp[St.wr],h 0 _ Y Y,h 1 _ Y Y,h 2 _ Y Y,h 3 _ Y Y,h 4 _ Y Y,h 5 _ Y Y⟩
theorem ZOv(A:List (Bool × List Blk))(L0 T:List Blk)(r r':AR):Qg ⟨A,false,L0++(arB A.length L0.length r++T)⟩ A.length L0.length r'=⟨A,false,L0++(arB A.length L0.length r'++T)⟩:=by
 have h:∀(X:List Blk) (i:Nat) (b:Blk),St.upd ⟨A,false,L0++X⟩ A.length (L0.length+i) b=⟨A,false,L0++X.set i b⟩:=fun X i b=>by
  unfold St.upd;simp only[if_true,ZOf]
 have h0:∀(X:List Blk) (b:Blk),St.upd ⟨A,false,L0++X⟩ A.length L0.length b=⟨A,false,L0++X.set 0 b⟩:=fun X b=>h X 0 b
 simp only[Qg,arK,arB,Jh,h,h0];rfl
theorem Zqn{L:List Blk}{x:Ex}{c4 c5 j4 w4 v4:Nat}{ro:Ro}{z:Int}(hA:A=st.A++[(st.ro,st.L)])(hx:x=.norm\/x=.ret)(h4:J1 e c4=some (.ptr A.length j4 v4 0 0))(hg4:L[j4]?=some (.arr w4 v4 [ro.av]))
 (h6:J1 e c5=some (.int .i64 z)):JD false [.c c4 true 5,.s c5] (x,e,⟨A,false,L⟩)=some (.tup [ro.av,.int .i64 z],st):=by
 refine ZEB (v:=.tup [ro.av,.int .i64 z]) hA hx ?_ (L':=L) Y Y
 have h1:ZBQ ⟨A,false,L⟩ e (.c c4 true 5)=some ro.av:=by
  simp only[ZBQ,QL h4,loadP,St.get_cur,hg4,vis,ZEM,if_true,List.getElem?_cons_zero,oS];rfl
 simp only[QW,ZD9,h1,oS];simp only[ZBQ,QL h6,oS,Option.map_some,ZGI]
theorem Zj8{b:Nat}{r:AR}(hA:Has st la b r)(ho:AROk r)(hg:GoodN r.nodes)(s:B8)(hs:s.length<=65536)(hn:nw (Qx s)<=r.n):
 S Tb ZCP [.ptr la (b+5) 0 0 0,.str s] st=some (.tup [(wrV (Qx s) r).2.1.av,.int .i64 0],Qg st la b (wrV (Qx s) r).1):=by
 obtain⟨b1,b2,b3⟩:=ZAE hg hs
 refine ZBe Y (fun A hA'=>?_)
 have hB:=fun L=>ZfR hg s hs ⟨A,false,L⟩
 have hle:=hA.le
 have hW:=fun L=>ZfY (st:=⟨A,false,L⟩) (hA.push hA') ho hg b1 (by rw[b3];omega) hn
 simp only[ZAy hA' hle]at hW
 generalize (wrV (Qx s) r).1=r' at *
 generalize (wrV (Qx s) r).2.1=ro at *
 repeat'(first|refine ZE ?_|refine ZD ?_|refine ZG Y ?_|refine Zw Y Y ?_|refine ZB Y ?_|refine ZC ?_|(refine cm0 Y Y Y ?_ ?_<;>intro _<;>try omega)|refine ZH Y ?_|refine JN Y Y Y Y ?_|refine Zi Y Y Y ?_|refine ZU Y Y Y (Zo _) ?_|refine Zv Y Y Y (QQ _ _ _) (Qw _ _) Y ?_|refine ZA Y Y (by first|rfl|(simp only[lE,lN,lC,Ze,ZW,ZX];first|done|rfl)) (hB _) ?_|refine ZI ?_)
 all_goals try first|contradiction|omega
 obtain⟨A2,hA2⟩:∃A2,A2=(Qg st la b r').ps:=⟨_,rfl⟩;simp only[<- hA2]at hW
 have hAl:A.length=A2.length:=by rw[hA',hA2];simp[St.ps,ZGA]
 refine ZA Y Y (ZrN Y _) (hW _) ?_;rw[hAl]
 repeat'(first|refine JG Y Y Y Y Y Y ?_|refine ZU Y Y Y Y ?_|refine ZE ?_|refine ZD ?_|refine ZG Y ?_|refine Zw Y Y ?_|refine ZB Y ?_|refine ZC ?_|refine Zi Y Y Y ?_|refine ZP ?_|refine ZO ?_)
 exact Zqn hA2 (.inr Y) Y Y Y
end Go.Q15
