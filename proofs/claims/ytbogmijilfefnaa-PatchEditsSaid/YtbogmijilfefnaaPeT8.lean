/- A part of the proof: RH, RI, RJ, RK, M52, RL, RN, RO, RP, SA, SC, RS, RQ, RT, RU, RV, M18, PO, RW, RX, SO, RY, SPa, SPb, SPc, W9, SPd, SQa, CUa, W10, SQb, SQc, SQd, SKa, SKb, SKc, CUc, CUd, CUe, CUf, CUg, CUh, CUb, CUi, CUj, PEb, SB, RZ, SD, SE, SF, SG, SI, SJ, SK, SL, SN, SSa, SSb, SSc, SSd, SSe. No condition. -/
import Derived.Test.YtbogmijilfefnaaPeT7
set_option linter.unusedVariables false
set_option linter.unusedSimpArgs false
namespace Go.Q15
open Go Go.QAbs
set_option maxRecDepth 100000
def Ext (N M:ZJ):Prop:=∀ o x,lk N o=some x->lk M o=some x
theorem Ext.refl (N:ZJ):Ext N N:=fun _ _ h=>h
theorem Ext.trans {N M K:ZJ} (h:Ext N M) (g:Ext M K):Ext N K:=fun o x q=>g o x (h o x q)
theorem ZIJ {N M:ZJ} (hN:GoodN N) (hs:Ext N M):∀ n o x,lk N o=some x->x.h=n->Qb M n o=Qb N n o:=by
 intro n
 induction n with
 | zero=>intro o x hx hh;rw [Qb,Qb,hx,hs _ _ hx]
 | succ n ih =>
  intro o x hx hh;rw [Qb,Qb,hx,hs _ _ hx];simp only [Option.map_some,Option.getD_some];have hk:=(hN o x hx).2
  have key:∀ l:List Kid,(∀ k∈l,k∈x.ks)->(l.flatMap fun k=>Qb M n k.at_)=l.flatMap fun k=>Qb N n k.at_:=by
   intro l
   induction l with
   | nil=>intro _;rfl
   | cons k l ih2 =>
    intro h
    obtain ⟨_,y,y1,y2,_⟩:=hk k (h k (by simp))
    rw [List.flatMap_cons,List.flatMap_cons,ih k.at_ y y1 (by omega),ih2 (fun q hq=>h q (by simp [hq]))]
  exact key _ fun _ h=>h
theorem ZUF {r:AR} (ho:AROk r) (hn:0<r.n) (x:Nd):Ext r.nodes (r.add x).nodes:=fun o y h=>by
 rw [ZF7 ho hn,if_neg]
 ·exact h
 ·intro q;rw [q,ho.new hn] at h;simp at h
def ZQJ (N:ZJ) (x:Nd):Prop:=∀ k∈x.ks,∃ y,lk N k.at_=some y/\NdOk y/\y.h+1=x.h/\y.mea=k.m
theorem Zk5 {r:AR} (ho:AROk r) (hn:0<r.n) (hg:GoodN r.nodes) {x:Nd} (hx:NdOk x) (hk:ZQJ r.nodes x) (h0:∀ k∈x.ks,k.at_≠0):GoodN (r.add x).nodes:=by
 intro o y h;have hE:=ZUF ho hn x;rw [ZF7 ho hn] at h
 split at h
 ·simp only [oJ] at h
  subst h
  refine ⟨hx.copy,fun k hkk=>?_⟩
  have hkk':k∈x.ks:=hkk;obtain ⟨z,z1,z2,z3,z4⟩:=hk k hkk';exact ⟨h0 k hkk',z,hE _ _ z1,z3,z4⟩
 ·obtain ⟨h1,h2⟩:=hg o y h
  refine ⟨h1,fun k hkk=>?_⟩
  obtain ⟨g0,z,z1,z2,z3⟩:=h2 k hkk;exact ⟨g0,z,hE _ _ z1,z2,z3⟩
theorem AROk.hnd {r:AR} (h:AROk r) {o:Nat} {x:Nd} (hx:lk r.nodes o=some x):ZCD o/\o≠0:=by
 obtain ⟨s,g,h1,h2,h3,h4⟩:=h.key o x hx;obtain ⟨g',g1,g2,g3⟩:=h.gen s h2;rw [h4] at g1;simp only [oJ] at g1
 have:=h.n16
 have:=h.most
 unfold ZCD;omega
def ZND (ρ:Nat->Ro) (k h:Nat):Nat->Ro:=fun i=>if i=k then (ρ i).wr h else ρ i
inductive RunOk:List It->AR->(Nat->Ro)->AR->(Nat->Ro)->List Nat->Prop
 | nil {r ρ}:RunOk [] r ρ r ρ []
 | cons {it its r ρ r' ρ' hs} (hn:0<r.n) (hx:NdOk (Q5 ρ it.c)) (hk:ZQJ r.nodes (Q5 ρ it.c)) (h:RunOk its (r.add (Q5 ρ it.c)) (ZND ρ it.rx r.next) r' ρ' hs):RunOk (it::its) r ρ r' ρ' (r.next::hs)
theorem RunOk.append {i1 i2:List It} {r r1 r2:AR} {ρ ρ1 ρ2:Nat->Ro} {h1 h2:List Nat} (h:RunOk i1 r ρ r1 ρ1 h1) (g:RunOk i2 r1 ρ1 r2 ρ2 h2):RunOk (i1++i2) r ρ r2 ρ2 (h1++h2):=by
 induction h with
 | nil=>exact g
 | cons hn hx hk h ih=>exact .cons hn hx hk (ih g)
namespace Tr
mutual
def wr:Tr->AR->AR × Ro × List Nat
 | .mk o h m s k,r =>
  if o≠0 then (r,⟨o,h,m⟩,[])
  else if h=0 then (r.add ⟨0,s,none⟩,⟨r.next,0,Yi s⟩,[r.next])
  else ((wrO k r).1.add ⟨h,[],some (wrO k r).2.1⟩,⟨(wrO k r).1.next,h,QF ((wrO k r).2.1.map Kid.m)⟩,(wrO k r).2.2++[(wrO k r).1.next])
def wrO:Option (List Tr)->AR->AR × List Kid × List Nat
 | none,r=>(r,[],[])
 | some l,r=>wrL l r
def wrL:List Tr->AR->AR × List Kid × List Nat
 | [],r=>(r,[],[])
 | t::l,r=>((wrL l (t.wr r).1).1,(t.wr r).2.1.kid::(wrL l (t.wr r).1).2.1,(t.wr r).2.2++(wrL l (t.wr r).1).2.2)
end
end Tr
structure WrB (r:AR) (c:Nat) (r':AR) (hs:List Nat):Prop where
 ok:AROk r'
 good:GoodN r'.nodes
 ext:Ext r.nodes r'.nodes
 n:r'.n+c=r.n
 len:hs.length=c
 new:∀ h∈hs,lk r.nodes h=none
 all:∀ h x,lk r'.nodes h=some x->lk r.nodes h=some x\/h∈hs
 has:∀ h∈hs,∃ x,lk r'.nodes h=some x
 nodup:hs.Nodup
 frees:r'.frees=r.frees
 stale:r'.stale=r.stale
 slots:r'.slots=r.slots
 allocs:r'.allocs=r.allocs+c
 nl:r'.nodes.length=r.nodes.length+c
theorem WrB.refl {r:AR} (ho:AROk r) (hg:GoodN r.nodes):WrB r 0 r [] :=
 ⟨ho,hg,.refl _,by simp,rfl,fun h q=>by simp at q,fun h x q=>.inl q,fun h q=>by simp at q,by simp,rfl,rfl,rfl,by simp,by simp⟩
theorem WrB.trans {r r1 r2:AR} {c d:Nat} {h1 h2:List Nat} (h:WrB r c r1 h1) (g:WrB r1 d r2 h2):WrB r (c+d) r2 (h1++h2):=by
 refine ⟨g.ok,g.good,h.ext.trans g.ext,by have:=h.n;have:=g.n;omega,by rw [lL,h.len,g.len],fun o ho=>?_,fun o x ho=>?_,fun o ho=>?_,?_,g.frees.trans h.frees,g.stale.trans h.stale,g.slots.trans h.slots,by rw [g.allocs,h.allocs];omega,by rw [g.nl,h.nl];omega⟩
 ·rcases List.mem_append.1 ho with q|q
  ·exact h.new o q
  ·cases hk:lk r.nodes o with
   | none=>rfl
   | some x=>have:=g.new o q;rw [h.ext _ _ hk] at this;simp at this
 ·rcases g.all o x ho with q|q
  ·rcases h.all o x q with w|w
   ·exact .inl w
   ·exact .inr (by simp [w])
  ·exact .inr (by simp [q])
 ·rcases List.mem_append.1 ho with q|q
  ·obtain ⟨x,hx⟩:=h.has o q
   exact ⟨x,g.ext _ _ hx⟩
  ·exact g.has o q
 ·rw [List.nodup_append]
  refine ⟨h.nodup,g.nodup,fun x hx y hy e=>?_⟩
  subst e;obtain ⟨z,hz⟩:=h.has x hx;rw [g.new x hy] at hz
  simp at hz
theorem WrB.one {r:AR} (ho:AROk r) (hn:0<r.n) (hg:GoodN r.nodes) {x:Nd} (hx:NdOk x) (hk:ZQJ r.nodes x) (h0:∀ k∈x.ks,k.at_≠0):WrB r 1 (r.add x) [r.next]:=by
 refine ⟨ho.add hn x,Zk5 ho hn hg hx hk h0,ZUF ho hn x,?_,rfl,fun o q=>?_,fun o y q=>?_,fun o q=>?_,by simp,rfl,rfl,rfl,rfl,by simp [AR.add,AR.alloc]⟩
 ·show r.n-1+1=r.n;omega
 ·simp only [List.mem_singleton] at q;subst q;exact ho.new hn
 ·rw [ZF7 ho hn] at q
  split at q
  ·rename_i e;exact .inr (by simp [e])
  ·exact .inl q
 ·simp only [List.mem_singleton] at q
  exact ⟨x.copy,by rw [ZF7 ho hn,if_pos q]⟩
end Go.Q15
namespace Go.Q15
open Go Go.QAbs
set_option maxRecDepth 100000
structure WrOk (N:ZJ) (t:Tr) (r':AR) (ro:Ro):Prop where
 rm:ro.m=t.mea
 rh:ro.h=t.h
 live:∃ y,lk r'.nodes ro.at_=some y/\NdOk y/\y.h=t.h/\y.mea=t.mea
 txt:Qb r'.nodes t.h ro.at_=t.txt N
def Exec (N:ZJ) (t:Tr):Prop:=∀ (r:AR),AROk r->GoodN r.nodes->Ext N r.nodes->t.cnt<=r.n->∀ (rx:Nat) (its:List It) (R:List (Nat × Ro)) (ρ:Nat->Ro),AddT t rx its R->(∀ p∈R,ρ p.1=p.2)->(R.map Prod.fst).Nodup ->
 ∃ ρ',RunOk its r ρ (t.wr r).1 ρ' (t.wr r).2.2/\ρ' rx=(t.wr r).2.1/\(∀ k,k∉R.map Prod.fst->ρ' k=ρ k)/\WrB r t.cnt (t.wr r).1 (t.wr r).2.2/\WrOk N t (t.wr r).1 (t.wr r).2.1
structure WrLs (N:ZJ) (l:List Tr) (h:Nat) (r':AR) (ks:List Kid):Prop where
 len:ks.length=l.length
 m:ks.map Kid.m=l.map Tr.mea
 ok:∀ k∈ks,KidOk h k/\k.at_≠0/\∃ y,lk r'.nodes k.at_=some y/\NdOk y/\y.h=h/\y.mea=k.m
 txt:(ks.flatMap fun k=>Qb r'.nodes h k.at_)=Tr.txtL N l
theorem Zo4 {N:ZJ} (hN:GoodN N) {h:Nat}:∀ (l:List Tr),(∀ u∈l,Val N u/\u.h=h/\Big u)->(∀ u∈l,Exec N u)->∀ (r:AR),AROk r->GoodN r.nodes->Ext N r.nodes->Tr.cntL l<=r.n->∀ (rs:List Nat) (its:List It) (R:List (Nat × Ro)) (ρ:Nat->Ro),AddL l rs its R->(∀ p∈R,ρ p.1=p.2)->(R.map Prod.fst).Nodup ->
 ∃ ρ',RunOk its r ρ (Tr.wrL l r).1 ρ' (Tr.wrL l r).2.2/\(rs.map fun k=>(ρ' k).kid)=(Tr.wrL l r).2.1/\(∀ k,k∉R.map Prod.fst->ρ' k=ρ k)/\WrB r (Tr.cntL l) (Tr.wrL l r).1 (Tr.wrL l r).2.2/\WrLs N l h (Tr.wrL l r).1 (Tr.wrL l r).2.1:=by
 intro l
 induction l with
 | nil =>
  intro _ _ r ho hg hE hc rs its R ρ ha hR hnd
  cases ha
  exact ⟨ρ,.nil,rfl,fun _ _=>rfl,.refl ho hg,⟨rfl,rfl,fun k hk=>by simp [Tr.wrL] at hk,rfl⟩⟩
 | cons t l ih =>
  intro hv hx r ho hg hE hc rs its R ρ ha hR hnd
  cases ha with
  | @cons _ _ rx rs i1 i2 R1 R2 ht hl =>
   rw [Tr.cntL] at hc;rw [List.map_append,List.nodup_append] at hnd;obtain ⟨nd1,nd2,nd3⟩:=hnd
   obtain ⟨ρ1,a1,a2,a3,a4,a5⟩:=hx t (by simp) r ho hg hE (by omega) rx i1 R1 ρ ht (fun p hp=>hR p (by simp [hp])) nd1
   have hn1:=a4.n
   have hd:∀ p∈R2,p.1∉R1.map Prod.fst:=fun p hp q=>nd3 _ q _ (List.mem_map.2 ⟨p,hp,rfl⟩) rfl
   obtain ⟨ρ2,b1,b2,b3,b4,b5⟩:=ih (fun u hu=>hv u (by simp [hu])) (fun u hu=>hx u (by simp [hu])) _ a4.ok a4.good (hE.trans a4.ext) (by omega) rs i2 R2 ρ1 hl (fun p hp=>by rw [a3 _ (hd p hp)];exact hR p (by simp [hp])) nd2
   obtain ⟨rr,hrr,_,_⟩:=ht.root
   have hrx:rx∉R2.map Prod.fst:=fun q=>nd3 rx (List.mem_map.2 ⟨_,hrr,rfl⟩) rx q rfl
   obtain ⟨v1,v2,v3⟩:=hv t (by simp)
   refine ⟨ρ2,a1.append b1,?_,?_,?_,?_⟩
   ·rw [jC,b3 rx hrx,a2,b2];rfl
   ·intro k hk
    rw [List.map_append,List.mem_append,not_or] at hk;rw [b3 k hk.2,a3 k hk.1]
   ·rw [Tr.cntL];exact a4.trans b4
   ·obtain ⟨y,y1,y2,y3,y4⟩:=a5.live
    have hh:=a4.ok.hnd y1;have hkm:((t.wr r).2.1.kid).m=t.mea:=a5.rm;have hka:((t.wr r).2.1.kid).at_=(t.wr r).2.1.at_:=rfl
    refine ⟨by show _+1=_;rw [b5.len];rfl,?_,?_,?_⟩
    ·show ((t.wr r).2.1.kid).m::_=_
     rw [hkm,b5.m];rfl
    ·intro k hk
     rcases List.mem_cons.1 hk with rfl|q
     ·refine ⟨?_,hh.2,y,b4.ext _ _ y1,y2,by rw [y3,v2],by rw [y4];exact hkm.symm⟩
      have hs:=v1.size hN v3;have hb:=v1.mea_ok.1
      have:=y2.kid (a:=(t.wr r).2.1.at_) (by rw [y3,y4,hb];exact hs) hh.1
      rw [y3,v2,y4,<- a5.rm] at this;exact this
     ·exact b5.ok k q
    ·show Qb (Tr.wrL l (t.wr r).1).1.nodes h (t.wr r).2.1.at_++((Tr.wrL l (t.wr r).1).2.1.flatMap fun k=>Qb (Tr.wrL l (t.wr r).1).1.nodes h k.at_)=_
     rw [b5.txt,Tr.txtL,<- a5.txt,v2]
     congr 1
     exact ZIJ a4.good b4.ext h _ y y1 (by rw [y3,v2])
theorem exec_ok {N:ZJ} (hN:GoodN N) {t:Tr} (hv:Val N t):t.bytes<=65536->Exec N t:=by
 induction hv with
 | @kept o h m k x h0 hx hok hh hm hk =>
  intro _ r ho hg hE hc rx its R ρ ha hR hnd
  have e:(Tr.mk o h m [] k).wr r=(r,⟨o,h,m⟩,[]):=by rw [Tr.wr,if_pos h0]
  have ec:(Tr.mk o h m [] k).cnt=0:=by rw [Tr.cnt,Tr.cntO_getD,hk,if_neg h0];rfl
  rw [e,ec]
  cases ha with
  | kept _ =>
   refine ⟨ρ,.nil,hR (rx,⟨o,h,m⟩) (by simp),fun _ _=>rfl,.refl ho hg,⟨(ZNC h0).symm,rfl,⟨x,hE _ _ hx,hok,hh,by rw [ZNC h0];exact hm⟩,?_⟩⟩
   show Qb r.nodes h o=_
   rw [ZIJ hN hE h o x hx hh,Tr.txt,if_neg h0,Tr.txtO_getD,hk]
   simp [Tr.txtL]
  | leaf=>exact absurd rfl h0
  | inner=>exact absurd rfl h0
 | @leaf s k h1 h2 hk =>
  intro _ r ho hg hE hc rx its R ρ ha hR hnd
  have e:(Tr.mk 0 0 .zero s k).wr r=(r.add ⟨0,s,none⟩,⟨r.next,0,Yi s⟩,[r.next]):=by rw [Tr.wr];simp
  have ec:(Tr.mk 0 0 .zero s k).cnt=1:=by rw [Tr.cnt,Tr.cntO_getD,hk];rfl
  rw [ec] at hc;rw [e,ec];have hx:NdOk ⟨0,s,none⟩:=.inl ⟨rfl,h1,h2,rfl⟩
  cases ha with
  | kept h0=>exact absurd rfl h0
  | leaf =>
   have hρ:ρ rx=⟨0,0,Yi s⟩:=hR (rx,⟨0,0,Yi s⟩) (by simp)
   refine ⟨ZND ρ rx r.next,.cons (by omega) hx (fun k hk=>by simp [Q5,Nd.ks] at hk) .nil,?_,fun k hk=>?_,.one ho (by omega) hg hx (fun k hk=>by simp [Nd.ks] at hk) (fun k hk=>by simp [Nd.ks] at hk),⟨(ZNB s k).symm,rfl,⟨(⟨0,s,none⟩:Nd).copy,?_,hx.copy,rfl,?_⟩,?_⟩⟩
   ·simp only [ZND,if_true,hρ];rfl
   ·simp only [jC,List.map_nil,List.mem_singleton] at hk
    simp only [ZND,if_neg hk]
   ·rw [ZF7 ho (by omega),if_pos rfl]
   ·rw [ZNB];rfl
   ·show Qb _ 0 r.next=_
    rw [Qb,ZF7 ho (by omega),if_pos rfl,Tr.txt,if_pos rfl,Tr.txtO_getD,hk]
    simp [Tr.txtL,Nd.copy]
 | @inner h l hh h2 h4 hl hb hv ih =>
  intro hb2 r ho hg hE hc rx its R ρ ha hR hnd
  have eb:(Tr.mk 0 (h+1) .zero [] (some l)).bytes=Tr.bytesL l:=by rw [Tr.bytes,Tr.bytesO];simp [Mea.zero]
  have hbs:∀ u∈l,u.bytes<=65536:=fun u hu=>by
   obtain ⟨i,hi,rfl⟩:=List.getElem_of_mem hu
   have h3:Tr.bytesL l=Tr.bytesL (l.take i)+(l[i].bytes+Tr.bytesL (l.drop (i+1))):=by
    conv=>lhs;rw [<- List.take_append_drop (i+1) l,Zg (jE hi),Tr.bytesL_append,Tr.bytesL_append]
    simp [Tr.bytesL];omega
   have n1:=Tr.bytesL_nonneg (l:=l.take i) (fun t ht=>by have:=(hv t (List.mem_of_mem_take ht)).pos.2;omega)
   have n2:=Tr.bytesL_nonneg (l:=l.drop (i+1)) (fun t ht=>by have:=(hv t (List.mem_of_mem_drop ht)).pos.2;omega)
   omega
  have ec:(Tr.mk 0 (h+1) .zero [] (some l)).cnt=Tr.cntL l+1:=by rw [Tr.cnt,Tr.cntO];simp;omega
  rw [ec] at hc
  have hbl:(QF (l.map Tr.mea)).b=Tr.bytesL l:=Zg5 l fun u hu=>(hv u hu).mea_ok.1
  have e:(Tr.mk 0 (h+1) .zero [] (some l)).wr r=((Tr.wrL l r).1.add ⟨h+1,[],some (Tr.wrL l r).2.1⟩,⟨(Tr.wrL l r).1.next,h+1,QF ((Tr.wrL l r).2.1.map Kid.m)⟩,(Tr.wrL l r).2.2++[(Tr.wrL l r).1.next]):=by
   rw [Tr.wr];simp [Tr.wrO]
  rw [e,ec]
  cases ha with
  | kept h0=>exact absurd rfl h0
  | @inner _ _ _ rs i1 R1 hal hn1 hx1 =>
   obtain ⟨ρ1,a1,a2,a3,a4,a5⟩:=Zo4 hN l (fun u hu=>⟨hv u hu,hl u hu,fun q=>hb u hu (by rw [<- hl u hu];exact q)⟩) (fun u hu=>ih u hu (hbs u hu)) r ho hg hE (by omega) rs i1 R1 ρ hal (fun p hp=>hR p (by simp [hp])) hn1
   have hρ:ρ1 rx=⟨0,h+1,QF (l.map Tr.mea)⟩:=by rw [a3 rx hx1];exact hR (rx,⟨0,h+1,QF (l.map Tr.mea)⟩) (by simp)
   have hn:0<(Tr.wrL l r).1.n:=by have:=a4.n;omega
   generalize hks:(Tr.wrL l r).2.1=ks at *
   generalize (Tr.wrL l r).1=r1 at *
   have hx:NdOk ⟨h+1,[],some ks⟩:=.inr ⟨h,ks,rfl,by omega,by have:=a5.len;omega,by have:=a5.len;omega,fun k hk=>(a5.ok k hk).1,by rw [a5.m,hbl];omega⟩
   have hki:ZQJ r1.nodes ⟨h+1,[],some ks⟩:=fun k hk=>by
    obtain ⟨_,_,y,y1,y2,y3,y4⟩:=a5.ok k hk
    exact ⟨y,y1,y2,by show y.h+1=h+1;omega,y4⟩
   have hnd2:Q5 ρ1 (.inn (h+1) rs)=⟨h+1,[],some ks⟩:=by rw [Q5,a2]
   have hrun:RunOk [⟨rx,.inn (h+1) rs⟩] r1 ρ1 (r1.add ⟨h+1,[],some ks⟩) (ZND ρ1 rx r1.next) [r1.next]:=by
    have:=RunOk.cons (it:=⟨rx,.inn (h+1) rs⟩) (ρ:=ρ1) hn (by rw [hnd2];exact hx) (by rw [hnd2];exact hki) .nil
    rw [hnd2] at this;exact this
   refine ⟨ZND ρ1 rx r1.next,a1.append hrun,?_,fun k hk=>?_,a4.trans (.one a4.ok hn a4.good hx hki (fun k hk=>(a5.ok k hk).2.1)),⟨?_,rfl,⟨(⟨h+1,[],some ks⟩:Nd).copy,?_,hx.copy,rfl,?_⟩,?_⟩⟩
   ·simp only [ZND,if_true,hρ,Ro.wr,a5.m]
   ·rw [List.map_append,List.mem_append,not_or] at hk
    have:k≠rx:=fun q=>hk.2 (by simp [q])
    simp only [ZND,if_neg this];exact a3 k hk.1
   ·rw [Zdn]
    show QF (ks.map Kid.m)=_
    rw [a5.m]
   ·rw [ZF7 a4.ok hn,if_pos rfl]
   ·rw [Zdn,<- a5.m];rfl
   ·show Qb _ (h+1) r1.next=_
    rw [Qb,ZF7 a4.ok hn,if_pos rfl,Tr.txt,if_pos rfl,Tr.txtO,<- a5.txt]
    show (ks.flatMap fun k=>Qb (r1.add _).nodes h k.at_)=_
    have key:∀ m:List Kid,(∀ k∈m,k∈ks)->(m.flatMap fun k=>Qb (r1.add ⟨h+1,[],some ks⟩).nodes h k.at_)=m.flatMap fun k=>Qb r1.nodes h k.at_:=by
     intro m
     induction m with
     | nil=>intro _;rfl
     | cons k m ih2 =>
      intro q
      obtain ⟨_,_,y,y1,y2,y3,y4⟩:=a5.ok k (q k (by simp))
      rw [List.flatMap_cons,List.flatMap_cons,ZIJ a4.good (ZUF a4.ok hn _) h k.at_ y y1 y3,ih2 (fun w hw=>q w (by simp [hw]))]
    exact key ks fun _ h=>h
set_option maxHeartbeats 8000000
theorem ClsOk.get {n ip:Nat} {F:List (Nat × Blk)} {cs:List AV} {is:List It} (h:ClsOk n ip F cs is):∀ {j:Nat} {it:It},is[j]?=some it->∃ c,cs[j]?=some c/\ClOk n ip F c it:=by
 induction h with
 | nil=>intro j it hj;simp at hj
 | cons hc ht ih =>
  intro j it hj
  cases j with
  | zero =>
   simp only [List.getElem?_cons_zero,oJ] at hj;subst hj;exact ⟨_,rfl,hc⟩
  | succ j=>exact ih hj
def TdOk (st:St) (n tx ver j:Nat) (cls:List AV) (td:AV):Prop:=(cls=[]/\td=.nils)\/(cls≠[]/\td=.ref n tx ver j (cls.length-j)/\st.get n tx=some (.arr 1 ver cls))
structure PenS (st:St) (n ip tx ver la b:Nat) (cls:List AV) (its:List It) (F:List (Nat × Blk)) (keys:List Nat) (rx:Nat) (ρ:Nat->Ro) (j:Nat):Prop where
 wr:st.wr n
 pen:∃ td,st.get n ip=some (.arr 3 0 [.agg [.ptr la (b+5) 0 0 0,td,.ptr n rx 0 0 0]])/\TdOk st n tx ver j cls td
 cl:ClsOk n ip F cls its
 fx:∀ p∈F,st.get n p.1=some p.2
 rts:∀ k∈keys,st.get n k=some (.arr 5 0 [(ρ k).av])
 key:∀ it∈its,it.rx∈keys/\∀ k∈Zg6 it.c,k∈keys
 rk:rx∈keys
 s1:∀ k∈keys,k≠ip/\k≠tx
 s2:tx≠ip
 s3:∀ p∈F,p.1∉keys/\p.1≠ip/\p.1≠tx
 ar:∀ i,i=ip\/(cls≠[]/\i=tx)\/i∈keys\/(∃ p∈F,i=p.1)->¬ (n=la/\b<=i/\i<=b+5)
 len:cls.length<1000000
 jl:j<=cls.length
theorem ZoK {st:St} {n ip tx ver la b:Nat} {cls:List AV} {its:List It} {F:List (Nat × Blk)} {keys:List Nat} {rx:Nat} {ρ:Nat->Ro} {j:Nat} (h:PenS st n ip tx ver la b cls its F keys rx ρ j) (hj:j=cls.length):S Tb ZBi [.ptr n ip 0 0 0] st=some (.tup [(ρ rx).av,.int .i64 0],st):=by
 obtain ⟨td,h1,h2⟩:=h.pen;have h3:=h.rts rx h.rk
 refine QJ rfl (fun A hA=>?_)
 have g1:=fun L=>ZU hA (ro:=false) (L:=L) h1
 have g3:=fun L=>ZU hA (ro:=false) (L:=L) h3
 unfold Ro.av at g3 ⊢
 rcases h2 with ⟨_,rfl⟩|⟨_,rfl,_⟩
 all_goals repeat' (first|refine ZE ?_|refine ZD ?_|refine ZF rfl ?_|refine ZQ rfl rfl ?_|refine ZA rfl ?_|refine ZC ?_|refine Zz rfl rfl ?_|refine YB rfl ?_|refine YA rfl ?_|(refine QR rfl rfl (fun _=>?_) (fun _=>?_)<;>try (exfalso;omega))|refine ZH rfl ?_|refine JA rfl rfl rfl rfl ?_|refine Za rfl rfl rfl ?_|refine Zl rfl rfl rfl rfl rfl rfl ?_|refine Z9 rfl (g1 _) rfl rfl ?_|refine Z9 rfl (g3 _) rfl rfl ?_|refine ZI ?_|refine ZS ?_|refine ZO ?_)
 all_goals try (exfalso;omega)
 all_goals refine XR hA (by first|exact .inl rfl|exact .inr rfl) rfl rfl rfl rfl rfl ?_
 all_goals rfl
def ZF8 (st:St) (n ip tx ver la b:Nat) (len:Nat) (rx:Nat) (r':AR) (k:Nat) (ro:Ro) (j:Nat):St :=
 ((QP st la b r').upd n k (.arr 5 0 [ro.av])).upd n ip (.arr 3 0 [.agg [.ptr la (b+5) 0 0 0,.ref n tx ver (j+1) (len-j-1),.ptr n rx 0 0 0]])
theorem PenS.step {st:St} {n ip tx ver la b:Nat} {cls:List AV} {its:List It} {F:List (Nat × Blk)} {keys:List Nat} {rx:Nat} {ρ:Nat->Ro} {j:Nat} (h:PenS st n ip tx ver la b cls its F keys rx ρ j) {r:AR} (hA:Has st la b r) (ho:AROk r) (hn:0<r.n) {it:It} (hj:its[j]?=some it)
 (hx:NdOk (Q5 ρ it.c)) (hk:ZQJ r.nodes (Q5 ρ it.c)) :
 S Tb X6 [.ptr n ip 0 0 0] st=some (.tup [.int .u64 r.next,.bool (decide (cls.length=j+1)),.int .i64 0],ZF8 st n ip tx ver la b cls.length rx (r.add (Q5 ρ it.c)) it.rx ((ρ it.rx).wr r.next) j) /\
 PenS (ZF8 st n ip tx ver la b cls.length rx (r.add (Q5 ρ it.c)) it.rx ((ρ it.rx).wr r.next) j) n ip tx ver la b cls its F keys rx (ZND ρ it.rx r.next) (j+1) /\
 Has (ZF8 st n ip tx ver la b cls.length rx (r.add (Q5 ρ it.c)) it.rx ((ρ it.rx).wr r.next) j) la b (r.add (Q5 ρ it.c)):=by
 obtain ⟨td,h1,h2⟩:=h.pen;obtain ⟨cl,c1,c2⟩:=h.cl.get hj;have hjl:=(List.getElem?_eq_some_iff.1 c1).1;have hm:=jM hj;obtain ⟨k1,k2⟩:=h.key it hm;have hrx:=h.rts it.rx k1;have hrp:=h.s1 it.rx k1
 have hne:cls≠[]:=fun q=>by rw [q] at c1;simp at c1
 rcases h2 with ⟨q,_⟩|⟨_,rfl,h3⟩
 ·exact absurd q hne
 have hS:=ZoJ (it:=it) (ρ:=ρ) (b0:=0) (b1:=0) (b2:=0) (cv:=.nils) h3 c1 c2 h.len h1 h.fx (fun k hk=>h.rts k (k2 k hk)) hrx hA ho hn hx hk h.wr (fun i hi=>h.ar i (by
  rcases hi with rfl|rfl|rfl|q
  ·exact .inr (.inr (.inl k1))
  ·exact .inl rfl
  ·exact .inr (.inl ⟨hne,rfl⟩)
  ·exact .inr (.inr (.inr q)))) ⟨hrp.1,hrp.2,h.s2⟩
 have a1:∀ i,¬ (n=la/\b<=i/\i<=b+5)->(QP st la b (r.add (Q5 ρ it.c))).get n i=st.get n i:=fun i hi=>hA.out _ hi
 have g1:∀ l' i',((QP st la b (r.add (Q5 ρ it.c))).upd n it.rx (.arr 5 0 [((ρ it.rx).wr r.next).av])).get l' i'=if l'=n/\i'=it.rx then some (.arr 5 0 [((ρ it.rx).wr r.next).av]) else (QP st la b (r.add (Q5 ρ it.c))).get l' i' :=
  fun l' i'=>St.get_upd ((a1 _ (h.ar _ (.inr (.inr (.inl k1))))).trans hrx) rfl
 have hp0:((QP st la b (r.add (Q5 ρ it.c))).upd n it.rx (.arr 5 0 [((ρ it.rx).wr r.next).av])).get n ip=_:=(g1 n ip).trans ((if_neg (fun q=>hrp.1 q.2.symm)).trans ((a1 _ (h.ar _ (.inl rfl))).trans h1))
 have g2:∀ l' i',(ZF8 st n ip tx ver la b cls.length rx (r.add (Q5 ρ it.c)) it.rx ((ρ it.rx).wr r.next) j).get l' i'=if l'=n/\i'=ip then some (.arr 3 0 [.agg [.ptr la (b+5) 0 0 0,.ref n tx ver (j+1) (cls.length-j-1),.ptr n rx 0 0 0]]) else if l'=n/\i'=it.rx then some (.arr 5 0 [((ρ it.rx).wr r.next).av]) else (QP st la b (r.add (Q5 ρ it.c))).get l' i':=fun l' i'=>by
  rw [ZF8,St.get_upd hp0 rfl,g1]
 have hw1:(QP st la b (r.add (Q5 ρ it.c))).wr n:=ZM0 hA.cl.wr h.wr;have hwl:(QP st la b (r.add (Q5 ρ it.c))).wr la:=(hA.put _).wr
 have hw2:∀ {l:Nat},(QP st la b (r.add (Q5 ρ it.c))).wr l->(ZF8 st n ip tx ver la b cls.length rx (r.add (Q5 ρ it.c)) it.rx ((ρ it.rx).wr r.next) j).wr l:=fun w=>St.wr_upd (St.wr_upd hw1 hw1) (St.wr_upd hw1 w)
 refine ⟨hS,⟨hw2 hw1,⟨_,by rw [g2,if_pos ⟨rfl,rfl⟩,Nat.sub_sub],.inr ⟨hne,rfl,?_⟩⟩,h.cl,fun p hp=>?_,fun k hk=>?_,h.key,h.rk,h.s1,h.s2,h.s3,h.ar,h.len,hjl⟩,?_⟩
 ·rw [g2,if_neg (fun q=>h.s2 q.2),if_neg (fun q=>hrp.2 q.2.symm),a1 _ (h.ar _ (.inr (.inl ⟨hne,rfl⟩)))];exact h3
 ·obtain ⟨q1,q2,q3⟩:=h.s3 p hp
  rw [g2,if_neg (fun q=>q2 q.2),if_neg (fun q=>q1 (by rw [q.2];exact k1)),a1 _ (h.ar _ (.inr (.inr (.inr ⟨p,hp,rfl⟩))))];exact h.fx p hp
 ·obtain ⟨q1,q2⟩:=h.s1 k hk
  rw [g2,if_neg (fun q=>q1 q.2)]
  unfold ZND
  by_cases e:k=it.rx
  ·subst e;rw [if_pos ⟨rfl,rfl⟩,if_pos rfl]
  ·rw [if_neg (fun q=>e q.2),if_neg e,a1 _ (h.ar _ (.inr (.inr (.inl hk))))];exact h.rts k hk
 ·have hP:=hA.put (r.add (Q5 ρ it.c))
  have n1:∀ i,b<=i->i<=b+5->¬ (la=n/\i=ip)/\¬ (la=n/\i=it.rx):=fun i i1 i2=>⟨fun q=>h.ar ip (.inl rfl) ⟨q.1.symm,by omega,by omega⟩,fun q=>h.ar it.rx (.inr (.inr (.inl k1))) ⟨q.1.symm,by omega,by omega⟩⟩
  have gg:∀ i,b<=i->i<=b+5->(ZF8 st n ip tx ver la b cls.length rx (r.add (Q5 ρ it.c)) it.rx ((ρ it.rx).wr r.next) j).get la i=(QP st la b (r.add (Q5 ρ it.c))).get la i:=fun i i1 i2=>by
   rw [g2,if_neg (n1 i i1 i2).1,if_neg (n1 i i1 i2).2]
  exact ⟨hw2 hwl,(gg _ (by omega) (by omega)).trans hP.h0,(gg _ (by omega) (by omega)).trans hP.h1,(gg _ (by omega) (by omega)).trans hP.h2,(gg _ (by omega) (by omega)).trans hP.h3,(gg _ (by omega) (by omega)).trans hP.h4,(gg _ (by omega) (by omega)).trans hP.h5⟩
theorem ZE5 {A:List (Bool × List Blk)} {ro:Bool} {L:List Blk} {lv ix:Nat} {b:Blk} (T:List Blk) (h:St.get ⟨A,ro,L⟩ lv ix=some b):St.get ⟨A,ro,L++T⟩ lv ix=some b:=by
 unfold St.get at h ⊢
 simp only at h ⊢
 split
 ·rename_i q
  rw [if_pos q] at h;have h2:=(ZBN h).1;rw [jL (List.getElem?_eq_some_iff.1 h2).1];exact h
 ·rename_i q
  rw [if_neg q] at h;exact h
theorem HasR.app {A:List (Bool × List Blk)} {ro:Bool} {L:List Blk} {la b:Nat} {r:AR} (h:HasR ⟨A,ro,L⟩ la b r) (T:List Blk):HasR ⟨A,ro,L++T⟩ la b r :=
 ⟨ZE5 T h.h0,ZE5 T h.h1,ZE5 T h.h2,ZE5 T h.h3,ZE5 T h.h4,ZE5 T h.h5⟩
mutual
theorem AddT.keys:∀ {t:Tr} {rx:Nat} {its:List It} {R:List (Nat × Ro)},AddT t rx its R->rx∈R.map Prod.fst/\∀ it∈its,it.rx∈R.map Prod.fst/\∀ k∈Zg6 it.c,k∈R.map Prod.fst
 | _,_,_,_,.kept h0=>⟨by simp,fun it h=>by simp at h⟩
 | _,_,_,_,.leaf=>⟨by simp,fun it h=>by simp only [List.mem_singleton] at h;subst h;exact ⟨by simp,fun k hk=>by simp [Zg6] at hk⟩⟩
 | _,_,_,_,.inner hl hn hx=>by
  obtain ⟨h1,h2⟩:=AddL.keys hl
  refine ⟨by simp,fun it h=>?_⟩
  rcases List.mem_append.1 h with q|q
  ·obtain ⟨a1,a2⟩:=h2 it q
   exact ⟨by rw [List.map_append];exact List.mem_append_left _ a1,fun k hk=>by rw [List.map_append];exact List.mem_append_left _ (a2 k hk)⟩
  ·simp only [List.mem_singleton] at q
   subst q
   exact ⟨by simp,fun k hk=>by rw [List.map_append];exact List.mem_append_left _ (h1 k hk)⟩
theorem AddL.keys:∀ {l:List Tr} {rs:List Nat} {its:List It} {R:List (Nat × Ro)},AddL l rs its R->(∀ r∈rs,r∈R.map Prod.fst)/\∀ it∈its,it.rx∈R.map Prod.fst/\∀ k∈Zg6 it.c,k∈R.map Prod.fst
 | _,_,_,_,.nil=>⟨fun r h=>by simp at h,fun it h=>by simp at h⟩
 | _,_,_,_,.cons ht hl=>by
  obtain ⟨a1,a2⟩:=ht.keys;obtain ⟨b1,b2⟩:=hl.keys
  refine ⟨fun r h=>?_,fun it h=>?_⟩
  ·rw [List.map_append]
   rcases List.mem_cons.1 h with rfl|q
   ·exact List.mem_append_left _ a1
   ·exact List.mem_append_right _ (b1 r q)
  ·rw [List.map_append]
   rcases List.mem_append.1 h with q|q
   ·exact ⟨List.mem_append_left _ (a2 it q).1,fun k hk=>List.mem_append_left _ ((a2 it q).2 k hk)⟩
   ·exact ⟨List.mem_append_right _ (b2 it q).1,fun k hk=>List.mem_append_right _ ((b2 it q).2 k hk)⟩
end
def ZoL (R:List (Nat × Ro)) (k:Nat):Ro:=((R.find? fun p=>p.1 == k).map Prod.snd).getD .zero
theorem Zdo:∀ {R:List (Nat × Ro)},(R.map Prod.fst).Nodup->∀ p∈R,ZoL R p.1=p.2
 | [],_,p,hp=>by simp at hp
 | q::R,hn,p,hp=>by
  rw [jC,List.nodup_cons] at hn;unfold ZoL;rw [List.find?_cons]
  rcases List.mem_cons.1 hp with rfl|w
  ·simp
  ·have:q.1≠p.1:=fun e=>hn.1 (by rw [e];exact List.mem_map.2 ⟨p,w,rfl⟩)
   rw [show (q.1 == p.1)=false by simp [this]]
   exact Zdo hn.2 p w
def PI (t:Tr) (its:List It) (rx:Nat) (ρ:Nat->Ro):Prop:=(IsEmpty t/\its=[]/\ρ rx=.zero)\/(∃ N,Val N t)/\∃ R,AddT t rx its R/\(∀ p∈R,ρ p.1=p.2)/\(R.map Prod.fst).Nodup
def nw (t:Tr):Nat:=if t.old=0/\t.h=0/\t.text=[] then 0 else t.cnt
theorem ZQK {N:ZJ} {t:Tr} (hv:Val N t):nw t=t.cnt:=by
 unfold nw
 cases hv with
 | kept h0=>rw [if_neg];simp [Tr.old,h0]
 | leaf h1=>rw [if_neg];rintro ⟨_,_,q⟩;simp only [Tr.text] at q;rw [q] at h1;simp at h1
 | inner=>rw [if_neg];simp [Tr.h]
theorem ZfZ {t:Tr} (h:IsEmpty t):nw t=0:=by
 unfold nw;rw [if_pos ⟨h.old,h.h,h.text⟩]
structure Begun (A:List (Bool × List Blk)) (L L2:List Blk) (la b:Nat) (t:Tr) (tx ver:Nat) (cs:List AV) (its:List It) (F:List (Nat × Blk)) (keys:List Nat) (rx:Nat) (ρ:Nat->Ro):Prop where
 ps:PenS ⟨A,false,L2⟩ A.length (L.length+1) tx ver la b cs its F keys rx ρ 0
 len:L.length+2<=L2.length
 old:∀ i,i<L.length->L2[i]?=L[i]?
 klo:∀ k∈keys,L.length+2<=k
 flo:∀ p∈F,L.length+2<=p.1
 tlo:cs≠[]->L.length+2<=tx
 pi:PI t its rx ρ
theorem ZjL {N:ZJ} {A:List (Bool × List Blk)} {L:List Blk} {la b:Nat} {r:AR} (hA:HasR ⟨A,false,L⟩ la b r) (hN:r.n<=r.blk.length) (h16:r.states.length<=16384) (h6:r.n<65536) {t:Tr} (hv:Val r.nodes t) (hb:t.bytes<=65536) (hn:t.cnt<=r.n) :
 ∃ L2 tx ver cs its F keys rx ρ,S Tb ZAe [.ptr la (b+5) 0 0 0,t.av] ⟨A,false,L⟩=some (.tup [.ptr A.length (L.length+1) 0 0 0,.int .i64 0],⟨A,false,L2⟩)/\Begun A L L2 la b t tx ver cs its F keys rx ρ:=by
 have hCk:=fun T=>ZbE (hA.app T).rd hv hb
 have hNw:=fun st=>Zo1 hv (by omega) st
 have hSt:=fun T=>Zh4 (hA.app T) hN h16 h6
 unfold AR.statsAV at hSt;obtain ⟨T,hT⟩:∃ T:List Blk,T=[.arr 7 0 [t.av],.arr 3 0 [.agg [.ptr la (b+5) 0 0 0,.nils,.nilptr]]]:=⟨_,rfl⟩
 have hTl:T.length=2:=by rw [hT];rfl
 have hip:(L++T)[L.length+1]?=some (.arr 3 0 [.agg [.ptr la (b+5) 0 0 0,.nils,.nilptr]]):=by rw [Q2,hT];rfl
 have hP:Pen A (L++T) (L.length+1) (.ptr la (b+5) 0 0 0) .nils []:=⟨⟨_,hip⟩,.inl ⟨rfl,rfl⟩⟩
 obtain ⟨L1,td1,rx,its,cs,R,F,hS,ha⟩:=Zo3 hv hb hP (by simp;omega)
 obtain ⟨⟨rp,p1⟩,p2⟩:=ha.pen;rw [lE] at p2;have hl1:=ha.frm.len;rw [lL,hTl] at hl1;have hlt1:L.length+1<L1.length:=(List.getElem?_eq_some_iff.1 p1).1
 have hkl:∀ k∈R.map Prod.fst,L.length+2<=k:=fun k hk=>by
  obtain ⟨p,hp,rfl⟩:=List.mem_map.1 hk
  have:=ha.rlo p hp
  rwa [lL,hTl] at this
 have hfl:∀ p∈F,L.length+2<=p.1:=fun p hp=>by
  have:=ha.flo p hp
  rwa [lL,hTl] at this
 have hg:∀ i,i≠L.length+1->∀ B,(L1.set (L.length+1) B)[i]?=L1[i]?:=fun i hi B=>jS (fun q=>hi q.symm)
 obtain ⟨q1,q2⟩:=ha.tr.keys
 have hbl:la=A.length->b+5<L.length:=fun e=>by
  have:=hA.h5
  subst e;rw [St.get_cur] at this;exact (List.getElem?_eq_some_iff.1 (ZBN this).1).1
 -- where the list lies
 obtain ⟨tx,ver,t1,t2,t3⟩:∃ tx ver,(cs=[]/\td1=.nils/\tx=L.length\/cs≠[]/\td1=.ref A.length tx ver 0 cs.length/\L1[tx]?=some (.arr 1 ver cs)/\L.length+2<=tx/\YZ (L.length+1) td1 tx)/\tx≠L.length+1/\(∀ k,L.length+2<=k->¬ YZ (L.length+1) td1 k->k≠tx):=by
  rcases p2 with ⟨e1,e2⟩|⟨tx,ver,e1,e2,e3,e4⟩
  ·exact ⟨L.length,0,.inl ⟨e2,e1,rfl⟩,by omega,fun k hk _=>by omega⟩
  ·have hX:YZ (L.length+1) td1 tx:=.inr ⟨_,_,_,_,e1⟩
   refine ⟨tx,ver,.inr ⟨e4,e1,e2,?_,hX⟩,e3,fun k hk hn q=>hn (by rw [q];exact hX)⟩
   rcases ha.frm.own tx hX with w|w
   ·rcases w with w|⟨_,_,_,_,w⟩
    ·exact absurd w e3
    ·simp at w
   ·rwa [lL,hTl] at w
 refine ⟨L1.set (L.length+1) (.arr 3 0 [.agg [.ptr la (b+5) 0 0 0,td1,.ptr A.length rx 0 0 0]]),tx,ver,cs,its,F,R.map Prod.fst,rx,ZoL R,ZBh rfl ?_,⟨⟨by simp [St.wr],⟨td1,by rw [St.get_cur,List.getElem?_set_self hlt1];rfl,?_⟩,ha.cl,?_,?_,q2,q1,?_,t2,?_,?_,?_,Nat.zero_le _⟩,by rw [List.length_set];omega,?_,hkl,hfl,fun hc=>(by
  rcases t1 with ⟨w,_⟩|⟨_,_,_,w,_⟩
  ·exact absurd w hc
  ·exact w),.inr ⟨⟨_,hv⟩,R,ha.tr,Zdo ha.nd,ha.nd⟩⟩⟩
 ·have e0:(⟨A,false,L⟩:St)=⟨A,false,L++[]⟩:=by rw [lN]
  rw [e0];rw [hT] at hS
  repeat' (first|refine ZAq rfl (Z5 _) (QI _) rfl rfl ?_|refine ZAq rfl rfl rfl rfl rfl ?_|refine ZD6 rfl rfl rfl (Zq _) ?_|refine ZE ?_|refine ZD ?_|refine ZF rfl ?_|refine ZQ rfl rfl ?_|refine ZA rfl ?_|refine ZC ?_|refine Zb8 (agg:=false) rfl rfl ?_|refine Zz rfl rfl ?_|(refine QR rfl rfl (fun _=>?_) (fun _=>?_)<;>try (exfalso;omega))|(refine Zk rfl rfl (fun _=>?_) (fun _=>?_)<;>try (exfalso;omega))|refine ZH rfl ?_|refine Zn rfl rfl rfl ?_|refine ZB rfl rfl (by first|rfl|(simp only [lE,lN,lC,ZZ,ZW,ZX];first|done|rfl)) (hCk _) ?_|refine ZB rfl rfl (by first|rfl|(simp only [lE,lN,lC,ZZ,ZW,ZX];first|done|rfl)) (hNw _) ?_|refine ZB rfl rfl (by first|rfl|(simp only [lE,lN,lC,ZZ,ZW,ZX];first|done|rfl)) (hSt _) ?_|refine ZB rfl rfl (by first|rfl|(simp only [lE,lN,lC,ZZ,ZW,ZX];first|done|rfl)) (hS) ?_|refine ZI ?_)
  all_goals try (exfalso;omega)
  refine Qo p1 rfl rfl rfl ?_ rfl ?_
  ·simp only [ZY,QD,if_pos (Nat.lt_succ_self _)]
  repeat' (first|refine ZE ?_|refine ZD ?_|refine ZF rfl ?_|refine ZA rfl ?_|refine ZC ?_|refine ZS ?_|refine ZO ?_)
  refine (Xs (.inr rfl) rfl rfl rfl rfl).trans ?_;rfl
 ·rcases t1 with ⟨e1,e2,e3⟩|⟨e0,e1,e2,e3⟩
  ·exact .inl ⟨e1,e2⟩
  ·exact .inr ⟨e0,e1,by rw [St.get_cur,hg _ t2,e2];rfl⟩
 ·intro p hp
  obtain ⟨f1,f2⟩:=ha.fx p hp;obtain ⟨w,v,es,f3,f4⟩:=ha.fw p hp
  have:p.1≠L.length+1:=fun q=>f2 (.inl q)
  rw [St.get_cur,hg _ this,f1,f3];rfl
 ·intro k hk
  obtain ⟨p,hp,rfl⟩:=List.mem_map.1 hk;obtain ⟨f1,f2⟩:=ha.rts.get hp
  have:p.1≠L.length+1:=fun q=>f2 (.inl q)
  rw [St.get_cur,hg _ this,f1,Zdo ha.nd p hp];rfl
 ·intro k hk
  have h1:=hkl k hk;obtain ⟨p,hp,rfl⟩:=List.mem_map.1 hk
  exact ⟨by omega,t3 _ h1 (ha.rts.get hp).2⟩
 ·intro p hp
  obtain ⟨f1,f2⟩:=ha.fx p hp;obtain ⟨w,v,es,f3,f4⟩:=ha.fw p hp;have h1:=hfl p hp
  refine ⟨fun q=>?_,by omega,t3 _ h1 f2⟩
  obtain ⟨u,hu,e⟩:=List.mem_map.1 q;have f5:=(ha.rts.get hu).1;rw [e,f1,f3] at f5;simp only [oJ,Blk.arr.injEq] at f5;exact f4 f5.1
 ·intro i hi ⟨e1,e2,e3⟩
  have:=hbl e1.symm
  rcases hi with rfl|⟨c1,rfl⟩|q|⟨p,hp,rfl⟩
  ·omega
  ·rcases t1 with ⟨w,_⟩|⟨_,_,_,w,_⟩
   ·exact c1 w
   ·omega
  ·have:=hkl i q;omega
  ·have:=hfl p hp;omega
 ·have h1:=ha.cl.len
  have h2:=ha.tr.cnt;omega
 ·intro i hi
  rw [hg i (by omega),ha.frm.old i (by rw [lL];omega) (fun q=>?_),jL hi]
  rcases q with q|⟨_,_,_,_,q⟩
  ·omega
  ·simp at q
theorem Zdp {A:List (Bool × List Blk)} {ro:Bool} {L:List Blk} {i:Nat} {b:Blk} (h:L[i]?=some b) (hv:vis (some b)=some b):St.get ⟨A,ro,L⟩ A.length i=some b:=by rw [St.get_cur,h,hv]
theorem ZjM {t:Tr} (ht:IsEmpty t) (st:St):S Tb ZBF [t.av] st=some (.int .i64 (0:Nat),st) :=
 ZQI (c:=1) ht.ks (fun st=>ZFz t ht st) st
theorem Zfa {A:List (Bool × List Blk)} {L:List Blk} {la b:Nat} {r:AR} (hA:HasR ⟨A,false,L⟩ la b r) (hN:r.n<=r.blk.length) (h16:r.states.length<=16384) (h6:r.n<65536) {t:Tr} (ht:IsEmpty t) :
 ∃ L2 tx ver cs its F keys rx ρ,S Tb ZAe [.ptr la (b+5) 0 0 0,t.av] ⟨A,false,L⟩=some (.tup [.ptr A.length (L.length+1) 0 0 0,.int .i64 0],⟨A,false,L2⟩)/\Begun A L L2 la b t tx ver cs its F keys rx ρ:=by
 have hCk:=fun T=>ZQv (st:=⟨A,false,L++T⟩) (lv:=la) (ix:=b+5) ht
 have hNw:=fun st=>ZjM ht st
 have hSt:=fun T=>Zh4 (hA.app T) hN h16 h6
 unfold AR.statsAV at hSt
 have hbl:la=A.length->b+5<L.length:=fun e=>by
  have:=hA.h5
  subst e;rw [St.get_cur] at this;exact (List.getElem?_eq_some_iff.1 (ZBN this).1).1
 obtain ⟨T,hT⟩:∃ T:List Blk,T=[.arr 7 0 [t.av],.arr 3 0 [.agg [.ptr la (b+5) 0 0 0,.nils,.nilptr]]]:=⟨_,rfl⟩
 have hadd:S Tb Qr [.ptr A.length (L.length+1) 0 0 0,t.av] ⟨A,false,L++T⟩=some (.ptr A.length ((L++T).length+1) 0 0 0,⟨A,false,(L++T)++[.arr 7 0 [t.av],.arr 5 0 [Ro.zero.av]]⟩):=by
  refine ZBh rfl ?_
  have e0:(⟨A,false,L++T⟩:St)=⟨A,false,(L++T)++[]⟩:=by rw [lN]
  rw [e0];generalize L++T=L0;obtain ⟨o,h,m,s,k⟩:=t;obtain ⟨h1,h2,h3,h4,h5⟩:=ht;simp only [Tr.old,Tr.h,Tr.m,Tr.text,Tr.ks] at h1 h2 h3 h4 h5;subst h1 h2 h3 h4
  obtain ⟨ka,hka,hka2⟩:∃ ka,Tr.avO k=ka/\(ka=.nils\/ka=.lit []):=by
   cases k with
   | none=>exact ⟨_,rfl,.inl rfl⟩
   | some l=>have:l=[]:=h5;subst this;exact ⟨_,rfl,.inr rfl⟩
  simp only [Tr.av,Mea.zero,hka] at *
  rcases hka2 with rfl|rfl
  all_goals repeat' (first|refine ZAq rfl rfl rfl rfl rfl ?_|refine ZD6 rfl rfl rfl rfl ?_|refine ZE ?_|refine ZD ?_|refine ZF rfl ?_|refine ZQ rfl rfl ?_|refine QE rfl ?_|refine Zo rfl rfl rfl rfl ?_|refine ZA rfl ?_|refine ZC ?_|refine ZAZ rfl rfl ?_|refine YA rfl ?_|(refine Zp rfl rfl (fun _=>?_) (fun _=>?_)<;>try (exfalso;omega))|(refine Zk rfl rfl (fun _=>?_) (fun _=>?_)<;>try (exfalso;omega))|(refine J9 rfl rfl (fun _=>?_) (fun _=>?_)<;>try contradiction)|refine ZV rfl ?_|refine Zn rfl rfl rfl ?_|refine ZI ?_|refine ZS ?_|refine ZL ?_|refine ZO ?_|refine Zy ?_)
  all_goals try contradiction
  all_goals try (exfalso;omega)
  all_goals refine (Xs (.inr rfl) rfl rfl rfl rfl).trans ?_
  all_goals rfl
 have hTl:T.length=2:=by rw [hT];rfl
 have hl2:(L++T).length=L.length+2:=by rw [lL,hTl]
 rw [hl2] at hadd
 have p1:((L++T)++[Blk.arr 7 0 [t.av],Blk.arr 5 0 [Ro.zero.av]])[L.length+1]?=some (.arr 3 0 [.agg [.ptr la (b+5) 0 0 0,.nils,.nilptr]]):=by
  rw [List.append_assoc,Q2,hT];rfl
 refine ⟨((L++T)++[Blk.arr 7 0 [t.av],Blk.arr 5 0 [Ro.zero.av]]).set (L.length+1) (Blk.arr 3 0 [.agg [.ptr la (b+5) 0 0 0,.nils,.ptr A.length (L.length+3) 0 0 0]]),L.length,0,[],[],[],[L.length+3],L.length+3,fun _=>.zero,ZBh rfl ?_,⟨⟨by simp [St.wr],⟨.nils,?_,.inl ⟨rfl,rfl⟩⟩,.nil,fun p hp=>by simp at hp,fun k hk=>?_,fun it hi=>by simp at hi,by simp,fun k hk=>?_,by omega,fun p hp=>by simp at hp,fun i hi=>?_,by simp,Nat.zero_le _⟩,by simp,fun i hi=>?_,fun k hk=>?_,fun p hp=>by simp at hp,fun hc=>absurd rfl hc,.inl ⟨ht,rfl,rfl⟩⟩⟩
 ·have e0:(⟨A,false,L⟩:St)=⟨A,false,L++[]⟩:=by rw [lN]
  rw [e0];rw [hT] at hadd p1 ⊢
  repeat' (first|refine ZAq rfl (Z5 _) (QI _) rfl rfl ?_|refine ZAq rfl rfl rfl rfl rfl ?_|refine ZD6 rfl rfl rfl (Zq _) ?_|refine ZE ?_|refine ZD ?_|refine ZF rfl ?_|refine ZQ rfl rfl ?_|refine ZA rfl ?_|refine ZC ?_|refine Zb8 (agg:=false) rfl rfl ?_|refine Zz rfl rfl ?_|(refine QR rfl rfl (fun _=>?_) (fun _=>?_)<;>try (exfalso;omega))|(refine Zk rfl rfl (fun _=>?_) (fun _=>?_)<;>try (exfalso;omega))|refine ZH rfl ?_|refine Zn rfl rfl rfl ?_|refine ZB rfl rfl (by first|rfl|(simp only [lE,lN,lC,ZZ,ZW,ZX];first|done|rfl)) (hCk _) ?_|refine ZB rfl rfl (by first|rfl|(simp only [lE,lN,lC,ZZ,ZW,ZX];first|done|rfl)) (hNw _) ?_|refine ZB rfl rfl (by first|rfl|(simp only [lE,lN,lC,ZZ,ZW,ZX];first|done|rfl)) (hSt _) ?_|refine ZB rfl rfl (by first|rfl|(simp only [lE,lN,lC,ZZ,ZW,ZX];first|done|rfl)) (hadd) ?_|refine ZI ?_)
  all_goals try (exfalso;omega)
  refine Qo p1 rfl rfl rfl ?_ rfl ?_
  ·simp only [ZY,QD,if_pos (Nat.lt_succ_self _)]
  repeat' (first|refine ZE ?_|refine ZD ?_|refine ZF rfl ?_|refine ZA rfl ?_|refine ZC ?_|refine ZS ?_|refine ZO ?_)
  refine (Xs (.inr rfl) rfl rfl rfl rfl).trans ?_;rfl
 ·exact Zdp (List.getElem?_set_self (by simp)) rfl
 ·simp only [List.mem_singleton] at hk
  subst hk;refine Zdp ?_ rfl
  rw [jS (by omega),show L.length+3=(L++T).length+1 by rw [hl2],Q2];rfl
 ·simp only [List.mem_singleton] at hk
  omega
 ·rintro ⟨e1,e2,e3⟩
  have:=hbl e1.symm
  rcases hi with rfl|⟨c1,rfl⟩|q|⟨p,hp,rfl⟩
  ·omega
  ·exact c1 rfl
  ·simp only [List.mem_singleton] at q;omega
  ·simp at hp
 ·rw [jS (by omega),List.append_assoc,jL hi]
 ·simp only [List.mem_singleton] at hk
  omega
end Go.Q15
namespace Go.Q15
open Go Go.QAbs
set_option maxRecDepth 100000
set_option maxHeartbeats 8000000
theorem ZjN {b lv ix:Nat} (st:St) (h:lv<b):ZY QD b st (.map lv ix)=some (.map lv ix,st):=by
 simp only [ZY,QD,if_pos h]
def YI (l:List Nat):List (AV × AV):=l.map fun (h:Nat)=>(AV.int .u64 h,AV.bool true)
theorem Zfb (o:Nat):∀ l:List Nat,ZAJ (.int .u64 o) (YI l)=some (if o∈l then some (.bool true) else none)
 | []=>rfl
 | p::l=>by
  rw [YI,jC,ZAJ]
  show (Option.bind (if IntKind.u64=IntKind.u64 then some ((o:Int) == (p:Int)) else none) fun b=>if b=true then some (some (AV.bool true)) else ZAJ (.int .u64 o) (YI l))=_
  rw [if_pos rfl,oS,Zfb o l]
  by_cases q:o=p
  ·subst q;simp
  ·rw [if_neg (by simp;omega)]
   simp [q]
theorem ZNE (o:Nat):∀ l:List Nat,o∉l->ZCT (.int .u64 o) (.bool true) (YI l)=some (YI (l++[o]))
 | [],_=>rfl
 | p::l,h=>by
  simp only [List.mem_cons,not_or] at h;rw [YI,jC,ZCT]
  show (Option.bind (if IntKind.u64=IntKind.u64 then some ((o:Int) == (p:Int)) else none) fun b=>if b=true then some ((AV.int .u64 o,AV.bool true)::YI l) else (ZCT (.int .u64 o) (.bool true) (YI l)).map ((AV.int .u64 p,AV.bool true)::·))=_
  rw [if_pos rfl,oS,if_neg (by simp;omega),ZNE o l h.2]
  rfl
theorem ZF9 {st:St} {lv mx:Nat} {l:List Nat} (hg:st.get lv mx=some (.map (YI l))) (o:Nat):lookV st 0 (.bool false) false (.int .u64 o) (.map lv mx)=some (.bool (decide (o∈l))):=by
 simp only [lookV,Zah,hg,ZFC,oS,YL,if_true,Zfb]
 by_cases q:o∈l
 ·simp [q,Zai]
 ·simp [q,Zai]
def Z6 (h:Nat):AV:=.int .u64 h
section
variable {O:Orc} {k:List Fr} {Q:Jv} {e:Env} {A:List (Bool × List Blk)} {L:List Blk} {keep:List Nat} {is:List QAbs.PI} {d:Nat}
theorem ZnI {st:St} {s x:Opd} {lv jx ver w bytes:Nat} {es ys:List AV} (hA:A=st.A++[(st.ro,st.L)]) (hwr:st.wr lv) (hg:st.get lv jx=some (.arr w ver es)) (hs:Zc e s=some (.ref lv jx ver 0 es.length)) (hx:Zc e x=some (.lit ys))
 (hw:JY w ys=true) (hsl:mapSt (ZY QD (lv+1)) ⟨A,false,L⟩ ys=some (ys,⟨A,false,L⟩)) (hl:es.length+ys.length<4294967296) (hb:bytes<=4096)
 (h:∀ A',A'=(st.upd lv jx (.arr w (ver+1) (es++ys))).A++[((st.upd lv jx (.arr w (ver+1) (es++ys))).ro,(st.upd lv jx (.arr w (ver+1) (es++ys))).L)]->Is O is keep k Q ((d,.ref lv jx (ver+1) 0 (es.length+ys.length))::e) ⟨A',false,L⟩) :
 Is O (⟨some d,none,false,.app w bytes s x⟩::is) keep k Q e ⟨A,false,L⟩:=by
 have hlv:=St.get_le hg;refine Z1 (v:=.ref lv jx (ver+1) 0 (es.length+ys.length)) (st':=St.upd ⟨A,false,L⟩ lv jx (.arr w (ver+1) (es++ys))) ?_ ?_
 ·have hg':=ZU hA (ro:=false) (L:=L) hg
  have hw':=X4 hA hlv hwr (ro:=false) (L:=L)
  simp only [Zf,evalPO,ZG hs,ZG hx,elems,oS,JQ,hw,if_true,hsl,Zd1,hg',ZKX,true_and,if_pos (show 0+es.length<=es.length/\es.length+ys.length<4294967296/\bytes<=4096 by omega),List.drop_zero]
  rw [List.take_of_length_le (by omega),St.put_upd hw' hg']
  rfl
 ·rw [YO hA hlv]
  exact h _ rfl
end
namespace Tr
mutual
def kwT:Tr->List Nat->List Nat
 | .mk o _ _ _ k,out=>kwO k (if o≠0/\o∉out then out++[o] else out)
def kwO:Option (List Tr)->List Nat->List Nat
 | none,out=>out
 | some l,out=>kwL l out
def kwL:List Tr->List Nat->List Nat
 | [],out=>out
 | t::l,out=>kwL l (kwT t out)
end
mutual
def siz:Tr->Nat
 | .mk _ _ _ _ k=>1+sizO k
def sizO:Option (List Tr)->Nat
 | none=>0
 | some l=>sizL l
def sizL:List Tr->Nat
 | []=>0
 | t::l=>siz t+sizL l
end
theorem kwL_append:∀ (a b:List Tr) (out:List Nat),kwL (a++b) out=kwL b (kwL a out)
 | [],b,out=>rfl
 | t::a,b,out=>by rw [lC,kwL,kwL,kwL_append a b]
theorem sizL_append:∀ a b,sizL (a++b)=sizL a+sizL b
 | [],b=>by simp [sizL]
 | t::a,b=>by rw [lC,sizL,sizL,sizL_append a b];omega
theorem kwO_getD (k:Option (List Tr)) (out:List Nat):kwO k out=kwL (k.getD []) out:=by cases k<;>rfl
theorem sizO_getD (k:Option (List Tr)):sizO k=sizL (k.getD []):=by cases k<;>rfl
theorem kwT_len (t:Tr):∀ out,(kwT t out).length<=out.length+t.siz:=by
 induction t using Tr.ind with
 | step o h m s k ih =>
  intro out;rw [kwT,siz,kwO_getD,sizO_getD]
  have key:∀ (l:List Tr),(∀ t∈l,∀ out,(kwT t out).length<=out.length+t.siz)->∀ out,(kwL l out).length<=out.length+sizL l:=by
   intro l
   induction l with
   | nil=>intro _ out;simp [kwL,sizL]
   | cons a l ih2 =>
    intro hl out;rw [kwL,sizL]
    have h1:=ih2 (fun t ht=>hl t (by simp [ht])) (kwT a out)
    have h2:=hl a (by simp) out
    omega
  have:=key (k.getD []) ih (if o≠0/\o∉out then out++[o] else out)
  split at this
  ·rename_i q;rw [if_pos q];rw [lL,List.length_singleton] at this;omega
  ·rename_i q;rw [if_neg q];omega
theorem kwL_len:∀ (l:List Tr) (out:List Nat),(kwL l out).length<=out.length+sizL l
 | [],out=>by simp [kwL,sizL]
 | t::l,out=>by
  rw [kwL,sizL];have h1:=kwL_len l (kwT t out);have h2:=kwT_len t out;omega
end Tr
structure KS (st:St) (lv mb mx ob ox wb ver:Nat) (out:List Nat):Prop where
 wr:st.wr lv
 hm:st.get lv mb=some (.arr 1 0 [.map lv mx])
 hmx:st.get lv mx=some (.map (YI out))
 ho:st.get lv ob=some (.arr 1 0 [.ref lv ox ver 0 out.length])
 hox:st.get lv ox=some (.arr 1 ver (out.map Z6))
 hw:st.get lv wb=some (.arr 1 0 [.func (.func Yu) [] [.ptr lv mb 0 0 0,.ptr lv ob 0 0 0,.ptr lv wb 0 0 0]])
 n1:mx≠ox
 n2:mx≠ob
 n3:ox≠ob
 n4:mb≠mx/\mb≠ox/\mb≠ob
 n5:wb≠mx/\wb≠ox/\wb≠ob
def JT (st:St) (lv mx ob ox ver:Nat) (out:List Nat):St:=((st.upd lv mx (.map (YI out))).upd lv ox (.arr 1 ver (out.map Z6))).upd lv ob (.arr 1 0 [.ref lv ox ver 0 out.length])
theorem KS.get {st:St} {lv mb mx ob ox wb ver:Nat} {out:List Nat} (h:KS st lv mb mx ob ox wb ver out) (v:Nat) (t:List Nat) (l' i':Nat) :
 (JT st lv mx ob ox v t).get l' i'=if l'=lv/\i'=ob then some (.arr 1 0 [.ref lv ox v 0 t.length]) else if l'=lv/\i'=ox then some (.arr 1 v (t.map Z6)) else if l'=lv/\i'=mx then some (.map (YI t)) else st.get l' i':=by
 have g1:∀ l' i',(st.upd lv mx (.map (YI t))).get l' i'=if l'=lv/\i'=mx then some (.map (YI t)) else st.get l' i':=fun l' i'=>St.get_upd h.hmx rfl
 have b1:(st.upd lv mx (.map (YI t))).get lv ox=some (.arr 1 ver (out.map Z6)):=by rw [g1,if_neg (fun q=>h.n1 q.2.symm)];exact h.hox
 have g2:∀ l' i',((st.upd lv mx (.map (YI t))).upd lv ox (.arr 1 v (t.map Z6))).get l' i'=if l'=lv/\i'=ox then some (.arr 1 v (t.map Z6)) else (st.upd lv mx (.map (YI t))).get l' i':=fun l' i'=>St.get_upd b1 rfl
 have b2:((st.upd lv mx (.map (YI t))).upd lv ox (.arr 1 v (t.map Z6))).get lv ob=some (.arr 1 0 [.ref lv ox ver 0 out.length]):=by rw [g2,if_neg (fun q=>h.n3 q.2.symm),g1,if_neg (fun q=>h.n2 q.2.symm)];exact h.ho
 rw [JT,St.get_upd b2 rfl,g2,g1]
theorem KS.put {st:St} {lv mb mx ob ox wb ver:Nat} {out:List Nat} (h:KS st lv mb mx ob ox wb ver out) (v:Nat) (t:List Nat):KS (JT st lv mx ob ox v t) lv mb mx ob ox wb v t:=by
 refine ⟨St.wr_upd (St.wr_upd (St.wr_upd h.wr h.wr) (St.wr_upd h.wr h.wr)) (St.wr_upd (St.wr_upd h.wr h.wr) (St.wr_upd h.wr h.wr)),?_,?_,?_,?_,?_,h.n1,h.n2,h.n3,h.n4,h.n5⟩
 ·rw [h.get,if_neg (fun q=>h.n4.2.2 q.2),if_neg (fun q=>h.n4.2.1 q.2),if_neg (fun q=>h.n4.1 q.2)];exact h.hm
 ·rw [h.get,if_neg (fun q=>h.n2 q.2),if_neg (fun q=>h.n1 q.2),if_pos ⟨rfl,rfl⟩]
 ·rw [h.get,if_pos ⟨rfl,rfl⟩]
 ·rw [h.get,if_neg (fun q=>h.n3 q.2),if_pos ⟨rfl,rfl⟩]
 ·rw [h.get,if_neg (fun q=>h.n5.2.2 q.2),if_neg (fun q=>h.n5.2.1 q.2),if_neg (fun q=>h.n5.1 q.2)];exact h.hw
theorem KS.same {st:St} {lv mb mx ob ox wb ver:Nat} {out:List Nat} (h:KS st lv mb mx ob ox wb ver out):JT st lv mx ob ox ver out=st:=by
 rw [JT,upd_same h.hmx,upd_same h.hox,upd_same h.ho]
theorem ZjO {st:St} {lv mx ob ox v1 v2:Nat} {s t:List Nat} (h1:mx≠ox) (h2:mx≠ob) (h3:ox≠ob):JT (JT st lv mx ob ox v1 s) lv mx ob ox v2 t=JT st lv mx ob ox v2 t:=by
 unfold JT;generalize Blk.map (YI s)=a1;generalize Blk.map (YI t)=a2;generalize Blk.arr 1 v1 (s.map Z6)=b1;generalize Blk.arr 1 v2 (t.map Z6)=b2;generalize Blk.arr 1 0 [AV.ref lv ox v1 0 s.length]=c1;generalize Blk.arr 1 0 [AV.ref lv ox v2 0 t.length]=c2
 rw [ZX5 (st:=(st.upd lv mx a1).upd lv ox b1) (fun q=>h2 q.symm),ZX5 (st:=st.upd lv mx a1) (fun q=>h1 q.symm),Zdi,ZX5 (st:=(st.upd lv mx a2).upd lv ox b1) (fun q=>h3 q.symm),Zdi,Zdi]
theorem Zg7 {st:St} {A:List (Bool × List Blk)} {ro:Bool} {L:List Blk} (hA:A=st.A++[(st.ro,st.L)]) {lv mx ob ox ver:Nat} {t:List Nat} (hl:lv<=st.A.length) :
 JT ⟨A,ro,L⟩ lv mx ob ox ver t=⟨(JT st lv mx ob ox ver t).A++[((JT st lv mx ob ox ver t).ro,(JT st lv mx ob ox ver t).L)],ro,L⟩:=by
 unfold JT;rw [YO hA hl]
 have e2:=fun (b:Blk)=>YO (st:=st.upd lv mx (.map (YI t))) (A:=(st.upd lv mx (.map (YI t))).A++[((st.upd lv mx (.map (YI t))).ro,(st.upd lv mx (.map (YI t))).L)]) (ro:=ro) (L:=L) (lv:=lv) (ix:=ox) (b:=b) rfl (by rw [St.upd_A];exact hl)
 rw [e2]
 exact YO rfl (by rw [St.upd_A,St.upd_A];exact hl)
theorem KS.push {st:St} {A:List (Bool × List Blk)} {ro:Bool} {L:List Blk} (hA:A=st.A++[(st.ro,st.L)]) {lv mb mx ob ox wb ver:Nat} {out:List Nat} (h:KS st lv mb mx ob ox wb ver out):KS ⟨A,ro,L⟩ lv mb mx ob ox wb ver out :=
 ⟨X4 hA (St.get_le h.hm) h.wr,ZU hA h.hm,ZU hA h.hmx,ZU hA h.ho,ZU hA h.hox,ZU hA h.hw,h.n1,h.n2,h.n3,h.n4,h.n5⟩
theorem ZnJ (st:St) (lv mx ob ox ver:Nat) (out:List Nat):(JT st lv mx ob ox ver out).A.length=st.A.length:=by
 unfold JT;rw [St.upd_A,St.upd_A,St.upd_A]
theorem ZnK (t:Tr):t.Pos->∀ {st:St} {lv mb mx ob ox wb ver:Nat} {out:List Nat},KS st lv mb mx ob ox wb ver out->out.length+t.siz<4294967296 ->
 Sp Tb Yu [t.av,.ptr lv mb 0 0 0,.ptr lv ob 0 0 0,.ptr lv wb 0 0 0] st fun v st'=>v=.tup []/\∃ ver',st'=JT st lv mx ob ox ver' (t.kwT out):=by
 induction t using Tr.ind with
 | step o h m s k ih =>
  intro hp st lv mb mx ob ox wb ver out hs hl
  cases hp with
  | mk h0 h4 hk2 =>
  have e1:(Tr.mk o h m s k).kwT out=Tr.kwL (k.getD []) (if o≠0/\o∉out then out++[o] else out):=by rw [Tr.kwT,Tr.kwO_getD]
  have e2:(Tr.mk o h m s k).siz=1+Tr.sizL (k.getD []):=by rw [Tr.siz,Tr.sizO_getD]
  rw [e1];rw [e2] at hl;refine Zou rfl ?_;obtain ⟨A,hA⟩:∃ A,A=st.A++[(st.ro,st.L)]:=⟨_,rfl⟩;rw [<- hA];have hlv:=St.get_le hs.hm
  have hav:(Tr.mk o h m s k).av=.agg [.int .u64 o,.int .i64 h,.int .i64 m.b,.int .i64 m.r,.int .i64 m.l,.str s,slV Tr.av k]:=by rw [Tr.av,Tr.avO_sl]
  -- the loop over the children
  have key:∀ (ver1:Nat) (out1:List Nat) (A1:List (Bool × List Blk)),A1=(JT st lv mx ob ox ver1 out1).A++[((JT st lv mx ob ox ver1 out1).ro,(JT st lv mx ob ox ver1 out1).L)]->out1.length<=out.length+1->∀ e:Env,e=[(3,.ptr lv wb 0 0 0),(4,.ptr A.length 0 0 0 0)]\/e=[(1,.ptr lv mb 0 0 0),(2,.ptr lv ob 0 0 0),(3,.ptr lv wb 0 0 0),(4,.ptr A.length 0 0 0 0),(16,.bool false)] ->
   Ru (S Tb) (.seq ZGN (.block 0 (.loop ZBk))) [] (fun x e st''=>∃ v st',Q9 false ([]:List RV) (x,e,st'')=some (v,st')/\v=.tup []/\∃ ver',st'=JT st lv mx ob ox ver' (Tr.kwL (k.getD []) out1)) e ⟨A1,false,[.arr 7 0 [(Tr.mk o h m s k).av]]⟩:=by
   intro ver1 out1 A1 hA1 hl1 e he
   have hAl:A.length=A1.length:=by rw [hA,hA1];simp [ZnJ]
   rw [hAl] at he;rw [hav]
   cases k with
   | none =>
    simp only [slV]
    rcases he with rfl|rfl
    all_goals repeat' (first|refine ZE ?_|refine ZD ?_|refine ZF rfl ?_|refine ZQ rfl rfl ?_|refine ZP rfl rfl rfl rfl ?_|refine ZA rfl ?_|refine ZC ?_|refine YA rfl ?_|(refine Zh rfl rfl (fun _=>?_) (fun _=>?_)<;>try (exfalso;omega))|refine ZH rfl ?_|refine Qh ?_|refine Zu ?_|refine ZL ?_|refine ZO ?_|refine Ze ?_|refine Zb rfl ?_)
    all_goals try (exfalso;omega)
    all_goals exact ⟨_,_,Zj hA1 (.inl rfl) rfl rfl rfl rfl rfl,rfl,ver1,rfl⟩
   | some l =>
    simp only [Option.getD] at h4 hk2 ih hl ⊢;simp only [slV]
    have hloop:Ru (S Tb) (.loop ZBk) [.blk 0] (fun x e st''=>∃ v st',Q9 false ([]:List RV) (x,e,st'')=some (v,st')/\v=.tup []/\∃ ver',st'=JT st lv mx ob ox ver' (Tr.kwL l out1)) [(3,.ptr lv wb 0 0 0),(26,.lit (l.map Tr.av)),(27,.int .i64 l.length),(28,.int .i64 0)] ⟨A1,false,[.arr 7 0 [.agg [.int .u64 o,.int .i64 h,.int .i64 m.b,.int .i64 m.r,.int .i64 m.l,.str s,.lit (l.map Tr.av)]]]⟩:=by
     refine Z2 (α:=Nat × List Blk × Nat) (fun p=>[(3,.ptr lv wb 0 0 0),(26,.lit (l.map Tr.av)),(27,.int .i64 l.length),(28,.int .i64 p.1)])
      (fun p=>⟨(JT st lv mx ob ox p.2.2 (Tr.kwL (l.take p.1) out1)).A++[((JT st lv mx ob ox p.2.2 (Tr.kwL (l.take p.1) out1)).ro,(JT st lv mx ob ox p.2.2 (Tr.kwL (l.take p.1) out1)).L)],false,.arr 7 0 [.agg [.int .u64 o,.int .i64 h,.int .i64 m.b,.int .i64 m.r,.int .i64 m.l,.str s,.lit (l.map Tr.av)]]::p.2.1⟩)
      (fun p=>p.1<=l.length) (fun p=>l.length-p.1) (0,[],ver1) rfl ?_ (by simp) ?_
     ·simp only [List.take_zero,Tr.kwL,<- hA1]
     rintro ⟨i,G,ver2⟩ hi
     simp only at hi ⊢
     have hk3:=hs.put ver2 (Tr.kwL (l.take i) out1)
     have hpp:∀ v3 t3,JT (JT st lv mx ob ox ver2 (Tr.kwL (l.take i) out1)) lv mx ob ox v3 t3=JT st lv mx ob ox v3 t3:=fun v3 t3=>ZjO hs.n1 hs.n2 hs.n3
     generalize hs1:JT st lv mx ob ox ver2 (Tr.kwL (l.take i) out1)=st1 at *
     obtain ⟨A2,hA2⟩:∃ A2,A2=st1.A++[(st1.ro,st1.L)]:=⟨_,rfl⟩;rw [<- hA2]
     have hgw:=fun L=>ZU hA2 (ro:=false) (L:=L) hk3.hw
     repeat' (first|refine ZE ?_|refine ZD ?_|refine ZA rfl ?_|refine ZC ?_|(refine Zh rfl rfl (fun _=>?_) (fun _=>?_)<;>try (exfalso;omega))|refine ZV rfl ?_|refine ZH rfl ?_|refine Zw rfl rfl rfl ?_|refine Yx rfl rfl (by omega) Z5 (fun _ _=>?_)|refine QM rfl (Zq _) ?_|refine Yf rfl rfl rfl (Z8 _ _ _) (QY _ _) rfl ?_|refine ZI ?_|refine Zu ?_|refine ZL ?_|refine ZO ?_|refine Ze ?_|refine Zb rfl ?_|refine Zt ?_)
     ·rename_i u hu
      have hu2:l[i]?=some u:=hu;have hum:=jM hu2;have hle:lv<=st1.A.length:=St.get_le hk3.hm
      have hsum:Tr.sizL l=Tr.sizL (l.take i)+(u.siz+Tr.sizL (l.drop (i+1))):=by
       conv=>lhs;rw [<- List.take_append_drop (i+1) l,Zg hu2,Tr.sizL_append,Tr.sizL_append]
       simp [Tr.sizL];omega
      have hlen:=Tr.kwL_len (l.take i) out1
      have ihu:=fun L=>ih u hum (hk2 u hum) (hk3.push hA2 (ro:=false) (L:=L)) (by omega)
      have hkw:Tr.kwL (l.take (i+1)) out1=u.kwT (Tr.kwL (l.take i) out1):=by
       rw [Zg hu2,Tr.kwL_append];rfl
      refine Z9 rfl (hgw _) rfl rfl ?_
      repeat' (refine JF rfl rfl (Zq _) ?_)
      refine Zhk rfl rfl (wk4 _ _ _ _ rfl rfl rfl) (ihu _) ?_
      rintro v st' ⟨rfl,v3,rfl⟩
      rw [Zg7 hA2 hle,hpp,<- hkw]
      repeat' (first|refine ZD ?_|refine ZF rfl ?_|refine ZA rfl ?_|refine ZC ?_|refine Zm rfl rfl (by omega) ?_|refine Zy ?_|refine QH ?_)
      exact ⟨(i+1,_,v3),⟨rfl,rfl⟩,by simp only;omega,by simp only;omega⟩
     ·have hi':i=l.length:=by omega
      subst hi'
      rw [List.take_length] at *
      exact ⟨_,_,Zj hA2 (.inl rfl) rfl rfl rfl rfl rfl,rfl,ver2,hs1.symm⟩
    rcases he with rfl|rfl
    all_goals repeat' (first|exact hloop|refine ZE ?_|refine ZD ?_|refine ZF rfl ?_|refine ZQ rfl rfl ?_|refine ZP rfl rfl rfl rfl ?_|refine ZA rfl ?_|refine ZC ?_|refine QU rfl ?_|refine ZL ?_)
  have hg1:=fun L=>ZU hA (ro:=false) (L:=L) hs.hm
  have hg2:=fun L=>ZU hA (ro:=false) (L:=L) hs.hmx
  have hlk:=fun L=>ZF9 (hg2 L) o
  have hkey0:=key ver out A (by rw [hs.same];exact hA) (by omega) _ (.inr rfl)
  have hwide:=Z5 (Tr.mk o h m s k);have hforce:=QI (Tr.mk o h m s k);rw [hav] at hwide hforce
  by_cases ho:o=0
  ·subst ho
   rw [if_neg (by simp)]
   rw [hav] at hkey0 ⊢
   repeat' (first|refine Zw rfl hwide hforce ?_|exact hkey0|refine ZE ?_|refine ZD ?_|refine ZF rfl ?_|refine ZQ rfl rfl ?_|refine ZP rfl rfl rfl rfl ?_|refine J1 rfl rfl ?_|refine Zo rfl rfl rfl rfl ?_|refine ZA rfl ?_|refine ZC ?_|(refine Zk rfl rfl (fun _=>?_) (fun _=>?_)<;>try (exfalso;omega))|refine ZH rfl ?_|refine ZI ?_)
   all_goals contradiction
  ·by_cases hm:o∈out
   ·rw [if_neg (by simp [hm])]
    rw [hav] at hkey0 ⊢;rw [decide_eq_true hm] at hlk
    repeat' (first|refine Zw rfl hwide hforce ?_|exact hkey0|refine ZE ?_|refine ZD ?_|refine ZF rfl ?_|refine ZQ rfl rfl ?_|refine ZP rfl rfl rfl rfl ?_|refine QE rfl ?_|refine Zo rfl rfl rfl rfl ?_|refine ZA rfl ?_|refine ZC ?_|(refine Zk rfl rfl (fun _=>?_) (fun _=>?_)<;>try (exfalso;omega))|refine ZH rfl ?_|refine Jc rfl rfl ?_|refine Z9 rfl (hg1 _) rfl rfl ?_|refine Ye rfl rfl (hlk _) ?_|refine ZI ?_)
    all_goals contradiction
   ·rw [if_pos ⟨ho,hm⟩]
    have hkey:=key (ver+1) (out++[o]);rw [hav] at hkey ⊢;rw [decide_eq_false hm] at hlk
    repeat' (first|refine Zw rfl hwide hforce ?_|refine ZE ?_|refine ZD ?_|refine ZF rfl ?_|refine ZQ rfl rfl ?_|refine ZP rfl rfl rfl rfl ?_|refine QE rfl ?_|refine Zo rfl rfl rfl rfl ?_|refine ZA rfl ?_|refine ZC ?_|(refine Zk rfl rfl (fun _=>?_) (fun _=>?_)<;>try (exfalso;omega))|refine ZV rfl ?_|refine Jc rfl rfl ?_|refine Z9 rfl (hg1 _) rfl rfl ?_|refine Ye rfl rfl (hlk _) ?_)
    all_goals try contradiction
    refine ZfR hA rfl rfl rfl hs.wr hs.hmx rfl (ZNE o out hm) (fun A' hA'=>?_)
    have q1:∀ l' i',(st.upd lv mx (.map (YI (out++[o])))).get l' i'=if l'=lv/\i'=mx then some (.map (YI (out++[o]))) else st.get l' i':=fun l' i'=>St.get_upd hs.hmx rfl
    have ka:(st.upd lv mx (.map (YI (out++[o])))).get lv ob=some (.arr 1 0 [.ref lv ox ver 0 out.length]):=by rw [q1,if_neg (fun q=>hs.n2 q.2.symm)];exact hs.ho
    have kb:(st.upd lv mx (.map (YI (out++[o])))).get lv ox=some (.arr 1 ver (out.map Z6)):=by rw [q1,if_neg (fun q=>hs.n1 q.2.symm)];exact hs.hox
    have hw1:=St.wr_upd (b:=.map (YI (out++[o]))) (ix:=mx) hs.wr hs.wr
    have hAl:A.length=A'.length:=by rw [hA,hA'];simp [St.upd_A]
    rw [hAl] at hkey ⊢
    have hput:JT st lv mx ob ox (ver+1) (out++[o])=((st.upd lv mx (.map (YI (out++[o])))).upd lv ox (.arr 1 (ver+1) (out.map Z6++[.int .u64 o]))).upd lv ob (.arr 1 0 [.ref lv ox (ver+1) 0 (out.length+1)]):=by
     unfold JT;rw [List.map_append,lL];rfl
    rw [hput] at hkey;clear hput q1
    generalize st.upd lv mx (.map (YI (out++[o])))=st1 at *
    have hg3:=fun L=>ZU hA' (ro:=false) (L:=L) ka
    repeat' (first|refine ZD ?_|refine ZQ rfl rfl ?_|refine ZP rfl rfl rfl rfl ?_|refine ZA rfl ?_|refine ZC ?_|refine Qa rfl rfl rfl rfl ?_|refine Z9 rfl (hg3 _) rfl rfl ?_)
    refine ZnI hA' hw1 kb (by rw [List.length_map];rfl) rfl rfl rfl (by simp;omega) (by decide) (fun A2 hA2=>?_)
    have q2:∀ l' i',(st1.upd lv ox (.arr 1 (ver+1) (out.map Z6++[.int .u64 o]))).get l' i'=if l'=lv/\i'=ox then some (.arr 1 (ver+1) (out.map Z6++[.int .u64 o])) else st1.get l' i':=fun l' i'=>St.get_upd kb rfl
    have kc:(st1.upd lv ox (.arr 1 (ver+1) (out.map Z6++[.int .u64 o]))).get lv ob=some (.arr 1 0 [.ref lv ox ver 0 out.length]):=by rw [q2,if_neg (fun q=>hs.n3 q.2.symm)];exact ka
    have hw2:=St.wr_upd (b:=.arr 1 (ver+1) (out.map Z6++[.int .u64 o])) (ix:=ox) hw1 hw1
    have hAl2:A'.length=A2.length:=by rw [hA',hA2];simp [St.upd_A]
    rw [hAl2] at hkey ⊢
    generalize st1.upd lv ox (.arr 1 (ver+1) (out.map Z6++[.int .u64 o]))=st2 at *
    refine is_stP hA2 rfl rfl hw2 kc rfl (Jr _ (Nat.lt_succ_self _)) rfl (fun A3 hA3=>?_)
    have hAl3:A2.length=A3.length:=by rw [hA2,hA3];simp [St.upd_A]
    rw [hAl3] at hkey ⊢
    have hk:=hkey A3 (by rw [hA3];simp) (by simp) _ (.inl rfl)
    repeat' (first|exact hk|refine ZA rfl ?_|refine ZC ?_)
theorem ZoM {t:Tr} (hp:t.Pos) (hsz:t.siz<4294967296) (st:St):S Tb ZHC [t.av] st=some (.lit ((t.kwT []).map Z6),st):=by
 refine QJ rfl (fun A hA=>?_)
 have hW:∀ L,L=[.arr 7 0 [t.av],.arr 1 0 [],.arr 1 0 [.ref A.length 1 0 0 0],.map [],.arr 1 0 [.map A.length 3],.arr 1 0 [.func (.func Yu) [] [.ptr A.length 4 0 0 0,.ptr A.length 2 0 0 0,.ptr A.length 5 0 0 0]]] ->
  Sp Tb Yu [t.av,.ptr A.length 4 0 0 0,.ptr A.length 2 0 0 0,.ptr A.length 5 0 0 0] ⟨A,false,L⟩ fun v st'=>v=.tup []/\∃ ver',st'=JT ⟨A,false,L⟩ A.length 3 2 1 ver' (t.kwT []):=by
  rintro L rfl
  refine ZnK t hp (ver:=0) (mb:=4) (mx:=3) (ob:=2) (ox:=1) (wb:=5) ⟨by simp [St.wr],by rw [St.get_cur];rfl,by rw [St.get_cur];rfl,by rw [St.get_cur];rfl,by rw [St.get_cur];rfl,by rw [St.get_cur];rfl,by decide,by decide,by decide,by decide,by decide⟩ (by simp;omega)
 repeat' (first|refine ZE ?_|refine ZD ?_|refine ZF rfl ?_|refine ZP rfl rfl rfl rfl ?_|refine ZA rfl ?_|refine ZC ?_|refine ZBA rfl rfl ?_|refine Za rfl rfl rfl ?_|refine ZNj rfl ?_|refine ZCd rfl ?_|refine ZP rfl rfl rfl (Zq _) ?_|refine Zw rfl (Z5 _) (QI _) ?_|refine Zl rfl rfl rfl (ZjN _ (Nat.lt_succ_self _)) rfl rfl ?_|refine Zl rfl rfl rfl (ZfW _ (Nat.lt_succ_self _)) rfl rfl ?_)
 refine Zhk rfl rfl (wk4 _ _ _ _ rfl rfl rfl) (hW _ rfl) ?_
 rintro v st' ⟨rfl,v2,rfl⟩
 have hpc:∀ b0 b1 b2 b3 b4 b5 w,JT ⟨A,false,[b0,b1,b2,b3,b4,b5]⟩ A.length 3 2 1 v2 w=⟨A,false,[b0,.arr 1 v2 (w.map Z6),.arr 1 0 [.ref A.length 1 v2 0 w.length],.map (YI w),b4,b5]⟩:=by
  intro b0 b1 b2 b3 b4 b5 w
  simp [JT,St.upd]
 rw [hpc]
 generalize t.kwT []=w at *
 repeat' (first|refine ZE ?_|refine ZD ?_|refine ZF rfl ?_|refine ZP rfl rfl rfl rfl ?_|refine ZA rfl ?_|refine ZC ?_|refine ZS ?_|refine ZO ?_)
 refine ZDa (es:=w.map Z6) hA (by first|exact .inl rfl|exact .inr rfl) rfl rfl (by simp) (by intro v hv;obtain ⟨x,_,rfl⟩:=List.mem_map.1 hv;rfl) ?_
 rfl
end Go.Q15
namespace Go.Q15
open Go Go.QAbs
set_option maxRecDepth 100000
set_option maxHeartbeats 8000000
def wrV (t:Tr) (r:AR):AR × Ro × List Nat:=if t.old=0/\t.h=0/\t.text=[] then (r,.zero,[]) else t.wr r
theorem Zh5 {N:ZJ} {t:Tr} (hv:Val N t) (r:AR):wrV t r=t.wr r:=by
 unfold wrV
 cases hv with
 | kept h0=>rw [if_neg];simp [Tr.old,h0]
 | leaf h1=>rw [if_neg];rintro ⟨_,_,q⟩;simp only [Tr.text] at q;rw [q] at h1;simp at h1
 | inner=>rw [if_neg];simp [Tr.h]
theorem ZbN {t:Tr} (h:IsEmpty t) (r:AR):wrV t r=(r,.zero,[]):=by
 unfold wrV;rw [if_pos ⟨h.old,h.h,h.text⟩]
theorem Val.not_empty {N:ZJ} {t:Tr} (hv:Val N t):¬ IsEmpty t:=fun h=>by
 have:=hv.pos.2
 have:=h.bytes
 omega
theorem PI.run {r:AR} (ho:AROk r) (hg:GoodN r.nodes) {t:Tr} (hv:VE r.nodes t) (hb:t.bytes<=65536) (hn:nw t<=r.n) {its:List It} {rx:Nat} {ρ:Nat->Ro} (h:PI t its rx ρ) :
 ∃ ρ',RunOk its r ρ (wrV t r).1 ρ' (wrV t r).2.2/\ρ' rx=(wrV t r).2.1:=by
 rcases h with ⟨h1,rfl,h2⟩|⟨⟨M,hM⟩,R,h1,h2,h3⟩
 ·rw [ZbN h1];exact ⟨ρ,.nil,h2⟩
 ·rcases hv with hv|hv
  ·exact absurd hv hM.not_empty
  ·rw [Zh5 hv]
   rw [ZQK hv] at hn;obtain ⟨ρ',a1,a2,_⟩:=exec_ok hg hv hb r ho hg (.refl _) hn rx its R ρ h1 h2 h3;exact ⟨ρ',a1,a2⟩
theorem Zh6 {A:List (Bool × List Blk)} {L:List Blk} {la b:Nat} {r:AR} (hA:HasR ⟨A,false,L⟩ la b r) (hN:r.n<=r.blk.length) (h16:r.states.length<=16384) (h6:r.n<65536) {t:Tr} (hv:VE r.nodes t) (hb:t.bytes<=65536) (hn:nw t<=r.n) :
 ∃ L2 tx ver cs its F keys rx ρ,S Tb ZAe [.ptr la (b+5) 0 0 0,t.av] ⟨A,false,L⟩=some (.tup [.ptr A.length (L.length+1) 0 0 0,.int .i64 0],⟨A,false,L2⟩)/\Begun A L L2 la b t tx ver cs its F keys rx ρ:=by
 rcases hv with hv|hv
 ·exact Zfa hA hN h16 h6 hv
 ·rw [ZQK hv] at hn
  exact ZjL (N:=r.nodes) hA hN h16 h6 hv hb hn
theorem ZnL {A:List (Bool × List Blk)} {L:List Blk} {ix ver n:Nat} {l:List Nat} {ro:Ro} {e:Int} (hg:L[ix]?=some (.arr 1 ver (l.map Z6))) (hn:n=l.length) :
 ZY QD A.length ⟨A,false,L⟩ (.tup [ro.av,.ref A.length ix ver 0 n,.int .i64 e])=some (.tup [ro.av,.lit (l.map Z6),.int .i64 e],⟨A,false,L.set ix .dead⟩):=by
 subst hn
 have h1:=ZIB (n:=4) (A:=A) (s:=0) (m:=l.length) hg (by simp) (es':=l.map Z6) (by
  rw [List.drop_zero,List.take_of_length_le (by simp)]
  exact ZQC (k:=.u64) (fun n:Nat=>(n:Int)) 3 0 _ l)
 show (mapSt (ZY 5 A.length) _ _).bind Zbe=_
 have h2:ZY 5 A.length ⟨A,false,L⟩ ro.av=some (ro.av,⟨A,false,L⟩):=rfl;simp only [mapSt,h2,oS,h1];rfl
theorem RunOk.len {its:List It} {r r':AR} {ρ ρ':Nat->Ro} {hs:List Nat} (h:RunOk its r ρ r' ρ' hs):hs.length=its.length:=by
 induction h with
 | nil=>rfl
 | cons hn hx hk h ih=>simp [ih]
theorem RunOk.inv {it:It} {its:List It} {r r':AR} {ρ ρ':Nat->Ro} {l:List Nat} (h:RunOk (it::its) r ρ r' ρ' l) :
 ∃ hs,l=r.next::hs/\0<r.n/\NdOk (Q5 ρ it.c)/\ZQJ r.nodes (Q5 ρ it.c)/\RunOk its (r.add (Q5 ρ it.c)) (ZND ρ it.rx r.next) r' ρ' hs:=by
 cases h with
 | cons hn hx hk h=>exact ⟨_,rfl,hn,hx,hk,h⟩
theorem RunOk.nil_inv {r r':AR} {ρ ρ':Nat->Ro} {l:List Nat} (h:RunOk [] r ρ r' ρ' l):l=[]/\r'=r/\ρ'=ρ:=by
 cases h;exact ⟨rfl,rfl,rfl⟩
theorem Zk6 {st:St} {la b:Nat} (hl:la<=st.A.length) (rj r2:AR) {n:Nat} (hn:n=st.A.length+1) (L:List Blk) (ip tx ver len rx k:Nat) (ro:Ro) (j:Nat) :
 ZF8 ⟨(QP st la b rj).ps,false,L⟩ n ip tx ver la b len rx r2 k ro j=⟨(QP st la b r2).ps,false,(L.set k (.arr 5 0 [ro.av])).set ip (.arr 3 0 [.agg [.ptr la (b+5) 0 0 0,.ref n tx ver (j+1) (len-j-1),.ptr n rx 0 0 0]])⟩:=by
 have e1:QP ⟨(QP st la b rj).ps,false,L⟩ la b r2=⟨(QP st la b r2).ps,false,L⟩:=by
  rw [YV rfl (by rw [ZBl];exact hl),ZjG]
 have e2:((QP st la b r2).ps).length=n:=by rw [hn];simp [ZBl]
 rw [ZF8,e1];unfold St.upd;simp only [e2,if_true]
theorem PenS.frm {A:List (Bool × List Blk)} {L L':List Blk} {n ip tx ver la b:Nat} {cls:List AV} {its:List It} {F:List (Nat × Blk)} {keys:List Nat} {rx:Nat} {ρ:Nat->Ro} {j:Nat} (h:PenS ⟨A,false,L⟩ n ip tx ver la b cls its F keys rx ρ j) (hn:n=A.length)
 (hg:∀ i,i=ip\/(cls≠[]/\i=tx)\/i∈keys\/(∃ p∈F,i=p.1)->L'[i]?=L[i]?):PenS ⟨A,false,L'⟩ n ip tx ver la b cls its F keys rx ρ j:=by
 subst hn;obtain ⟨td,h1,h2⟩:=h.pen
 have hget:∀ i,(i=ip\/(cls≠[]/\i=tx)\/i∈keys\/(∃ p∈F,i=p.1))->St.get ⟨A,false,L'⟩ A.length i=St.get ⟨A,false,L⟩ A.length i:=fun i hi=>by rw [St.get_cur,St.get_cur,hg i hi]
 refine ⟨by simp [St.wr],⟨td,by rw [hget _ (.inl rfl)];exact h1,?_⟩,h.cl,fun p hp=>by rw [hget _ (.inr (.inr (.inr ⟨p,hp,rfl⟩)))];exact h.fx p hp,fun k hk=>by rw [hget _ (.inr (.inr (.inl hk)))];exact h.rts k hk,h.key,h.rk,h.s1,h.s2,h.s3,h.ar,h.len,h.jl⟩
 rcases h2 with q|⟨hc,q1,q2⟩
 ·exact .inl q
 ·exact .inr ⟨hc,q1,by rw [hget _ (.inr (.inl ⟨hc,rfl⟩))];exact q2⟩
theorem ZoN {e:Env} {A:List (Bool × List Blk)} {st:St} {L:List Blk} {x:Ex} {c4 c5 c6 j4 ix w4 v4 ver n:Nat} {l:List Nat} {ro:Ro} {z:Int} (hA:A=st.A++[(st.ro,st.L)]) (hx:x=.norm\/x=.ret) (h4:J0 e c4=some (.ptr A.length j4 v4 0 0)) (hg4:L[j4]?=some (.arr w4 v4 [ro.av]))
 (h5:J0 e c5=some (.ref A.length ix ver 0 n)) (hg5:L[ix]?=some (.arr 1 ver (l.map Z6))) (hn:n=l.length) (h6:J0 e c6=some (.int .i64 z)):Q9 false [.c c4 true 5,.s c5,.s c6] (x,e,⟨A,false,L⟩)=some (.tup [ro.av,.lit (l.map Z6),.int .i64 z],st):=by
 refine ZBC (v:=.tup [ro.av,.ref A.length ix ver 0 n,.int .i64 z]) hA hx ?_ (ZnL hg5 hn) rfl
 have h1:ZBe ⟨A,false,L⟩ e (.c c4 true 5)=some ro.av:=by
  simp only [ZBe,QK h4,loadP,St.get_cur,hg4,vis,ZGE,if_true,List.getElem?_cons_zero,oS];rfl
 simp only [QQ,ZDo,h1,oS];simp only [ZBe,QK h5,QK h6,oS,Option.map_some,ZGF]
theorem ZUG {st:St} {la b:Nat} {r:AR} (hA:Has st la b r) (ho:AROk r) (hg:GoodN r.nodes) {t:Tr} (hv:VE r.nodes t) (hb:t.bytes<=65536) (hn:nw t<=r.n) :
 S Tb ZAb [.ptr la (b+5) 0 0 0,t.av] st=some (.tup [(wrV t r).2.1.av,.lit ((wrV t r).2.2.map Z6),.int .i64 0],QP st la b (wrV t r).1):=by
 refine Xw rfl (fun A hA'=>?_)
 obtain ⟨LB,hLB⟩:∃ LB:List Blk,LB=[.arr 7 0 [t.av],.arr 5 0 [Ro.zero.av],.arr 1 0 []]:=⟨_,rfl⟩;have hle:=hA.le
 have hla:la<A.length:=by rw [hA'];simp;omega
 have h3:LB.length=3:=by rw [hLB];rfl
 obtain ⟨L2,tx,ver,cs,its,F,keys,rx,ρ,hS,hB⟩:=Zh6 (L:=LB) (hA.push hA').r ho.nb ho.n16 (by have:=ho.nn;have:=ho.n16;omega) hv hb hn
 obtain ⟨ρ',hrun,hro⟩:=hB.pi.run ho hg hv hb hn
 generalize (wrV t r).1=r' at *
 generalize (wrV t r).2.2=hs at *
 generalize (wrV t r).2.1=ro at *
 have hcl:=hB.ps.cl.len
 have hk5:∀ k∈keys,5<=k:=fun k hk=>by have:=hB.klo k hk;omega
 have g1:L2[1]?=some (.arr 5 0 [Ro.zero.av]):=by rw [hB.old 1 (by omega),hLB];rfl
 have g2:L2[2]?=some (.arr 1 0 (([]:List Nat).map Z6)):=by rw [hB.old 2 (by omega),hLB];rfl
 have hps:=hB.ps;rw [h3] at hS hps;rw [hLB] at hS
 repeat' (first|refine ZE ?_|refine ZD ?_|refine ZF rfl ?_|refine Zs rfl rfl ?_|refine ZA rfl ?_|refine ZC ?_|(refine Zk rfl rfl (fun _=>?_) (fun _=>?_)<;>try (exfalso;omega))|refine ZH rfl ?_|refine Za rfl rfl rfl ?_|refine ZDY rfl ?_|refine ZP rfl rfl rfl (Zq _) ?_|refine Zw rfl (Z5 _) (QI _) ?_|refine ZB rfl rfl (by first|rfl|(simp only [lE,lN,lC,ZZ,ZW,ZX];first|done|rfl)) (hS) ?_|refine ZI ?_|refine ZL ?_)
 all_goals try contradiction
 have hAn:A.length=st.A.length+1:=by rw [hA'];simp
 have hhl:=hrun.len
 refine Z2 (α:=Bool × Nat × AR × (Nat->Ro) × List Blk) (fun p=>match p.1 with
  | true=>[(4,.ptr A.length 1 0 0 0),(5,.ref A.length 2 p.2.1 0 p.2.1),(6,.int .i64 0),(7,.ptr A.length 4 0 0 0),(18,.bool false)]
  | false=>[(4,.ptr A.length 1 0 0 0),(5,.ref A.length 2 p.2.1 0 p.2.1),(7,.ptr A.length 4 0 0 0)])
  (fun p=>⟨(QP st la b p.2.2.1).ps,false,p.2.2.2.2⟩)
  (fun p=>PenS ⟨(QP st la b p.2.2.1).ps,false,p.2.2.2.2⟩ A.length 4 tx ver la b cs its F keys rx p.2.2.2.1 p.2.1/\AROk p.2.2.1/\RunOk (its.drop p.2.1) p.2.2.1 p.2.2.2.1 r' ρ' (hs.drop p.2.1)/\p.2.1<=its.length/\p.2.2.2.2[1]?=some (.arr 5 0 [Ro.zero.av])/\p.2.2.2.2[2]?=some (.arr 1 p.2.1 ((hs.take p.2.1).map Z6)))
  (fun p=>its.length-p.2.1) (true,0,r,ρ,L2) rfl ?_ ?_ ?_
 ·simp only [hA.same,<- hA']
 ·simp only [hA.same,<- hA']
  exact ⟨hps,ho,hrun,Nat.zero_le _,g1,g2⟩
 rintro ⟨fst,j,rj,ρj,Lj⟩ ⟨q1,q2,q3,q4,q5,q6⟩
 simp only at q1 q2 q3 q4 q5 q6
 have hHj:Has ⟨(QP st la b rj).ps,false,Lj⟩ la b rj:=(hA.put rj).push rfl;obtain ⟨td,t1,t2⟩:=q1.pen
 have hAl:A.length=(QP st la b rj).ps.length:=by rw [hAn];simp [ZBl]
 rcases Nat.lt_or_ge j its.length with hlt|hge
 ·obtain ⟨it,hit⟩:∃ it,its[j]?=some it:=⟨its[j]'hlt,by simp [hlt]⟩
  have hd:its.drop j=it::its.drop (j+1):=by
   rw [List.drop_eq_getElem_cons hlt];rw [jE hlt] at hit;rw [Option.some.inj hit]
  rw [hd] at q3;obtain ⟨hs2,e1,hn1,hx1,hk1,hr1⟩:=q3.inv
  have hdj:hs[j]?=some rj.next:=by
   have:=List.getElem?_drop (xs:=hs) (i:=j) (j:=0)
   rw [e1] at this
   simpa using this.symm
  have hd2:hs.drop (j+1)=hs2:=by
   rw [<- List.drop_drop,e1];rfl
  obtain ⟨p1,p2,p3⟩:=q1.step hHj q2 hn1 hit hx1 hk1;rw [Zk6 hle rj _ hAn] at p1 p2
  have hjc:j<cs.length:=by rw [hcl];exact hlt
  have hne:cs≠[]:=fun q=>by rw [q] at hjc;simp at hjc
  rcases t2 with ⟨w,_⟩|⟨_,rfl,t3⟩
  ·exact absurd w hne
  obtain ⟨k1,_⟩:=q1.key it (jM hit);have hk5':=hk5 _ k1
  have hl4:Lj[4]?=some (.arr 3 0 [.agg [.ptr la (b+5) 0 0 0,.ref A.length tx ver j (cs.length-j),.ptr A.length rx 0 0 0]]):=by
   rw [hAl] at t1;rw [St.get_cur] at t1;rw [hAl];exact (ZBN t1).1
  obtain ⟨r2,hr2⟩:∃ r2,r2=rj.add (Q5 ρj it.c):=⟨_,rfl⟩;rw [<- hr2] at p1 p2 hr1
  have ho2:AROk r2:=by rw [hr2];exact q2.add hn1 _
  have hAl2:A.length=(QP st la b r2).ps.length:=by rw [hAn];simp [ZBl]
  obtain ⟨L3,hL3⟩:∃ L3,L3=(Lj.set it.rx (.arr 5 0 [((ρj it.rx).wr rj.next).av])).set 4 (.arr 3 0 [.agg [.ptr la (b+5) 0 0 0,.ref A.length tx ver (j+1) (cs.length-j-1),.ptr A.length rx 0 0 0]]):=⟨_,rfl⟩;rw [<- hL3] at p1 p2
  have h31:L3[1]?=some (.arr 5 0 [Ro.zero.av]):=by rw [hL3,jS (by omega),jS (by omega)];exact q5
  have h32:L3[2]?=some (.arr 1 j ((hs.take j).map Z6)):=by rw [hL3,jS (by omega),jS (by omega)];exact q6
  have hj2:j=((hs.take j).map Z6).length:=by simp;omega
  have hj3:∀ x:AV,((hs.take j).map Z6).length+[x].length<4294967296:=fun x=>by have:=q1.len;simp;omega
  have hinv:∀ L4,L4=L3.set 2 (.arr 1 (j+1) ((hs.take j).map Z6++[.int .u64 rj.next]))->PenS ⟨(QP st la b r2).ps,false,L4⟩ A.length 4 tx ver la b cs its F keys rx (ZND ρj it.rx rj.next) (j+1)/\AROk r2/\RunOk (its.drop (j+1)) r2 (ZND ρj it.rx rj.next) r' ρ' (hs.drop (j+1))/\j+1<=its.length/\L4[1]?=some (.arr 5 0 [Ro.zero.av])/\L4[2]?=some (.arr 1 (j+1) ((hs.take (j+1)).map Z6)):=by
   rintro L4 rfl
   refine ⟨?_,ho2,by rw [hd2];exact hr1,hlt,by rw [jS (by omega)];exact h31,?_⟩
   ·refine p2.frm hAl2 (fun i hi=>jS ?_)
    rcases hi with rfl|⟨hc,rfl⟩|q|⟨p,hp,rfl⟩
    ·omega
    ·have:=hB.tlo hc;omega
    ·have:=hk5 i q;omega
    ·have:=hB.flo p hp;omega
   ·rw [List.getElem?_set_self (List.getElem?_eq_some_iff.1 h32).1,Zg hdj,List.map_append];rfl
  obtain ⟨A2,hA2⟩:∃ A2,A2=(QP st la b r2).ps:=⟨_,rfl⟩;obtain ⟨A1,hA1⟩:∃ A1,A1=(QP st la b rj).ps:=⟨_,rfl⟩;rw [<- hA1] at p1 hAl ⊢;rw [<- hA2] at p1 hAl2;have hA12:A1.length=A2.length:=hAl.symm.trans hAl2;rw [hAl] at hl4 p1 hinv ⊢
  cases fst
  all_goals simp only
  all_goals repeat' (first|refine ZB rfl rfl rfl p1 ?_|refine ZE ?_|refine ZD ?_|refine ZF rfl ?_|refine ZQ rfl rfl ?_|refine Zs rfl rfl ?_|refine ZA rfl ?_|refine ZC ?_|refine Zz rfl rfl ?_|refine YB rfl ?_|(refine QR rfl rfl (fun _=>?_) (fun _=>?_)<;>try (exfalso;omega))|(refine Zk rfl rfl (fun _=>?_) (fun _=>?_)<;>try (exfalso;omega))|refine ZV rfl ?_|refine ZH rfl ?_|refine Qa rfl rfl rfl rfl ?_|refine ZP rfl hl4 rfl rfl ?_|refine ZI ?_|refine ZL ?_)
  all_goals try contradiction
  all_goals try (exfalso;omega)
  all_goals rw [hA12]
  all_goals repeat' (first|refine ZCC rfl rfl h32 hj2 rfl rfl (hj3 _) (by decide) ?_|refine ZF rfl ?_|refine ZA rfl ?_|refine Zy ?_|refine QH ?_)
  all_goals rw [hA12,hA2] at hinv
  all_goals rw [hA2]
  all_goals exact ⟨(false,j+1,r2,ZND ρj it.rx rj.next,_),⟨rfl,rfl⟩,hinv _ rfl,by simp only;omega⟩
 ·obtain rfl:j=its.length:=by omega
  rw [List.drop_length,<- hhl,List.drop_length] at q3;obtain ⟨_,rfl,rfl⟩:=q3.nil_inv;rw [<- hhl,List.take_length] at q6;have hRt:=ZoK q1 hcl.symm;rw [hro] at hRt;obtain ⟨A1,hA1⟩:∃ A1,A1=(QP st la b r').ps:=⟨_,rfl⟩;rw [<- hA1] at hRt hAl ⊢
  have hl4:∃ w,Lj[4]?=some (.arr 3 0 [.agg [.ptr la (b+5) 0 0 0,td,w]])/\(td=.nils\/∃ v,td=.ref A.length tx v its.length 0):=by
   rw [hAl,hA1,St.get_cur] at t1;refine ⟨_,(ZBN t1).1,?_⟩
   rcases t2 with ⟨_,w⟩|⟨_,w,_⟩
   ·exact .inl w
   ·refine .inr ⟨ver,?_⟩
    rw [w,hcl,Nat.sub_self]
  obtain ⟨w4,hl4,htd⟩:=hl4
  rw [<- hhl] at *
  have hl1:=(List.getElem?_eq_some_iff.1 q5).1;rw [hAl] at hRt htd ⊢
  rcases htd with rfl|⟨v,rfl⟩
  all_goals cases fst
  all_goals simp only
  all_goals repeat' (first|refine ZB rfl rfl rfl hRt ?_|refine ZE ?_|refine ZD ?_|refine ZF rfl ?_|refine ZQ rfl rfl ?_|refine Zs rfl rfl ?_|refine ZA rfl ?_|refine ZC ?_|refine Zz rfl rfl ?_|refine YB rfl ?_|refine YA rfl ?_|(refine QR rfl rfl (fun _=>?_) (fun _=>?_)<;>try (exfalso;omega))|refine ZH rfl ?_|refine ZP rfl hl4 rfl rfl ?_|refine Zu ?_|refine Ze ?_|refine Zb rfl ?_|refine Zt ?_)
  all_goals try (exfalso;omega)
  all_goals refine Qo q5 rfl rfl rfl rfl rfl ?_
  all_goals repeat' (first|refine ZE ?_|refine ZD ?_|refine ZF rfl ?_|refine ZA rfl ?_|refine ZC ?_|refine ZP rfl (List.getElem?_set_self hl1) rfl rfl ?_)
  all_goals refine Qo (List.getElem?_set_self hl1) rfl rfl rfl rfl rfl ?_
  all_goals rw [List.set_set]
  all_goals repeat' (first|refine ZF rfl ?_|refine ZA rfl ?_|refine ZC ?_|refine ZS ?_|refine ZO ?_)
  all_goals exact ZoN (ro:=ro) hA1 (.inr rfl) rfl (List.getElem?_set_self hl1) rfl ((jS (by omega)).trans q6) (by simp) rfl
def ZBa (N:ZJ) (o:Nat):Nd:=(lk N o).getD ⟨0,[],none⟩
theorem Xk {N:ZJ} {o:Nat} {x:Nd} (h:lk N o=some x):ZBa N o=x:=by unfold ZBa;rw [h];rfl
def ZAu (N:ZJ):Nat->Nat->List Nat
 | 0,o=>[o]
 | n+1,o=>o::(ZBa N o).ks.flatMap fun k=>ZAu N n k.at_
def ZjP (x:Nd):AV:=.agg [.int .i64 x.h,.str x.text,.lit (x.ks.map Kid.av),.int .i64 0]
theorem ZHw {s:St} {l i:Nat} {b:Blk} (h:s.get l i=some b) (more:List (Bool × List Blk)) (ro:Bool) (L:List Blk):St.get ⟨s.ps++more,ro,L⟩ l i=some b:=by
 have hl:=St.get_le h;have h1:=ZU (A:=s.ps) rfl (ro:=ro) (L:=L) h;unfold St.get at h1 ⊢
 have e1:l≠s.ps.length:=by simp;omega
 have e2:l≠(s.ps++more).length:=by simp;omega
 simp only [if_neg e1,if_neg e2] at h1 ⊢
 rw [jL (by simp;omega)]
 exact h1
theorem Rd.more {s:St} {lv ix:Nat} {N:ZJ} (h:Rd s lv ix N) (more:List (Bool × List Blk)) (ro:Bool) (L:List Blk):Rd ⟨s.ps++more,ro,L⟩ lv ix N:=by
 obtain ⟨a0,a1,im,a3,a4,a5,h1,h2⟩:=h;exact ⟨a0,a1,im,a3,a4,a5,ZHw h1 _ _ _,ZHw h2 _ _ _⟩
theorem Zh7 {N:ZJ} {h:Nat} {x:Nd} (hx:lk N h=some x) (hok:NdOk x) {n:Nat} (hh:x.h=n):ZAu N n h=h::x.ks.flatMap fun k=>ZAu N (n-1) k.at_:=by
 cases n with
 | zero =>
  have:x.ks=[]:=by
   rcases hok with q|⟨m,ks,q⟩
   ·exact q.ks
   ·have:=congrArg Nd.h q.eq;simp only at this;omega
  rw [this];rfl
 | succ n=>rw [ZAu,Xk hx];rfl
theorem Zk7 {N:ZJ} (hN:GoodN N):∀ (n h:Nat) (x:Nd),lk N h=some x->x.h=n->3*(ZAu N n h).length+1<=4 ^ (n+1):=by
 intro n
 induction n with
 | zero=>intro h x hx hh;simp [ZAu]
 | succ n ih =>
  intro h x hx hh;obtain ⟨hok,hk⟩:=hN h x hx;rw [ZAu,Xk hx,List.length_cons]
  have h6:4 ^ (n+1+1)=4*4 ^ (n+1):=by rw [Nat.pow_succ,Nat.mul_comm]
  rw [h6];clear h6
  have hP1:1<=4 ^ (n+1):=Nat.pow_pos (by decide)
  generalize 4 ^ (n+1)=P at *
  have key:∀ l:List Kid,(∀ k∈l,k∈x.ks)->3*(l.flatMap fun k=>ZAu N n k.at_).length+l.length<=l.length*P:=by
   intro l
   induction l with
   | nil=>intro _;simp
   | cons k l ih2 =>
    intro hm
    obtain ⟨_,y,y1,y2,_⟩:=hk k (hm k (by simp))
    have h1:=ih k.at_ y y1 (by omega)
    have h2:=ih2 fun q hq=>hm q (by simp [hq])
    rw [List.flatMap_cons,lL,List.length_cons,Nat.add_mul,Nat.one_mul];omega
  have h1:=key x.ks fun _ h=>h
  have h4:=hok.len;have h5:x.ks.length*P<=4*P:=Nat.mul_le_mul_right _ h4
  rcases hok with q|⟨m,ks,q⟩
  ·have:=q.h;omega
  ·have e:=q.eq
   have h7:=q.lo;subst e;simp only [Nd.ks,Option.getD_some] at h1 h4 h5 ⊢;have h8:(4-ks.length)*1<=(4-ks.length)*P:=Nat.mul_le_mul_left _ hP1
   have h9:ks.length*P+(4-ks.length)*P=4*P:=by rw [<- Nat.add_mul];congr 1;omega
   omega
structure NW (σ:List Nat->St) (lv:Nat) (caps:List AV) (la b:Nat) (more:List (Bool × List Blk)) (ro:Bool) (L:List Blk) (l1 i1 l2 i2 l3 i3:Nat):Prop where
 a:∀ v,St.get ⟨(σ v).ps++more,ro,L⟩ l1 i1=some (.arr 1 0 [.ptr la (b+5) 0 0 0])
 y:∀ v,St.get ⟨(σ v).ps++more,ro,L⟩ l2 i2=some (.arr 1 0 [.func (.yield lv) [] caps])
 w:∀ v,St.get ⟨(σ v).ps++more,ro,L⟩ l3 i3=some (.arr 1 0 [.func (.func YU) [] [.ptr l1 i1 0 0 0,.ptr l2 i2 0 0 0,.ptr l3 i3 0 0 0]])
theorem NW.push {σ:List Nat->St} {lv:Nat} {caps:List AV} {la b:Nat} {more:List (Bool × List Blk)} {ro:Bool} {L:List Blk} {l1 i1 l2 i2 l3 i3:Nat} (h:NW σ lv caps la b more ro L l1 i1 l2 i2 l3 i3) (L':List Blk):NW σ lv caps la b (more++[(ro,L)]) false L' l1 i1 l2 i2 l3 i3 :=
 ⟨fun v=>ZU (st:=⟨(σ v).ps++more,ro,L⟩) (by rw [<- List.append_assoc]) (h.a v),fun v=>ZU (st:=⟨(σ v).ps++more,ro,L⟩) (by rw [<- List.append_assoc]) (h.y v),fun v=>ZU (st:=⟨(σ v).ps++more,ro,L⟩) (by rw [<- List.append_assoc]) (h.w v)⟩
theorem ZoO {TY:Tab} (hT:TLe Tb TY) {σ:List Nat->St} {N:ZJ} (hN:GoodN N) {la b lv:Nat} {caps:List AV} (hcw:ZZ caps=caps) (hRd:∀ v,Rd (σ v) la (b+5) N) (hlen:∀ v,(σ v).A.length=(σ []).A.length)
 {B:Nat} (hy:∀ v h x more ro L,v.length<B->lk N h=some x->S TY (yB+lv) (.int .u64 (h:Nat)::ZjP x::caps) ⟨(σ v).ps++more,ro,L⟩=some (.bool true,⟨(σ (v++[h])).ps++more,ro,L⟩)) :
 ∀ n h x,lk N h=some x->x.h=n->∀ v more ro L l1 i1 l2 i2 l3 i3,v.length+(ZAu N n h).length<=B->NW σ lv caps la b more ro L l1 i1 l2 i2 l3 i3 ->
  S TY YU [.int .u64 (h:Nat),.ptr l1 i1 0 0 0,.ptr l2 i2 0 0 0,.ptr l3 i3 0 0 0] ⟨(σ v).ps++more,ro,L⟩=some (.bool true,⟨(σ (v++ZAu N n h)).ps++more,ro,L⟩):=by
 intro n
 induction n using Nat.strongRecOn with
 | ind n ih =>
  intro h x hx hh v more ro L l1 i1 l2 i2 l3 i3 hB hw;have hok:=(hN h x hx).1;rw [Zh7 hx hok hh,List.length_cons] at hB;have hkids:=(hN h x hx).2;have hk4:=hok.len
  refine Xw (hT _ _ rfl) (fun A hA=>?_)
  have hA2:A=(σ v).ps++(more++[(ro,L)]):=by rw [hA,List.append_assoc]
  clear hA;subst hA2
  have hw2:=fun L'=>hw.push L'
  have hG:∀ v' L',S TY QN [.ptr la (b+5) 0 0 0,.int .u64 h] ⟨(σ v').ps++(more++[(ro,L)]),false,L'⟩=some (.tup [.agg [.int .i64 x.h,.str x.text,.lit (x.ks.map Kid.av)],.int .i64 0],⟨(σ v').ps++(more++[(ro,L)]),false,L'⟩):=fun v' L'=>Ze9 hT _ _ _ _ (ZXu ((hRd v').more _ _ _) hx hk4)
  have hY:=fun L'=>hy v h x (more++[(ro,L)]) false L' (by omega) hx
  unfold ZjP at hY
  have hwk:ZZ ([AV.int .u64 h,.agg [.int .i64 x.h,.str x.text,.lit (x.ks.map Kid.av),.int .i64 0]]++caps)=.int .u64 h::.agg [.int .i64 x.h,.str x.text,.lit (x.ks.map Kid.av),.int .i64 0]::caps:=by
   simp only [lC,lE,ZZ,weak,hcw]
  repeat' (first|refine Zkg rfl rfl hwk (hY _) ?_|refine ZE ?_|refine ZD ?_|refine ZF rfl ?_|refine ZQ rfl rfl ?_|refine ZP rfl rfl rfl rfl ?_|refine QE rfl ?_|refine Zo rfl rfl rfl rfl ?_|refine Zs rfl rfl ?_|refine ZA rfl ?_|refine ZC ?_|(refine Zk rfl rfl (fun _=>?_) (fun _=>?_)<;>try (exfalso;omega))|refine ZH rfl ?_|refine Jc rfl rfl ?_|refine Zn rfl rfl rfl ?_|refine Za rfl rfl rfl ?_|refine Zl rfl rfl rfl rfl rfl rfl ?_|refine Z9 rfl ((hw2 _).a v) rfl rfl ?_|refine Z9 rfl ((hw2 _).y v) rfl rfl ?_|refine ZB rfl rfl rfl (hG _ _) ?_|refine ZI ?_)
  all_goals try contradiction
  have hl2:∀ v v',((σ v).ps++(more++[(ro,L)])).length=((σ v').ps++(more++[(ro,L)])).length:=fun v v'=>by
   simp only [lL];rw [hlen v,hlen v'];rfl
  rw [hl2 v (v++[h])];rw [Zh7 hx hok hh]
  repeat' (first|refine ZF rfl ?_|refine ZP rfl rfl rfl rfl ?_|refine ZA rfl ?_|refine ZC ?_|refine QU rfl ?_|refine ZL ?_)
  refine Z2 (α:=Nat × List Blk) (fun p=>[(3,.ptr l3 i3 0 0 0),(28,.lit (x.ks.map Kid.av)),(29,.int .i64 x.ks.length),(30,.int .i64 p.1)])
   (fun p=>⟨(σ (v++h::(x.ks.take p.1).flatMap fun k=>ZAu N (n-1) k.at_)).ps++(more++[(ro,L)]),false,.arr 3 0 [.agg [.int .i64 x.h,.str x.text,.lit (x.ks.map Kid.av)]]::p.2⟩) (fun p=>p.1<=x.ks.length) (fun p=>x.ks.length-p.1) (0,[]) rfl rfl (Nat.zero_le _) ?_
  rintro ⟨i,G⟩ hi
  simp only at hi ⊢
  rcases Nat.lt_or_ge i x.ks.length with hlt|hge
  ·obtain ⟨kd,hk'⟩:∃ k,x.ks[i]?=some k:=⟨x.ks[i]'(by omega),by simp [hlt]⟩
   obtain ⟨_,y,y1,y2,y3⟩:=hkids kd (jM hk')
   have hk1:0<=((i:Nat):Int)/\x.ks[((i:Nat):Int).toNat]?=some kd:=⟨by omega,by rw [show ((i:Nat):Int).toNat=i by omega];exact hk'⟩
   have ihk:=fun v' L' hb=>ih y.h (by omega) kd.at_ y y1 rfl v' _ _ L' l1 i1 l2 i2 l3 i3 hb (hw2 L')
   have hfin:(v++h::(x.ks.take i).flatMap fun k=>ZAu N (n-1) k.at_)++ZAu N y.h kd.at_=v++h::(x.ks.take (i+1)).flatMap fun k=>ZAu N (n-1) k.at_:=by
    rw [Zg hk',List.flatMap_append,List.append_assoc,show n-1=y.h by omega]
    simp
   obtain ⟨v1,hv1⟩:∃ v1,v1=v++h::(x.ks.take i).flatMap fun k=>ZAu N (n-1) k.at_:=⟨_,rfl⟩
   rw [<- hv1] at hfin ⊢
   have hb1:v1.length+(ZAu N y.h kd.at_).length<=B:=by
    rw [<- lL,hfin,lL,List.length_cons]
    have h1:(x.ks.flatMap fun k=>ZAu N (n-1) k.at_)=(x.ks.take (i+1)).flatMap (fun k=>ZAu N (n-1) k.at_)++(x.ks.drop (i+1)).flatMap (fun k=>ZAu N (n-1) k.at_):=by
     rw [<- List.flatMap_append,List.take_append_drop]
    have h2:=congrArg List.length h1;rw [lL] at h2;omega
   repeat' (first|refine YE rfl rfl hk1 (fun _=>rfl) ?_|refine ZB rfl rfl rfl (ihk v1 _ hb1) ?_|refine ZE ?_|refine ZD ?_|refine ZF rfl ?_|refine ZQ rfl rfl ?_|refine ZA rfl ?_|refine ZC ?_|refine JF rfl rfl rfl ?_|refine QM rfl rfl ?_|(refine Zh rfl rfl (fun _=>?_) (fun _=>?_)<;>try (exfalso;omega))|refine ZV rfl ?_|refine ZH rfl ?_|refine Jc rfl rfl ?_|refine Zm rfl rfl (by omega) ?_|refine Zw rfl rfl rfl ?_|refine Yf rfl rfl rfl rfl rfl rfl ?_|refine Z9 rfl ((hw2 _).w v1) rfl rfl ?_|refine ZI ?_|refine ZL ?_|refine Zy ?_|refine QH ?_)
   refine ⟨(i+1,G++[Blk.arr 4 0 [kd.av]]),⟨rfl,?_⟩,by simp only;omega,by simp only;omega⟩
   rw [hfin];rfl
  ·obtain rfl:i=x.ks.length:=by omega
   rw [List.take_length]
   repeat' (first|refine ZE ?_|refine ZD ?_|refine ZF rfl ?_|refine ZA rfl ?_|refine ZC ?_|(refine Zh rfl rfl (fun _=>?_) (fun _=>?_)<;>try (exfalso;omega))|refine ZH rfl ?_|refine ZS ?_|refine Zu ?_|refine ZO ?_|refine Ze ?_|refine Zb rfl ?_|refine Zt ?_)
   all_goals try (exfalso;omega)
   refine Zj (st:=⟨(σ _).ps++more,ro,L⟩) (by rw [<- List.append_assoc]) (.inr rfl) rfl rfl rfl rfl ?_
   rfl
theorem ZHx:∀ {l:List (FuncId × Ent)},(l.all fun p=>decide (p.1<yB))=true->∀ f x,ZAX l f=some x->f<yB
 | [],_,f,x,h=>by simp [ZAX] at h
 | p::l,ha,f,x,h=>by
  simp only [List.all_cons,Bool.and_eq_true,decide_eq_true_eq] at ha;simp only [ZAX] at h
  split at h
  ·rename_i e;rw [<- e];exact ha.1
  ·exact ZHx ha.2 f x h
theorem Zk8:∀ f x,Tb f=some x->f<yB:=ZHx (l:=tl) (by decide +kernel)
def RtOk (N:ZJ) (r:Ro):Prop:=r=.zero\/(r.at_≠0/\∃ x,lk N r.at_=some x/\NdOk x/\x.h=r.h/\x.mea=r.m)
def Qx (N:ZJ) (r:Ro):List Nat:=if r.at_=0 then [] else ZAu N r.h r.at_
theorem RtOk.h13 {N:ZJ} (hN:GoodN N) {r:Ro} (hr:RtOk N r):r.h<=13:=by
 rcases hr with rfl|⟨h0,x,h1,h2,h3,h4⟩
 ·decide
 ·have hv:Val N (.keep r):=.kept h0 h1 h2 h3 h4 rfl
  have hb:(Tr.keep r).bytes=r.m.b:=by simp [Tr.keep,Tr.bytes,Tr.bytesO]
  have:=h2.mea_pos
  exact hv.height hN (by rw [hb,<- h4];omega)
theorem ZDC {N:ZJ} (hN:GoodN N) {r:Ro} (hr:RtOk N r):(Qx N r).length<100000000:=by
 have h13:=hr.h13 hN;unfold Qx
 split
 ·simp
 ·rename_i q
  rcases hr with rfl|⟨h0,x,h1,h2,h3,h4⟩
  ·exact absurd rfl q
  ·have:=Zk7 hN r.h r.at_ x h1 h3
   have h5:4 ^ (r.h+1)<=4 ^ 14:=Nat.pow_le_pow_right (by decide) (by omega)
   have h6:(4:Nat) ^ 14=268435456:=by decide
   omega
def YW (r:Ro):Tr:=if r.at_=0 then .zero else .keep r
theorem ZNF {st:St} {lv ix:Nat} {N:ZJ} (hr:Rd st lv ix N) {r:Ro} (h:RtOk N r):S Tb Ya [.ptr lv ix 0 0 0,r.av] st=some (.tup [(YW r).av,.int .i64 0],st):=by
 unfold YW
 rcases h with rfl|⟨h0,x,h1,h2,h3,h4⟩
 ·rw [if_pos (by rfl)];exact Zi4
 ·rw [if_neg h0];exact Zn9 hr h1 h2 h0 h3 h4
theorem Zh8 {A:List (Bool × List Blk)} {L:List Blk} {la b:Nat} {r:Ro}:S Tb ZBz [.ptr la (b+5) 0 0 0,r.av] ⟨A,false,L⟩=some (.func (.func JO) [] [.ptr A.length L.length 0 0 0,.ptr A.length (L.length+1) 0 0 0],⟨A,false,L++[.arr 1 0 [.ptr la (b+5) 0 0 0],.arr 5 0 [r.av]]⟩):=by
 refine ZBh rfl ?_
 have e0:(⟨A,false,L⟩:St)=⟨A,false,L++[]⟩:=by rw [lN]
 rw [e0];unfold Ro.av
 repeat' (first|refine ZAq rfl rfl rfl rfl rfl ?_|refine ZE ?_|refine ZD ?_|refine ZF rfl ?_|refine ZA rfl ?_|refine ZC ?_|refine ZBA rfl rfl ?_|refine ZS ?_|refine ZO ?_)
 refine (Xs (.inr rfl) rfl rfl rfl rfl).trans ?_;rfl
theorem Zfc {b a1 a2 a3 x1 x2 x3:Nat} {f:FuncId} (st:St) (h1:a1<b) (h2:a2<b) (h3:a3<b):ZY QD b st (.func (.func f) [] [.ptr a1 x1 0 0 0,.ptr a2 x2 0 0 0,.ptr a3 x3 0 0 0])=some (.func (.func f) [] [.ptr a1 x1 0 0 0,.ptr a2 x2 0 0 0,.ptr a3 x3 0 0 0],st):=by
 simp only [ZY,QD,Zdy,if_true,mapSt,oS,if_pos h1,if_pos h2,if_pos h3,Xl]
theorem Znl {TY:Tab} (hT:TLe Tb TY) {σ:List Nat->St} {N:ZJ} (hN:GoodN N) {la b lv:Nat} {caps:List AV} (hcw:ZZ caps=caps) (hRd:∀ v,Rd (σ v) la (b+5) N) (hlen:∀ v,(σ v).A.length=(σ []).A.length)
 {B:Nat} (hy:∀ v h x more ro L,v.length<B->lk N h=some x->S TY (yB+lv) (.int .u64 (h:Nat)::ZjP x::caps) ⟨(σ v).ps++more,ro,L⟩=some (.bool true,⟨(σ (v++[h])).ps++more,ro,L⟩))
 {r:Ro} (hr:RtOk N r) (hB:(Qx N r).length<=B) {l1 i1 l4 i4:Nat} (ha:∀ v,(σ v).get l1 i1=some (.arr 1 0 [.ptr la (b+5) 0 0 0])) (hro:∀ v,(σ v).get l4 i4=some (.arr 5 0 [r.av])) :
 S TY JO [.func (.yield lv) [] caps,.ptr l1 i1 0 0 0,.ptr l4 i4 0 0 0] ⟨(σ []).ps,false,[]⟩=some (.tup [],⟨(σ (Qx N r)).ps,false,[]⟩):=by
 refine Xw (hT _ _ rfl) (fun A hA=>?_)
 have hA0:A=(σ []).ps++[(false,[])]:=hA
 have g4:∀ L,St.get ⟨A,false,L⟩ l4 i4=some (.arr 5 0 [r.av]):=fun L=>by rw [hA0];exact ZHw (hro []) _ _ _
 have l1l:l1<A.length+1:=by have:=St.get_le (ha []);rw [hA0];simp;omega
 unfold Ro.av at g4
 have hNW:∀ yv wv,yv=Blk.arr 1 0 [.func (.yield lv) [] caps]->wv=Blk.arr 1 0 [.func (.func YU) [] [.ptr l1 i1 0 0 0,.ptr A.length 0 0 0 0,.ptr A.length 1 0 0 0]]->NW σ lv caps la b [(false,[])] false [yv,wv] l1 i1 A.length 0 A.length 1:=by
  rintro yv wv rfl rfl
  have hl:∀ v,A.length=((σ v).ps++[(false,([]:List Blk))]).length:=fun v=>by rw [hA0];simp [hlen v]
  refine ⟨fun v=>ZHw (ha v) _ _ _,fun v=>?_,fun v=>?_⟩
  ·rw [hl v,St.get_cur];rfl
  ·rw [hl v,St.get_cur];rfl
 by_cases h0:r.at_=0
 ·have e:Qx N r=[]:=by unfold Qx;rw [if_pos h0]
  rw [e]
  repeat' (first|refine ZE ?_|refine ZD ?_|refine ZQ rfl rfl ?_|refine ZA rfl ?_|refine ZC ?_|(refine Zk rfl rfl (fun _=>?_) (fun _=>?_)<;>try (exfalso;omega))|refine ZH rfl ?_|refine ZBA rfl rfl ?_|refine Za rfl rfl rfl ?_|refine Zl rfl rfl rfl (Zfc _ l1l (Nat.lt_succ_self _) (Nat.lt_succ_self _)) rfl rfl ?_|refine Z9 rfl (g4 _) rfl rfl ?_|refine ZI ?_|refine ZO ?_)
  all_goals try (exfalso;omega)
  refine Zj hA (.inl rfl) rfl rfl rfl rfl ?_;rfl
 ·have e:Qx N r=ZAu N r.h r.at_:=by unfold Qx;rw [if_neg h0]
  rw [e] at hB ⊢
  obtain ⟨x,h1,h2,h3,h4⟩:∃ x,lk N r.at_=some x/\NdOk x/\x.h=r.h/\x.mea=r.m:=by
   rcases hr with rfl|q
   ·exact absurd rfl h0
   ·exact q.2
  have hW:=ZoO hT hN hcw hRd hlen hy r.h r.at_ x h1 h3 [] [(false,[])] false _ l1 i1 A.length 0 A.length 1 (by simpa using hB) (hNW _ _ rfl rfl)
  rw [<- hA0,lE] at hW
  repeat' (first|refine ZB rfl rfl rfl hW ?_|refine ZE ?_|refine ZD ?_|refine ZQ rfl rfl ?_|refine ZP rfl rfl rfl rfl ?_|refine ZA rfl ?_|refine ZC ?_|(refine Zk rfl rfl (fun _=>?_) (fun _=>?_)<;>try (exfalso;omega))|refine ZV rfl ?_|refine ZBA rfl rfl ?_|refine Za rfl rfl rfl ?_|refine Zl rfl rfl rfl (Zfc _ l1l (Nat.lt_succ_self _) (Nat.lt_succ_self _)) rfl rfl ?_|refine Z9 rfl (g4 _) rfl rfl ?_|refine ZO ?_)
  all_goals try (exfalso;omega)
  refine Zj (st:=⟨(σ _).ps,false,[]⟩) rfl (.inl rfl) rfl rfl rfl rfl ?_;rfl
noncomputable def t1:List (FuncId × Ent):=(ZAf,.base (rfO Tb p_rope_Check))::tl
noncomputable def T1:Tab:=ZAX t1
theorem le1:TLe Tb T1:=fun g y hg=>by
 unfold T1 t1;simp only [ZAX];rw [if_neg]
 ·exact hg
 ·intro e;subst e
  have:ZAX tl ZAf=none:=by decide +kernel
  unfold Tb at hg;rw [this] at hg;simp at hg
theorem Zdq {st:St} {la b:Nat} {N:ZJ} (hN:GoodN N) (hR:Rd st la (b+5) N) {r:Ro} (hr:RtOk N r):S T1 ZAf [.ptr la (b+5) 0 0 0,r.av] st=some (.int .i64 0,st):=by
 refine s_rf (rf:=p_rope_Check) rfl (fun A hA=>?_)
 have hK:=fun L=>ZNF (hR.push hA (ro:=false) (L:=L)) hr
 have hNd:=fun L=>Zh8 (A:=A) (L:=L) (la:=la) (b:=b) (r:=r)
 obtain ⟨LF,hLF⟩:∃ LF:List Blk,LF=[.arr 5 0 [r.av],.arr 7 0 [(YW r).av],.arr 1 0 [.int .i64 0],.arr 1 0 [.ptr la (b+5) 0 0 0],.arr 5 0 [r.av]]:=⟨_,rfl⟩
 have hseq:=fun (caps:List AV) (hcw:ZZ caps=caps) (o:List AV->St->Option (AV × St)) hy=>Znl (TY:=ZQ7 Tb (A.length+1) o) (Zhq Zk8 _ _) (σ:=fun _=>⟨A,false,LF⟩) hN (lv:=A.length+1) (caps:=caps) hcw (fun _=>hR.push hA) (fun _=>rfl) (B:=(Qx N r).length) hy hr (Nat.le_refl _) (l1:=A.length) (i1:=3) (l4:=A.length) (i4:=4) (fun _=>by rw [St.get_cur,hLF];rfl) (fun _=>by rw [St.get_cur,hLF];rfl)
 unfold Ro.av at *
 repeat' (first|refine ZE ?_|refine ZD ?_|refine ZF rfl ?_|refine ZP rfl rfl rfl rfl ?_|refine Zs rfl rfl ?_|refine ZA rfl ?_|refine ZC ?_|(refine Zk rfl rfl (fun _=>?_) (fun _=>?_)<;>try (exfalso;omega))|refine ZH rfl ?_|refine Za rfl rfl rfl ?_|refine Zl rfl rfl rfl rfl rfl rfl ?_|refine Zl rfl rfl rfl (Z8 _ _ _) (QY _ _) rfl ?_|refine ZB rfl rfl (by first|rfl|(simp only [lE,lN,lC,ZZ,ZW,ZX];first|done|rfl)) (hK _) ?_|refine ZB rfl rfl (by first|rfl|(simp only [lE,lN,lC,ZZ,ZW,ZX];first|done|rfl)) (hNd _) ?_|refine ZI ?_|refine ZO ?_)
 all_goals try contradiction
 have hS:=hseq (ZIt 30 [(7,.ptr A.length 2 0 0 0),(21,.func (.func JO) [] [.ptr A.length 3 0 0 0,.ptr A.length 4 0 0 0]),(23,.any)]) rfl (ZA9 (S Tb) itS p_rope_Check.nt p_rope_Check.rng) (fun v h x more ro L _ hx=>Zhr _ _ _ _ _ (ZfB rfl (fun A' hA'=>by
  unfold ZjP
  repeat' (first|refine ZD ?_|refine ZA rfl ?_|refine Za rfl rfl rfl ?_|refine Zl rfl rfl rfl rfl rfl rfl ?_|refine ZO ?_)
  all_goals try (exfalso;omega)
  refine ⟨rfl,?_⟩
  repeat' (first|refine ZE ?_|refine ZD ?_|refine ZQ rfl rfl ?_|refine ZP rfl rfl rfl rfl ?_|refine ZA rfl ?_|refine ZC ?_|(refine Zk rfl rfl (fun _=>?_) (fun _=>?_)<;>try (exfalso;omega))|refine ZH rfl ?_|refine ZI ?_|refine ZL ?_|refine ZO ?_|refine Zy ?_)
  all_goals try contradiction
  exact ⟨rfl,hA'⟩)))
 rw [hLF] at hS
 refine .inr ⟨rfl,_,Zkh (g:=JO) rfl (by decide) hS,?_⟩
 repeat' (first|refine ZE ?_|refine ZD ?_|refine ZF rfl ?_|refine ZP rfl rfl rfl rfl ?_|refine ZA rfl ?_|refine ZC ?_|refine ZI ?_|refine ZS ?_|refine ZO ?_)
 refine Zj hA (by first|exact .inl rfl|exact .inr rfl) rfl rfl rfl rfl ?_
 rfl
theorem Zk9:∀ f x,T1 f=some x->f<yB:=ZHx (l:=t1) (by decide +kernel)
noncomputable def t3:List (FuncId × Ent):=(ZFT,.base (rfO T1 p_rope_Nodes))::t1
noncomputable def T3:Tab:=ZAX t3
theorem ZYG {l:List (FuncId × Ent)} {f:FuncId} {x:Ent} (h:ZAX l f=none):TLe (ZAX l) (ZAX ((f,x)::l)):=fun g y hg=>by
 simp only [ZAX];rw [if_neg]
 ·exact hg
 ·intro e;subst e;rw [h] at hg;simp at hg
theorem le13:TLe T1 T3:=fun g y hg=>ZYG (l:=t1) (by decide +kernel) g y hg
theorem le3:TLe Tb T3:=fun g y hg=>le13 g y (le1 g y hg)
theorem up3 {f:FuncId} {args:List AV} {st:St} {r:AV × St} (h:S Tb f args st=some r):S T3 f args st=some r:=Ze9 le3 _ _ _ _ h
theorem up1 {f:FuncId} {args:List AV} {st:St} {r:AV × St} (h:S Tb f args st=some r):S T1 f args st=some r:=Ze9 le1 _ _ _ _ h
theorem up13 {f:FuncId} {args:List AV} {st:St} {r:AV × St} (h:S T1 f args st=some r):S T3 f args st=some r:=Ze9 le13 _ _ _ _ h
def JU (w:List Nat) (h:Nat):List Nat:=if h∈w then w else w++[h]
def YF (v:List Nat):List Nat:=v.foldl JU []
theorem Zg8 (v:List Nat) (h:Nat):YF (v++[h])=JU (YF v) h:=by unfold YF;rw [List.foldl_append];rfl
theorem ZjQ {w:List Nat} {h x:Nat}:x∈JU w h↔x∈w\/x=h:=by
 unfold JU
 split
 ·rename_i q;exact ⟨.inl,fun p=>p.elim id fun e=>e▸q⟩
 ·simp
theorem ZDD:∀ v:List Nat,(YF v).Nodup/\(∀ x,x∈YF v↔x∈v)/\(YF v).length<=v.length:=by
 intro v
 have key:∀ (v w:List Nat),w.Nodup->(v.foldl JU w).Nodup/\(∀ x,x∈v.foldl JU w↔x∈w\/x∈v)/\(v.foldl JU w).length<=w.length+v.length:=by
  intro v
  induction v with
  | nil=>intro w h;exact ⟨h,by simp,by simp⟩
  | cons a v ih =>
   intro w h
   have h1:(JU w a).Nodup:=by
    unfold JU;split
    ·exact h
    ·rename_i q
     rw [List.nodup_append]
     refine ⟨h,by simp,fun x hx y hy=>?_⟩
     rw [List.mem_singleton] at hy;intro e;rw [e,hy] at hx;exact q hx
   obtain ⟨i1,i2,i3⟩:=ih (JU w a) h1
   refine ⟨i1,fun x=>?_,?_⟩
   ·rw [List.foldl_cons,i2,ZjQ,List.mem_cons,or_assoc]
   ·have:(JU w a).length<=w.length+1:=by unfold JU;split<;>simp
    rw [List.foldl_cons,List.length_cons];omega
 have:=key v [] List.nodup_nil
 exact ⟨this.1,fun x=>by have h:=this.2.1 x;simpa [YF] using h,by have h:=this.2.2;simpa [YF] using h⟩
def ndL (A:List (Bool × List Blk)) (la b:Nat) (r:Ro) (w:List Nat):List Blk:=[.arr 5 0 [r.av],.arr 1 w.length (w.map Z6),.arr 1 0 [.ref A.length 1 w.length 0 w.length],.map (YI w),.arr 1 0 [.map A.length 3],.arr 1 0 [.ptr la (b+5) 0 0 0],.arr 5 0 [r.av]]
def ndF (A:List (Bool × List Blk)) (la b:Nat) (r:Ro) (v:List Nat):St:=⟨A,false,ndL A la b r (YF v)⟩
def ndK (A:List (Bool × List Blk)):List (Nat × Nat):=[(A.length,1),(A.length,2),(A.length,3)]
def ndB (A:List (Bool × List Blk)) (w:List Nat):List Blk:=[.arr 1 w.length (w.map Z6),.arr 1 0 [.ref A.length 1 w.length 0 w.length],.map (YI w)]
theorem Zo5 (A:List (Bool × List Blk)) (la b:Nat) (r:Ro) (w:List Nat):Cl ⟨A,false,ndL A la b r w⟩ (ndK A) (ndB A w):=by
 refine ⟨by simp [ndK],rfl,fun k hk=>?_,fun j lv ix b h1 h2=>?_⟩
 ·simp only [ndK,List.mem_cons,List.not_mem_nil,or_false] at hk
  rcases hk with rfl|rfl|rfl<;>simp [St.wr]
 ·match j,h1,h2 with
  | 0,h1,h2=>obtain ⟨rfl,rfl⟩:=Prod.mk.inj (Option.some.inj h1);obtain rfl:=Option.some.inj h2;exact St.get_cur ..
  | 1,h1,h2=>obtain ⟨rfl,rfl⟩:=Prod.mk.inj (Option.some.inj h1);obtain rfl:=Option.some.inj h2;exact St.get_cur ..
  | 2,h1,h2=>obtain ⟨rfl,rfl⟩:=Prod.mk.inj (Option.some.inj h1);obtain rfl:=Option.some.inj h2;exact St.get_cur ..
  | n+3,h1,h2=>simp [ndK] at h1
theorem ZoP (A:List (Bool × List Blk)) (la b:Nat) (r:Ro) (w u:List Nat):Ql ⟨A,false,ndL A la b r w⟩ (ndK A) (ndB A u)=⟨A,false,ndL A la b r u⟩:=by
 simp [Ql,St.upd,ndL,ndK,ndB]
theorem ZlA {N:ZJ} {A:List (Bool × List Blk)} {la b:Nat} {r:Ro} {caps:List AV} (hc7:∃ rest,caps=.any::.any::.any::.any::.any::.any::.any::.ptr A.length 2 0 0 0::.ptr A.length 4 0 0 0::rest/\rest.length=24) (v:List Nat) (hlim:(YF v).length<4000000000) (h:Nat) (x:Nd) (more:List (Bool × List Blk)) (ro:Bool) (L:List Blk) (hx:lk N h=some x) :
 ZA9 (S T1) itS p_rope_Nodes.nt p_rope_Nodes.rng (.int .u64 (h:Nat)::ZjP x::caps) ⟨(ndF A la b r v).ps++more,ro,L⟩=some (.bool true,⟨(ndF A la b r (v++[h])).ps++more,ro,L⟩):=by
 obtain ⟨rest,rfl,hrl⟩:=hc7;unfold ndF;rw [Zg8]
 generalize YF v=w at *
 have hwl:(w.map Z6).length=w.length:=List.length_map ..
 have H:=(Zo5 A la b r w).more more ro L
 refine ZfB (by simp [hrl];rfl) (fun A' hA'=>?_)
 rw [<- H.same] at hA'
 have g2:=fun L'=>H.old hA' rfl rfl (ro:=false) (L:=L') (j:=1) rfl rfl
 have g3:=fun L'=>H.old hA' rfl rfl (ro:=false) (L:=L') (j:=2) rfl rfl
 have g4:∀ L',St.get ⟨A',false,L'⟩ A.length 4=some (.arr 1 0 [.map A.length 3]):=fun L'=>by
  rw [hA',H.same];exact ZU rfl (ZHw (s:=⟨A,false,ndL A la b r w⟩) (St.get_cur ..) more ro L)
 have hlk:=fun L'=>ZF9 (g3 L') h
 unfold ZjP
 by_cases hm:h∈w
 ·simp only [decide_eq_true hm] at hlk
  repeat' (first|refine ZD ?_|refine ZF rfl ?_|refine ZA rfl ?_|refine ZO ?_)
  refine ⟨rfl,?_⟩
  repeat' (first|refine ZE ?_|refine ZD ?_|refine ZF rfl ?_|refine ZA rfl ?_|refine ZC ?_|refine ZH rfl ?_|refine Jc rfl rfl ?_|refine Z9 rfl (g4 _) rfl rfl ?_|refine Ye rfl rfl (hlk _) ?_|refine ZI ?_|refine ZL ?_|refine ZO ?_|refine Zy ?_)
  all_goals try contradiction
  refine ⟨rfl,hA'.trans ?_⟩;rw [H.same];unfold JU;rw [if_pos hm]
 ·simp only [decide_eq_false hm] at hlk
  repeat' (first|refine ZD ?_|refine ZF rfl ?_|refine ZA rfl ?_|refine ZO ?_)
  refine ⟨rfl,?_⟩
  repeat' (first|refine ZE ?_|refine ZD ?_|refine ZF rfl ?_|refine ZA rfl ?_|refine ZC ?_|refine ZV rfl ?_|refine Jc rfl rfl ?_|refine Z9 rfl (g4 _) rfl rfl ?_|refine Ye rfl rfl (hlk _) ?_|refine ZL ?_)
  all_goals try contradiction
  refine Zke H hA' rfl rfl (j:=2) rfl rfl rfl rfl rfl rfl rfl (ZNE h w hm) (fun A2 hA2 hl2=>?_)
  have k2:=fun L'=>H.old hA2 rfl rfl (ro:=false) (L:=L') (j:=1) rfl rfl
  repeat' (first|refine Z9 rfl (k2 _) rfl rfl ?_|refine ZD ?_|refine ZF rfl ?_|refine ZA rfl ?_|refine ZC ?_|refine Qa rfl rfl rfl rfl ?_)
  refine Zhm (es:=w.map Z6) (ys:=[.int .u64 h]) H hA2 rfl rfl (j:=0) rfl rfl (by rw [hwl];rfl) rfl rfl rfl rfl (by rw [hwl,List.length_singleton];omega) (by decide) (fun A3 hA3 hl3=>?_)
  refine ZQB H hA3 rfl rfl (j:=1) rfl rfl rfl rfl rfl (Jr _ (Nat.lt_succ_self _)) rfl (fun A4 hA4 hl4=>?_)
  repeat' (first|refine ZA rfl ?_|refine ZO ?_|refine Zy ?_)
  refine ⟨rfl,hA4.trans ?_⟩;have e:=ZoP A la b r w (w++[h]);unfold JU;rw [if_neg hm,<- e]
  rw [<- ZQD (fun k hk=>by simp only [ndK,List.mem_cons,List.not_mem_nil,or_false] at hk;rcases hk with rfl|rfl|rfl<;>exact Nat.le_refl _)]
  simp only [ndB,lL,List.length_singleton,List.length_map,List.map_append];rfl
theorem Zh9 {st:St} {la b:Nat} {N:ZJ} (hN:GoodN N) (hR:Rd st la (b+5) N) {r:Ro} (hr:RtOk N r):S T3 ZFT [.ptr la (b+5) 0 0 0,r.av] st=some (.tup [.lit ((YF (Qx N r)).map Z6),.int .i64 0],st):=by
 refine s_rf (rf:=p_rope_Nodes) rfl (fun A hA=>?_)
 have hK:=fun L=>Zdq hN (hR.push hA (ro:=false) (L:=L)) hr
 have hNd:=fun L=>up1 (Zh8 (A:=A) (L:=L) (la:=la) (b:=b) (r:=r))
 have hlen:=ZDC hN hr
 have hseq:=fun (caps:List AV) (hcw:ZZ caps=caps) (o:List AV->St->Option (AV × St)) hy=>Znl (TY:=ZQ7 T1 (A.length+1) o) (fun g y hg=>Zhq Zk9 _ _ g y (le1 g y hg)) (σ:=ndF A la b r) hN (lv:=A.length+1) (caps:=caps) hcw (fun _=>hR.push hA) (fun _=>rfl) (B:=100000000) hy hr (by omega) (l1:=A.length) (i1:=5) (l4:=A.length) (i4:=6) (fun _=>St.get_cur ..) (fun _=>St.get_cur ..)
 have hS:=hseq (ZIt 33 [(7,.ptr A.length 2 0 0 0),(8,.ptr A.length 4 0 0 0),(19,.func (.func JO) [] [.ptr A.length 5 0 0 0,.ptr A.length 6 0 0 0]),(20,.any)]) rfl (ZA9 (S T1) itS p_rope_Nodes.nt p_rope_Nodes.rng) (fun v h x more ro L hv hx=>Zhr _ _ _ _ _ (ZlA ⟨_,rfl,rfl⟩ v (by have:=(ZDD v).2.2;omega) h x more ro L hx))
 unfold ndF at hS
 generalize hes:YF (Qx N r)=l at *
 have e0:ndL A la b r (YF [])=ndL A la b r []:=rfl;rw [e0] at hS;unfold ndL at hS
 unfold Ro.av at *
 repeat' (first|refine ZE ?_|refine ZD ?_|refine ZF rfl ?_|refine ZP rfl rfl rfl rfl ?_|refine ZA rfl ?_|refine ZC ?_|(refine Zk rfl rfl (fun _=>?_) (fun _=>?_)<;>try (exfalso;omega))|refine ZH rfl ?_|refine Za rfl rfl rfl ?_|refine ZNj rfl ?_|refine ZCd rfl ?_|refine ZB rfl rfl rfl (hK _) ?_|refine ZI ?_)
 all_goals try contradiction
 refine Zl rfl rfl rfl (by simp only [ZY,QD,if_pos (Nat.lt_succ_self _)]) rfl rfl ?_
 repeat' (first|refine ZE ?_|refine ZD ?_|refine ZF rfl ?_|refine ZP rfl rfl rfl rfl ?_|refine ZA rfl ?_|refine ZC ?_|refine ZB rfl rfl rfl (hNd _) ?_|refine ZI ?_|refine ZO ?_)
 refine .inr ⟨rfl,_,Zkh (g:=JO) rfl (by decide) hS,?_⟩
 repeat' (first|refine ZE ?_|refine ZD ?_|refine ZF rfl ?_|refine ZP rfl rfl rfl rfl ?_|refine ZA rfl ?_|refine ZC ?_|refine ZI ?_|refine ZS ?_|refine ZO ?_)
 exact ZKv hA (.inr rfl) rfl rfl (by simp) (fun v hv=>by obtain ⟨x,_,rfl⟩:=List.mem_map.1 hv;rfl) rfl rfl
def Zfd (r:AR) (o:Nat):Prop:=ZCD o/\r.states[o % 65536]?=some 1/\r.gens[o % 65536]?=some ((o / 65536:Nat):Int)
instance (r:AR) (o:Nat):Decidable (Zfd r o):=by unfold Zfd;exact inferInstance
theorem AROk.live {r:AR} (h:AROk r) {o:Nat} {x:Nd} (hx:lk r.nodes o=some x):Zfd r o/\o<18446744073709551616:=by
 obtain ⟨s,g,k1,k2,k3,k4⟩:=h.key o x hx;obtain ⟨h1,h2⟩:=h.hnd hx
 have:=h.n16
 have hm:o % 65536=s:=by omega
 have hd:o / 65536=g:=by omega
 unfold Zfd;rw [hm,hd];refine ⟨⟨h1,k3,k4⟩,?_⟩;unfold ZCD at h1;omega
theorem Zfe:∀ {l:List Nat},l.Nodup->YF l=l:=by
 intro l
 have key:∀ (l w:List Nat),(w++l).Nodup->l.foldl JU w=w++l:=by
  intro l
  induction l with
  | nil=>intro w _;simp
  | cons a l ih =>
   intro w h
   have ha:a∉w:=fun q=>by
    rw [List.nodup_append] at h
    exact h.2.2 a q a (by simp) rfl
   rw [List.foldl_cons];unfold JU;rw [if_neg ha]
   have e:w++a::l=w++[a]++l:=by simp
   rw [e] at h ⊢;exact ih _ h
 intro h
 have:=key l [] (by simpa using h)
 rwa [lE] at this
theorem Zff:∀ l:List Tr,(∀ t∈l,4*(t.cnt:Int)+4<=t.bytes)->4*(Tr.cntL l:Int)+4*l.length<=Tr.bytesL l
 | [],_=>by simp [Tr.cntL,Tr.bytesL]
 | t::l,h=>by
  have h1:=h t (by simp)
  have h2:=Zff l fun u hu=>h u (by simp [hu])
  simp only [Tr.cntL,Tr.bytesL,List.length_cons];omega
theorem ZoQ {N:ZJ} (hN:GoodN N) {t:Tr} (hv:Val N t):(t.cnt:Int)<=t.bytes/\(Big t->4*(t.cnt:Int)+4<=t.bytes):=by
 have hsz:=hv.size hN;have hps:=hv.pos.2
 induction hv with
 | @kept o h m k x h0 hx hok hh hm hk =>
  have ec:(Tr.mk o h m [] k).cnt=0:=by rw [Tr.cnt,Tr.cntO_getD,hk,if_neg h0];rfl
  have hl:h<=16:=by
   rcases hok with q|⟨n,ks,q⟩
   ·rw [<- hh,q.h];omega
   ·have:=q.n15;have e:=q.eq;subst e;simp only at hh;omega
  rw [ec]
  refine ⟨by omega,fun q=>?_⟩
  have h1:=hsz q;have h2:=(ZE1 hl).1;simp only [Tr.h] at h1;omega
 | @leaf s k h1 h2 hk =>
  have ec:(Tr.mk 0 0 .zero s k).cnt=1:=by rw [Tr.cnt,Tr.cntO_getD,hk];rfl
  rw [ec]
  refine ⟨by omega,fun q=>?_⟩
  have:=q rfl
  omega
 | @inner h l hh h2 h4 hl hb hv ih =>
  have ec:(Tr.mk 0 (h+1) .zero [] (some l)).cnt=Tr.cntL l+1:=by rw [Tr.cnt,Tr.cntO];simp;omega
  have eb:(Tr.mk 0 (h+1) .zero [] (some l)).bytes=Tr.bytesL l:=by rw [Tr.bytes,Tr.bytesO];simp [Mea.zero]
  have:=Zff l fun u hu=>(ih u hu ((hv u hu).size hN) (hv u hu).pos.2).2 (fun q=>hb u hu (by rw [<- hl u hu];exact q))
  rw [ec,eb]
  exact ⟨by omega,fun _=>by omega⟩
theorem PI.ok {r:AR} (ho:AROk r) (hg:GoodN r.nodes) {t:Tr} (hv:VE r.nodes t) (hb:t.bytes<=65536) (hn:nw t<=r.n) {its:List It} {rx:Nat} {ρ:Nat->Ro} (h:PI t its rx ρ) :
 WrB r (nw t) (wrV t r).1 (wrV t r).2.2/\(IsEmpty t/\(wrV t r).2.1=.zero\/Val r.nodes t/\WrOk r.nodes t (wrV t r).1 (wrV t r).2.1):=by
 rcases h with ⟨h1,_,h2⟩|⟨⟨M,hM⟩,R,h1,h2,h3⟩
 ·have e:nw t=0:=by unfold nw;rw [if_pos ⟨h1.old,h1.h,h1.text⟩]
  rw [ZbN h1,e];exact ⟨.refl ho hg,.inl ⟨h1,rfl⟩⟩
 ·rcases hv with hv|hv
  ·exact absurd hv hM.not_empty
  ·rw [Zh5 hv,ZQK hv]
   rw [ZQK hv] at hn;obtain ⟨ρ',a1,a2,a3,a4,a5⟩:=exec_ok hg hv hb r ho hg (.refl _) hn rx its R ρ h1 h2 h3;exact ⟨a4,.inr ⟨hv,a5⟩⟩
theorem Zo6 {st:St} {la b:Nat} {r:AR} (hA:Has st la b r) (ho:AROk r) (hg:GoodN r.nodes) {t:Tr} (hv:VE r.nodes t) (hb:t.bytes<=65536) (hn:nw t<=r.n) :
 WrB r (nw t) (wrV t r).1 (wrV t r).2.2/\(IsEmpty t/\(wrV t r).2.1=.zero\/Val r.nodes t/\WrOk r.nodes t (wrV t r).1 (wrV t r).2.1):=by
 obtain ⟨L2,tx,ver,cs,its,F,keys,rx,ρ,hS,hB⟩:=Zh6 (L:=[]) (hA.push rfl).r ho.nb ho.n16 (by have:=ho.nn;have:=ho.n16;omega) hv hb hn
 exact hB.pi.ok ho hg hv hb hn
def ZYH (N:ZJ) (r:Ro):List UInt8:=if r.at_=0 then [] else Qb N r.h r.at_
structure Rt (N:ZJ) (r:Ro) (s:List UInt8):Prop where
 rt:RtOk N r
 tx:ZYH N r=s
theorem RtOk.ext {N M:ZJ} (hE:Ext N M) {r:Ro} (h:RtOk N r):RtOk M r:=h.imp id fun ⟨h0,x,h1,h2⟩=>⟨h0,x,hE _ _ h1,h2⟩
theorem Rt.zero (N:ZJ):Rt N .zero []:=⟨.inl rfl,rfl⟩
theorem Rt.m {N:ZJ} (hN:GoodN N) {r:Ro} {s:List UInt8} (h:Rt N r s):r.m=Yi s:=by
 obtain ⟨h,rfl⟩:=h;unfold ZYH
 rcases h with rfl|⟨h0,x,h1,h2,h3,h4⟩
 ·rfl
 ·rw [if_neg h0,ZCP hN _ _ x h1 h3,h4]
theorem Rt.wr {r:AR} (ho:AROk r) {N:ZJ} {t:Tr} {ro:Ro} (h:WrOk N t r ro):Rt r.nodes ro (t.txt N):=by
 obtain ⟨y,h1,h2,h3,h4⟩:=h.live;have h0:=(ho.hnd h1).2
 refine ⟨.inr ⟨h0,y,h1,h2,by rw [h3,h.rh],by rw [h4,h.rm]⟩,?_⟩
 unfold ZYH;rw [if_neg h0,h.rh,h.txt]
theorem Rt.keep {N:ZJ} {r:Ro} {s:List UInt8} (h:Rt N r s):VE N (YW r)/\(YW r).txt N=s:=by
 obtain ⟨h,rfl⟩:=h;unfold ZYH YW
 rcases h with rfl|⟨h0,x,h1,h2,h3,h4⟩
 ·rw [if_pos (by rfl),if_pos (by rfl)];exact ⟨.inl zero_empty,rfl⟩
 ·rw [if_neg h0,if_neg h0]
  exact ⟨.inr (.kept h0 h1 h2 h3 h4 rfl),by rw [Tr.keep,Tr.txt,if_neg h0];simp [Tr.txtO]⟩
theorem Rt.b {N:ZJ} (hN:GoodN N) {r:Ro} {s:List UInt8} (h:Rt N r s):(YW r).bytes=s.length/\r.m.b=s.length:=by
 have h1:=h.keep;have h2:=h1.1.len hN;rw [h1.2] at h2
 exact ⟨h2.symm,by rw [h.m hN];rfl⟩
theorem ZiA {st:St} {la b:Nat} {r:AR} (hA:Has st la b r) (ho:AROk r) (hg:GoodN r.nodes) {t:Tr} (hv:VE r.nodes t) (hb:t.bytes<=65536) (hn:nw t<=r.n) :
 WrB r (nw t) (wrV t r).1 (wrV t r).2.2/\Rt (wrV t r).1.nodes (wrV t r).2.1 (t.txt r.nodes):=by
 obtain ⟨h1,h2⟩:=Zo6 hA ho hg hv hb hn;refine ⟨h1,?_⟩
 rcases h2 with ⟨he,h2⟩|⟨hv,h2⟩
 ·rw [h2,he.txt];exact .zero _
 ·exact .wr h1.ok h2
theorem ZCH (A:List (Bool × List Blk)) (L0 T:List Blk) (r:AR):Has ⟨A,false,L0++(arB A.length L0.length r++T)⟩ A.length L0.length r:=by
 have h:∀ i b,(arB A.length L0.length r++T)[i]?=some b->vis (some b)=some b->St.get ⟨A,false,L0++(arB A.length L0.length r++T)⟩ A.length (L0.length+i)=some b:=by
  intro i b hb hv;rw [St.get_cur,Q2,hb,hv]
 exact ⟨by simp [St.wr],h 0 _ rfl rfl,h 1 _ rfl rfl,h 2 _ rfl rfl,h 3 _ rfl rfl,h 4 _ rfl rfl,h 5 _ rfl rfl⟩
theorem Zfh (A:List (Bool × List Blk)) (L0 T:List Blk) (r r':AR):QP ⟨A,false,L0++(arB A.length L0.length r++T)⟩ A.length L0.length r'=⟨A,false,L0++(arB A.length L0.length r'++T)⟩:=by
 have h:∀ (X:List Blk) (i:Nat) (b:Blk),St.upd ⟨A,false,L0++X⟩ A.length (L0.length+i) b=⟨A,false,L0++X.set i b⟩:=fun X i b=>by
  unfold St.upd;simp only [if_true,ZUE]
 have h0:∀ (X:List Blk) (b:Blk),St.upd ⟨A,false,L0++X⟩ A.length L0.length b=⟨A,false,L0++X.set 0 b⟩:=fun X b=>h X 0 b
 simp only [QP,arK,arB,Ql,h,h0];rfl
theorem ZoR {e:Env} {A:List (Bool × List Blk)} {st:St} {L:List Blk} {x:Ex} {c4 c5 j4 w4 v4:Nat} {ro:Ro} {z:Int} (hA:A=st.A++[(st.ro,st.L)]) (hx:x=.norm\/x=.ret) (h4:J0 e c4=some (.ptr A.length j4 v4 0 0)) (hg4:L[j4]?=some (.arr w4 v4 [ro.av]))
 (h6:J0 e c5=some (.int .i64 z)):Q9 false [.c c4 true 5,.s c5] (x,e,⟨A,false,L⟩)=some (.tup [ro.av,.int .i64 z],st):=by
 refine ZBC (v:=.tup [ro.av,.int .i64 z]) hA hx ?_ (L':=L) rfl rfl
 have h1:ZBe ⟨A,false,L⟩ e (.c c4 true 5)=some ro.av:=by
  simp only [ZBe,QK h4,loadP,St.get_cur,hg4,vis,ZGE,if_true,List.getElem?_cons_zero,oS];rfl
 simp only [QQ,ZDo,h1,oS];simp only [ZBe,QK h6,oS,Option.map_some,ZGF]
theorem Zdr {st:St} {la b:Nat} {r:AR} (hA:Has st la b r) (ho:AROk r) (hg:GoodN r.nodes) (s:List UInt8) (hs:s.length<=65536) (hn:nw (Z3 s)<=r.n) :
 S Tb ZBE [.ptr la (b+5) 0 0 0,.str s] st=some (.tup [(wrV (Z3 s) r).2.1.av,.int .i64 0],QP st la b (wrV (Z3 s) r).1):=by
 obtain ⟨b1,b2,b3⟩:=J8 hg hs
 refine Xw rfl (fun A hA'=>?_)
 have hB:=fun L=>Zdj hg s hs ⟨A,false,L⟩
 have hle:=hA.le
 have hW:=fun L=>ZUG (st:=⟨A,false,L⟩) (hA.push hA') ho hg b1 (by rw [b3];omega) hn
 simp only [YV hA' hle] at hW
 generalize (wrV (Z3 s) r).1=r' at *
 generalize (wrV (Z3 s) r).2.1=ro at *
 repeat' (first|refine ZE ?_|refine ZD ?_|refine ZF rfl ?_|refine Zs rfl rfl ?_|refine ZA rfl ?_|refine ZC ?_|(refine Zk rfl rfl (fun _=>?_) (fun _=>?_)<;>try (exfalso;omega))|refine ZH rfl ?_|refine JA rfl rfl rfl rfl ?_|refine Za rfl rfl rfl ?_|refine ZP rfl rfl rfl (Zq _) ?_|refine Zl rfl rfl rfl (Z8 _ _ _) (QY _ _) rfl ?_|refine ZB rfl rfl (by first|rfl|(simp only [lE,lN,lC,ZZ,ZW,ZX];first|done|rfl)) (hB _) ?_|refine ZI ?_)
 all_goals try contradiction
 all_goals try (exfalso;omega)
 obtain ⟨A2,hA2⟩:∃ A2,A2=(QP st la b r').ps:=⟨_,rfl⟩;simp only [<- hA2] at hW
 have hAl:A.length=A2.length:=by rw [hA',hA2];simp [St.ps,ZBl]
 refine ZB rfl rfl (Zo2 rfl _) (hW _) ?_;rw [hAl]
 repeat' (first|refine Qo rfl rfl rfl rfl rfl rfl ?_|refine ZP rfl rfl rfl rfl ?_|refine ZE ?_|refine ZD ?_|refine ZF rfl ?_|refine Zs rfl rfl ?_|refine ZA rfl ?_|refine ZC ?_|refine Za rfl rfl rfl ?_|refine ZS ?_|refine ZO ?_)
 exact ZoR hA2 (.inr rfl) rfl rfl rfl
theorem ZNG (n g:Nat) (hn:n<=16384) (hg:1<=g/\g<=4294967295):AROk (QA n g):=by
 have hb:∀ i,i<n->(QA n g).blk[i]?=some ((n:Int)-1-i):=fun i hi=>by simp [QA,hi]
 refine ⟨by simp [QA],by simp [QA];exact hn,by simp [QA],by simp [QA],fun i hi=>⟨n-1-i,?_,?_,?_⟩,fun i j hi hj q=>?_,fun s hs=>⟨1,?_,by omega,?_⟩,?_,fun h x hx=>?_,?_,?_,?_⟩
 ·have hi':i<n:=hi
  rw [hb i hi'];congr 1
  show (n:Int)-1-i=((n-1-i:Nat):Int)
  omega
 ·have hi':i<n:=hi
  show n-1-i<(List.replicate n (0:Int)).length
  rw [List.length_replicate];omega
 ·have hi':i<n:=hi
  show (List.replicate n (0:Int))[n-1-i]?=some 0
  rw [List.getElem?_replicate,if_pos (by omega)]
 ·have hi':i<n:=hi
  have hj':j<n:=hj;rw [hb i hi',hb j hj'] at q
  have:=Option.some.inj q
  omega
 ·have hs':s<n:=by simpa [QA] using hs
  simp [QA,hs']
 ·show ((1:Nat):Int)<=(g:Int);omega
 ·show (g:Int)<=_;omega
 ·simp [QA,lk] at hx
 ·simp [QA]
 ·simp [QA]
 ·simp [QA];omega
def ZQ0 (x n:Int):Int:=(x % 18446744073709551616) % (n+1)
theorem ZGA {x n:Int} (h:0<=n):0<=ZQ0 x n/\ZQ0 x n<=n:=by
 unfold ZQ0
 have:=Int.emod_nonneg (x % 18446744073709551616) (show n+1≠0 by omega)
 have:=Int.emod_lt_of_pos (x % 18446744073709551616) (show 0<n+1 by omega)
 omega
theorem Znm (x:Int):IntKind.u64.wrap x=x % 18446744073709551616:=by
 have e1:IntKind.u64.signed=false:=rfl;have e2:IntKind.u64.bits=64:=rfl;simp only [IntKind.wrap,e1,e2,Bool.false_and,if_false,jB];rfl
theorem ZCS (k:Option (List Tr)):(Tr.ownO k).getD []=(k.getD []).map Tr.own:=by
 cases k with
 | none=>rfl
 | some l=>simp [Tr.ownO,Tr.ownL_map]
theorem ZlB (t:Tr):t.own.h=t.h:=by cases t;rfl
theorem Yv (t:Tr):t.own.bytes=t.bytes:=by
 induction t using Tr.ind with
 | step o h m s k ih =>
  rw [Tr.own,Tr.bytes,Tr.bytes,Tr.bytesO_getD,Tr.bytesO_getD,ZCS];generalize k.getD []=l at ih
  congr 1
  induction l with
  | nil=>rfl
  | cons a l ih2=>rw [jC,Tr.bytesL,Tr.bytesL,ih a (by simp),ih2 (fun t ht=>ih t (by simp [ht]))]
theorem ZnM (N:ZJ) (t:Tr):t.own.txt N=t.txt N:=by
 induction t using Tr.ind with
 | step o h m s k ih =>
  rw [Tr.own,Tr.txt,Tr.txt,Tr.txtO_getD,Tr.txtO_getD,ZCS];generalize k.getD []=l at ih
  congr 1
  induction l with
  | nil=>rfl
  | cons a l ih2=>rw [jC,Tr.txtL,Tr.txtL,ih a (by simp),ih2 (fun t ht=>ih t (by simp [ht]))]
theorem ZnN {N:ZJ} {t:Tr} (hv:Val N t):Val N t.own:=by
 induction hv with
 | kept h0 hx hok hh hm hk =>
  rw [Tr.own]
  exact .kept h0 hx hok hh hm (by rw [ZCS,hk];rfl)
 | leaf h1 h2 hk =>
  rw [Tr.own]
  exact .leaf h1 h2 (by rw [ZCS,hk];rfl)
 | inner hh h2 h4 hl hb hv ih =>
  rename_i h l
  rw [Tr.own,Tr.ownO,Tr.ownL_map]
  refine .inner hh (by rw [List.length_map];exact h2) (by rw [List.length_map];exact h4) ?_ ?_ ?_
  ·intro t ht
   obtain ⟨u,hu,rfl⟩:=List.mem_map.1 ht;rw [ZlB];exact hl u hu
  ·intro t ht q
   obtain ⟨u,hu,rfl⟩:=List.mem_map.1 ht;rw [Yv];exact hb u hu q
  ·intro t ht
   obtain ⟨u,hu,rfl⟩:=List.mem_map.1 ht;exact ih u hu
theorem ZKS {N:ZJ} {t:Tr} (h:VE N t):VE N t.own:=by
 rcases h with h|h
 ·obtain ⟨o,h',m,s,k⟩:=t
  obtain ⟨h1,h2,h3,h4,h5⟩:=h
  exact .inl ⟨h1,h2,h3,h4,by show (Tr.ownO k).getD []=[];rw [ZCS];simp only [Tr.ks] at h5;rw [h5];rfl⟩
 ·exact .inr (ZnN h)
theorem ZoS (x n:Int) (h0:0<=n) (h1:n<4611686018427387904) (st:St):S Tb ZAH [.int .i64 x,.int .i64 n] st=some (.int .i64 (ZQ0 x n),st):=by
 have hp:=ZGA (x:=x) h0
 have hw:IntKind.u64.wrap (n+1)=n+1:=by rw [Znm];omega
 have hx:=Int.emod_nonneg x (show (18446744073709551616:Int)≠0 by decide)
 have hrem:ZEB .rem (.int .u64 (IntKind.u64.wrap x)) (.int .u64 (n+1))=some (.int .u64 (ZQ0 x n)):=by
  rw [Znm]
  show (if n+1=0 then none else some (AV.int .u64 ((x % 18446744073709551616).tmod (n+1))))=_
  rw [if_neg (by omega),Int.tmod_eq_emod_of_nonneg hx];rfl
 refine QJ rfl (fun A hA=>?_)
 repeat' (first|refine ZE ?_|refine ZD ?_|refine ZF rfl ?_|refine ZA rfl ?_|refine ZC ?_)
 refine Zmk rfl ?_
 repeat' (first|refine ZF rfl ?_|refine Zm rfl rfl (by omega) ?_)
 refine ZKt rfl hw ?_;refine ZUy rfl rfl hrem ?_
 refine ZKt rfl (ZNh (by omega) (by omega)) ?_
 repeat' (first|refine ZF rfl ?_|refine ZA rfl ?_|refine ZC ?_|refine ZS ?_|refine ZO ?_)
 refine Zj hA (by first|exact .inl rfl|exact .inr rfl) rfl rfl rfl rfl ?_
 rfl
structure Ed where
 what:Nat
 n:Int
 at_:Int
 len:Int
 text:List UInt8
theorem ZnO (r:Ro):Qm r.av true 0 5=some r.av:=by cases r;rfl
theorem ZDE {O:Orc} {k:List Fr} {Q:Jv} {e:Env} {st:St} {keep:List Nat} {is:List QAbs.PI} {d:Nat} {α:Type} {f:α->AV} {x:Opd} {l:List α} (hx:Zc e x=some (.lit (l.map f))) (h:Is O is keep k Q ((d,.int .i64 l.length)::e) st):Is O (⟨some d,none,false,.len 1 x⟩::is) keep k Q e st:=by
 refine Zb7 hx ?_;rw [List.length_map];exact h
theorem ZnP {lv ix:Nat} {t:Tr} {n m:Int} {s:List UInt8}:ZX (ZZ ([]++[.ptr lv ix 0 0 0,t.av,.int .i64 n,.int .i64 m,.str s]++[]))=some [.ptr lv ix 0 0 0,t.av,.int .i64 n,.int .i64 m,.str s]:=by
 simp only [lE,lN,lC,ZZ,ZW,ZX];rfl
def ZNH:Nat->List (List UInt8)->Nat
 | n,[]=>n
 | n,t::ts=>if n<=900 then ZNH (n+min t.length 1000) ts else n
def Zfi (l:List (List UInt8)):Prop:=4<l.length\/900<ZNH 0 l
instance (l:List (List UInt8)):Decidable (Zfi l):=by unfold Zfi;infer_instance
def ZiB (l:List Ed):Prop:=(∃ s∈l.take 100,200<s.text.length)\/60<l.length
open Classical in
noncomputable instance (l:List Ed):Decidable (ZiB l):=Classical.propDecidable _
theorem Zo7 (a b c d f x y z u v:Int):eqV [(0,0),(1,0),(2,0),(3,0),(4,0)] 0 (.agg [.int .u64 a,.int .i64 b,.int .i64 c,.int .i64 d,.int .i64 f]) (.agg [.int .u64 x,.int .i64 y,.int .i64 z,.int .i64 u,.int .i64 v])=some (decide (a=x/\b=y/\c=z/\d=u/\f=v)):=by
 show (if decide (a=x)=true then (if decide (b=y)=true then (if decide (c=z)=true then (if decide (d=u)=true then (if decide (f=v)=true then some true else some false) else some false) else some false) else some false) else some false)=_
 by_cases h1:a=x<;>by_cases h2:b=y<;>by_cases h3:c=z<;>by_cases h4:d=u<;>by_cases h5:f=v<;>simp [h1,h2,h3,h4,h5]
end Go.Q15
namespace Go.QAbs
end Go.QAbs
namespace Go.Q15
open Go Go.QAbs
set_option maxRecDepth 100000
set_option maxHeartbeats 8000000
end Go.Q15
namespace Go.QAbs
section
variable {O:Orc} {k:List Fr} {Q:Jv} {e:Env} {A A0:List (Bool × List Blk)} {L L0 T:List Blk} {keep:List Nat} {is:List PI} {d:Nat} {ks:List (Nat × Nat)} {b0 bs:List Blk}
end
end Go.QAbs
namespace Go.Q15
open Go Go.QAbs
set_option maxRecDepth 100000
set_option maxHeartbeats 8000000
structure RdO (st:St) (la ix:Nat) (N:ZJ) (ks:List (Nat × Nat)):Prop where
 at_:∃ a0 a1 im a3 a4 a5,st.get la ix=some (.arr 6 0 [.agg [a0,a1,.map la im,a3,a4,a5]])/\st.get la im=some (.map (N.map nodeAV))/\(la,ix)∉ks/\(la,im)∉ks
theorem RdO.rd {st:St} {la ix:Nat} {N:ZJ} {ks:List (Nat × Nat)} (h:RdO st la ix N ks):Rd st la ix N:=by
 obtain ⟨a0,a1,im,a3,a4,a5,h1,h2,_⟩:=h;exact ⟨a0,a1,im,a3,a4,a5,h1,h2⟩
theorem RdO.putS {st:St} {ks:List (Nat × Nat)} {b0 bs:List Blk} {la ix:Nat} {N:ZJ} (h:RdO st la ix N ks) (H:Cl st ks b0) (hl:bs.length=ks.length) (hn:bs.all noH=true):RdO (Ql st ks bs) la ix N ks:=by
 obtain ⟨a0,a1,im,a3,a4,a5,h1,h2,h3,h4⟩:=h;exact ⟨a0,a1,im,a3,a4,a5,(H.out hl hn h3).trans h1,(H.out hl hn h4).trans h2,h3,h4⟩
def Tr.cs:Tr->List AV
 | .mk o h m s k=>[.int .u64 o,.int .i64 h,.int .i64 m.b,.int .i64 m.r,.int .i64 m.l,.str s,Tr.avO k]
def wAV (la b:Nat) (d r:Tr):AV:=.agg (.ptr la (b+5) 0 0 0::(d.cs++r.cs))
def wB (la b:Nat) (d r:Tr):Blk:=.arr 15 0 [wAV la b d r]
theorem ZUH (la b:Nat) (d r:Tr):Qm (wAV la b d r) false 0 1=some (.ptr la (b+5) 0 0 0):=by cases d;cases r;rfl
theorem ZNI (la b:Nat) (d r:Tr):Qm (wAV la b d r) true 1 7=some d.av:=by cases d;cases r;rfl
theorem ZiC (la b:Nat) (d r:Tr):Qm (wAV la b d r) true 8 7=some r.av:=by cases d;cases r;rfl
theorem ZlG (la b:Nat) (d r t:Tr):(Qu 15 (wAV la b d r) 1 7 t.av).bind Jw=some (wAV la b t r):=by
 cases d;cases r;cases t
 rename_i k1 _ _ _ _ k2 _ _ _ _ k3
 cases k1<;>cases k2<;>cases k3<;>rfl
theorem ZlH (la b:Nat) (d r t:Tr):(Qu 15 (wAV la b d r) 8 7 t.av).bind Jw=some (wAV la b d t):=by
 cases d;cases r;cases t
 rename_i k1 _ _ _ _ k2 _ _ _ _ k3
 cases k1<;>cases k2<;>cases k3<;>rfl
theorem ZjS {st:St} {lw iw la b:Nat} {N:ZJ} {d r:Tr} {s:List UInt8} (H:Cl st [(lw,iw)] [wB la b d r]) (hR:RdO st la (b+5) N [(lw,iw)]) (hN:GoodN N) (hd:VE N d) (hb:d.bytes+s.length<=65536) :
 S Tb Qd [.ptr lw iw 0 0 0,(⟨2,0,s⟩:Pce).av] st=some (.int .i64 0,Ql st [(lw,iw)] [wB la b (concM N d (Z3 s)).own r]):=by
 refine Xw rfl (fun A hA=>?_)
 have hg:=H.get 0 lw iw _ rfl rfl;unfold wB at hg
 have g:=fun L=>ZU hA (ro:=false) (L:=L) hg
 have hs:s.length<=65536:=by have:=hd.pos.2;omega
 obtain ⟨b1,b2,b3⟩:=J8 hN (s:=s) hs
 have hB:=fun st=>Zdj hN s hs st
 have hC:=fun L=>ZfL hN (hR.rd.push hA (ro:=false) (L:=L)) hd b1 (by rw [b3];exact hb)
 have w0:=ZUH la b d r;have w1:=ZNI la b d r
 generalize Z3 s=bt at *
 generalize (concM N d bt).own=t at *
 simp only [Pce.av]
 repeat' (first|refine Z9 rfl (g _) rfl w0 ?_|refine Z9 rfl (g _) rfl w1 ?_|refine ZE ?_|refine ZD ?_|refine ZF rfl ?_|refine ZQ rfl rfl ?_|refine ZP rfl rfl rfl rfl ?_|refine QE rfl ?_|refine Zo rfl rfl rfl rfl ?_|refine Zs rfl rfl ?_|refine ZA rfl ?_|refine ZC ?_|refine Zz rfl rfl ?_|(refine Zp rfl rfl (fun _=>?_) (fun _=>?_)<;>try (exfalso;omega))|(refine Zk rfl rfl (fun _=>?_) (fun _=>?_)<;>try (exfalso;omega))|refine ZV rfl ?_|refine ZH rfl ?_|refine Zn rfl rfl rfl ?_|refine Za rfl rfl rfl ?_|refine Zl rfl rfl rfl rfl rfl rfl ?_|refine ZB rfl rfl (by first|rfl|(simp only [lE,lN,lC,ZZ,ZW,ZX];first|done|rfl)) (hB _) ?_|refine ZB rfl rfl (by first|rfl|(simp only [lE,lN,lC,ZZ,ZW,ZX];first|done|rfl)) (hC _) ?_|refine ZP rfl rfl rfl (Zq _) ?_|refine Zl rfl rfl rfl (Z8 _ _ _) (QY _ _) rfl ?_|refine ZI ?_)
 all_goals try (exfalso;omega)
 all_goals try contradiction
 have hA0:A=(Ql st [(lw,iw)] [wB la b d r]).ps:=by rw [H.same];exact hA
 refine ZQB (j:=0) (v:=t.av) H hA0 rfl rfl rfl rfl rfl rfl rfl (Z8 _ _ _) (ZlG la b d r t) (fun A2 hA2 _=>?_)
 repeat' (first|refine ZE ?_|refine ZD ?_|refine ZF rfl ?_|refine ZA rfl ?_|refine ZC ?_|refine ZS ?_|refine ZO ?_)
 all_goals exact ZBC (st:=Ql st [(lw,iw)] [wB la b t r]) hA2 (.inr rfl) rfl rfl rfl
theorem ZlI {N:ZJ} (hN:GoodN N) {st:St} {lv ix:Nat} (hr:Rd st lv ix N) {t:Tr} (ht:VE N t) (a:Int) (h0:0<=a) (h1:a<=t.bytes) (hb:t.bytes<=65536) :
 S Tb ZJT [.ptr lv ix 0 0 0,t.av,.int .i64 a] st=some (.tup [(cutF N t.h t a).1.own.av,(cutF N t.h t a).2.own.av,.int .i64 0],st):=by
 refine QJ rfl (fun A hA=>?_)
 have hrp:=fun L=>hr.push hA (ro:=false) (L:=L)
 have hC:=fun L=>ZHu (hrp L) ht hb
 have hB:=fun st=>X9 t ht.pos.1 (by omega) st
 have hK:=fun L=>Zkv hN t.h (hrp L) ht rfl a h0 h1 hb
 have hok:=Yk hN t.h t a ht rfl h0 h1 hb
 have hO1:=fun st=>ZfF _ hok.l.pos.1 st
 have hO2:=fun st=>ZfF _ hok.r.pos.1 st
 generalize cutF N t.h t a=r at *
 obtain ⟨r1,r2⟩:=r
 simp only at *
 generalize r1.own=o1 at *
 generalize r2.own=o2 at *
 repeat' (first|refine ZE ?_|refine ZD ?_|refine ZF rfl ?_|refine QE rfl ?_|refine Zo rfl rfl rfl rfl ?_|refine Zs rfl rfl ?_|refine ZA rfl ?_|refine ZC ?_|(refine Zh rfl rfl (fun _=>?_) (fun _=>?_)<;>try (exfalso;omega))|(refine QR rfl rfl (fun _=>?_) (fun _=>?_)<;>try (exfalso;omega))|(refine Zk rfl rfl (fun _=>?_) (fun _=>?_)<;>try (exfalso;omega))|refine ZH rfl ?_|refine Za rfl rfl rfl ?_|refine ZP rfl rfl rfl (Zq _) ?_|refine Zl rfl rfl rfl (Z8 _ _ _) (QY _ _) rfl ?_|refine Zw rfl (Z5 _) (QI _) ?_|refine ZB rfl rfl (by first|rfl|(simp only [lE,lN,lC,ZZ,ZW,ZX];first|done|rfl)) (hC _) ?_|refine ZB rfl rfl (by first|rfl|(simp only [lE,lN,lC,ZZ,ZW,ZX];first|done|rfl)) (hB _) ?_|refine ZB rfl rfl (by first|rfl|(simp only [lE,lN,lC,ZZ,ZW,ZX];first|done|rfl)) (hK _) ?_|refine Yp rfl rfl (wk1 _) (hO1 _) ?_|refine ZB rfl rfl (by first|rfl|(simp only [lE,lN,lC,ZZ,ZW,ZX];first|done|rfl)) (hO2 _) ?_|refine ZI ?_|refine ZS ?_|refine ZO ?_)
 all_goals try (exfalso;omega)
 exact ZDk hA (.inr rfl) rfl rfl rfl rfl rfl rfl
theorem ZhB {st:St} {lw iw la b:Nat} {N:ZJ} {d r:Tr} {n:Int} (H:Cl st [(lw,iw)] [wB la b d r]) (hR:RdO st la (b+5) N [(lw,iw)]) (hN:GoodN N) (hd:VE N d) (hr:VE N r) (h0:0<=n) (h1:n<=r.bytes) (hb:d.bytes+n<=65536) (hb2:r.bytes<=65536) :
 S Tb Qd [.ptr lw iw 0 0 0,(⟨1,n,[]⟩:Pce).av] st=some (.int .i64 0,Ql st [(lw,iw)] [wB la b (concM N d (cutF N r.h r n).1.own).own (cutF N r.h r n).2.own]):=by
 refine Xw rfl (fun A hA=>?_)
 have hg:=H.get 0 lw iw _ rfl rfl;unfold wB at hg
 have g:=fun L=>ZU hA (ro:=false) (L:=L) hg
 have hA0:A=(Ql st [(lw,iw)] [wB la b d r]).ps:=by rw [H.same];exact hA
 have c1:=Yk hN r.h r n hr rfl h0 h1 hb2
 have hC:=fun L=>ZlI hN (hR.rd.push hA (ro:=false) (L:=L)) hr n h0 h1 hb2
 have hl:=ZKS c1.l
 have hlb:(cutF N r.h r n).1.own.bytes=n:=by rw [Yv];exact c1.lb
 have w0:=ZUH la b d r;have w1:=ZNI la b d r;have w8:=ZiC la b d r
 generalize (cutF N r.h r n).1.own=cl at *
 generalize (cutF N r.h r n).2.own=cr at *
 have w0':=ZUH la b d cr;have w1':=ZNI la b d cr;simp only [Pce.av]
 repeat' (first|refine Z9 rfl (g _) rfl w0 ?_|refine Z9 rfl (g _) rfl w8 ?_|refine ZE ?_|refine ZD ?_|refine ZF rfl ?_|refine ZQ rfl rfl ?_|refine ZP rfl rfl rfl rfl ?_|refine Zs rfl rfl ?_|refine ZA rfl ?_|refine ZC ?_|refine Zz rfl rfl ?_|(refine Zp rfl rfl (fun _=>?_) (fun _=>?_)<;>try (exfalso;omega))|refine ZH rfl ?_|refine Zn rfl rfl rfl ?_|refine Za rfl rfl rfl ?_|refine Zl rfl rfl rfl rfl rfl rfl ?_|refine ZB rfl rfl (by first|rfl|(simp only [lE,lN,lC,ZZ,ZW,ZX];first|done|rfl)) (hC _) ?_|refine Zl rfl rfl rfl (Z8 _ _ _) (QY _ _) rfl ?_)
 all_goals try (exfalso;omega)
 all_goals try contradiction
 refine ZQB (j:=0) (v:=cr.av) H hA0 rfl rfl rfl rfl rfl rfl rfl (Z8 _ _ _) (ZlH la b d r cr) (fun A2 hA2 hA2l=>?_)
 have hP:(Ql st [(lw,iw)] [wB la b d cr]).get lw iw=some (wB la b d cr):=(H.put rfl rfl).get 0 lw iw _ rfl rfl;unfold wB at hP
 have g2:=fun L=>ZU (A:=A2) hA2 (ro:=false) (L:=L) hP
 have hK:=fun L=>ZfL hN ((hR.putS H (bs:=[wB la b d cr]) rfl rfl).rd.push hA2 (ro:=false) (L:=L)) hd hl (by rw [hlb];exact hb)
 generalize (concM N d cl).own=t at *
 rw [<- hA2l]
 repeat' (first|refine Z9 rfl (g2 _) rfl w0' ?_|refine Z9 rfl (g2 _) rfl w1' ?_|refine ZE ?_|refine ZD ?_|refine ZF rfl ?_|refine ZQ rfl rfl ?_|refine ZP rfl rfl rfl rfl ?_|refine QE rfl ?_|refine Zo rfl rfl rfl rfl ?_|refine Zs rfl rfl ?_|refine ZA rfl ?_|refine ZC ?_|refine Zz rfl rfl ?_|(refine Zp rfl rfl (fun _=>?_) (fun _=>?_)<;>try (exfalso;omega))|(refine Zk rfl rfl (fun _=>?_) (fun _=>?_)<;>try (exfalso;omega))|refine ZH rfl ?_|refine ZB rfl rfl (by first|rfl|(simp only [lE,lN,lC,ZZ,ZW,ZX];first|done|rfl)) (hK _) ?_|refine ZP rfl rfl rfl (Zq _) ?_|refine ZI ?_)
 all_goals try (exfalso;omega)
 all_goals try contradiction
 refine ZQB (j:=0) (v:=t.av) (bs:=[wB la b d cr]) H hA2 rfl rfl rfl rfl rfl rfl rfl (Z8 _ _ _) (ZlG la b d cr t) (fun A3 hA3 _=>?_)
 repeat' (first|refine ZE ?_|refine ZD ?_|refine ZF rfl ?_|refine ZA rfl ?_|refine ZC ?_|refine ZS ?_|refine ZO ?_)
 all_goals exact ZBC (st:=Ql st [(lw,iw)] [wB la b t cr]) hA3 (.inr rfl) rfl rfl rfl
theorem ZhC {st:St} {lw iw la b:Nat} {N:ZJ} {d r:Tr} {n:Int} (H:Cl st [(lw,iw)] [wB la b d r]) (hR:RdO st la (b+5) N [(lw,iw)]) (hN:GoodN N) (hr:VE N r) (h0:0<=n) (h1:n<=r.bytes) (hb2:r.bytes<=65536) :
 S Tb Qd [.ptr lw iw 0 0 0,(⟨3,n,[]⟩:Pce).av] st=some (.int .i64 0,Ql st [(lw,iw)] [wB la b d (cutF N r.h r n).2.own]):=by
 refine Xw rfl (fun A hA=>?_)
 have hg:=H.get 0 lw iw _ rfl rfl;unfold wB at hg
 have g:=fun L=>ZU hA (ro:=false) (L:=L) hg
 have hA0:A=(Ql st [(lw,iw)] [wB la b d r]).ps:=by rw [H.same];exact hA
 have hC:=fun L=>ZlI hN (hR.rd.push hA (ro:=false) (L:=L)) hr n h0 h1 hb2
 have w0:=ZUH la b d r;have w8:=ZiC la b d r
 generalize (cutF N r.h r n).1.own=cl at *
 generalize (cutF N r.h r n).2.own=cr at *
 simp only [Pce.av]
 repeat' (first|refine Z9 rfl (g _) rfl w0 ?_|refine Z9 rfl (g _) rfl w8 ?_|refine ZE ?_|refine ZD ?_|refine ZF rfl ?_|refine ZQ rfl rfl ?_|refine ZP rfl rfl rfl rfl ?_|refine Zs rfl rfl ?_|refine ZA rfl ?_|refine ZC ?_|refine Zz rfl rfl ?_|(refine Zp rfl rfl (fun _=>?_) (fun _=>?_)<;>try (exfalso;omega))|refine ZH rfl ?_|refine Zn rfl rfl rfl ?_|refine Za rfl rfl rfl ?_|refine Zl rfl rfl rfl rfl rfl rfl ?_|refine ZB rfl rfl (by first|rfl|(simp only [lE,lN,lC,ZZ,ZW,ZX];first|done|rfl)) (hC _) ?_|refine Zl rfl rfl rfl (Z8 _ _ _) (QY _ _) rfl ?_)
 all_goals try (exfalso;omega)
 all_goals try contradiction
 refine ZQB (j:=0) (v:=cr.av) H hA0 rfl rfl rfl rfl rfl rfl rfl (Z8 _ _ _) (ZlH la b d r cr) (fun A2 hA2 hA2l=>?_)
 rw [<- hA2l]
 repeat' (first|refine ZE ?_|refine ZD ?_|refine ZF rfl ?_|refine ZQ rfl rfl ?_|refine ZP rfl rfl rfl rfl ?_|refine QE rfl ?_|refine Zo rfl rfl rfl rfl ?_|refine ZA rfl ?_|refine ZC ?_|(refine Zp rfl rfl (fun _=>?_) (fun _=>?_)<;>try (exfalso;omega))|(refine Zk rfl rfl (fun _=>?_) (fun _=>?_)<;>try (exfalso;omega))|refine ZV rfl ?_|refine ZS ?_|refine ZO ?_|refine Zd ?_)
 all_goals try (exfalso;omega)
 all_goals try contradiction
 all_goals exact ZBC (st:=Ql st [(lw,iw)] [wB la b d cr]) hA2 (.inr rfl) rfl rfl rfl
set_option maxHeartbeats 16000000
theorem Zfm:∀ (n:Nat) (l:List Nat),l.Nodup->(∀ x∈l,x<n)->l.length<=n:=by
 intro n
 induction n with
 | zero=>intro l _ h;cases l with
  | nil=>exact Nat.le_refl _
  | cons a l=>have:=h a (by simp);omega
 | succ n ih =>
  intro l hd h
  by_cases hm:n∈l
  ·have := ih (l.erase n) (hd.erase n) (fun x hx => by
    have h1:=h x (List.mem_of_mem_erase hx)
    have h2:x≠n:=fun e=>by subst e;exact hd.not_mem_erase hx
    omega)
   rw [List.length_erase_of_mem hm] at this;omega
  ·have := ih l hd (fun x hx => by
    have h1:=h x hx
    have h2:x≠n:=fun e=>hm (e▸hx)
    omega)
   omega
theorem AROk.few {r:AR} (h:AROk r) {l:List Nat} (hd:l.Nodup) (hl:∀ o∈l,∃ x,lk r.nodes o=some x):l.length<=16384:=by
 have h16:=h.n16
 have key:∀ o∈l,Zfd r o:=fun o ho=>by obtain ⟨x,hx⟩:=hl o ho;exact (h.live hx).1
 have h1:(l.map (· % 65536)).Nodup:=by
  unfold List.Nodup at hd ⊢;rw [List.pairwise_map]
  refine hd.imp_of_mem (fun {p o} hp ho hne e=>hne ?_)
  have a:=(key p hp).2.2;have c:=(key o ho).2.2;rw [e,c] at a
  have:=Option.some.inj a
  omega
 have:=Zfm r.states.length _ h1 (fun x hx=>by
  obtain ⟨o,ho,rfl⟩:=List.mem_map.1 hx
  exact (List.getElem?_eq_some_iff.1 (key o ho).2.1).1)
 rw [List.length_map] at this;omega
def bel (N:ZJ):Nat->Nat->List Nat->List Nat
 | 0,h,s=>if h∈s then s else s++[h]
 | n+1,h,s=>if h∈s then s else (ZBa N h).ks.foldl (fun s k=>bel N n k.at_ s) (s++[h])
structure Visit (τ:List Nat->List Nat->St) (lm mx:Nat) (g:FuncId) (caps:List AV):Prop where
 len:∀ u w u' w',(τ u w).ps.length=(τ u' w').ps.length
 wr:∀ u w,(τ u w).wr lm
 get:∀ u w,(τ u w).get lm mx=some (.map (YI u))
 upd:∀ u w v,(τ u w).upd lm mx (.map (YI v))=τ v w
 call:∀ u w h more L,w.length<1000000000->∃ v,S Tb g ([.int .u64 (h:Nat)]++caps) ⟨(τ u w).ps++more,false,L⟩=some (v,⟨(τ u (w++[h])).ps++more,false,L⟩)
 wk:∀ h:Nat,ZX (ZZ ([]++[.int .u64 (h:Nat)]++caps))=some ([.int .u64 (h:Nat)]++caps)
 wk2:∀ la b h:Nat,ZX (ZZ ([]++[.ptr la b 0 0 0,.int .u64 (h:Nat),.map lm mx,.func (.func g) [] caps]++[]))=some [.ptr la b 0 0 0,.int .u64 (h:Nat),.map lm mx,.func (.func g) [] caps]
theorem ZlJ {O:Orc} {k:List Fr} {Q:Jv} {e:Env} {L:List Blk} {keep:List Nat} {is:List QAbs.PI} {s0:St} {more:List (Bool × List Blk)} {x i v:Opd} {lv ix h:Nat} {w:AV} {es es':List (AV × AV)} (hx:Zc e x=some (.map lv ix)) (hi:Zc e i=some (.int .u64 h)) (hv:Zc e v=some w) (hw:s0.wr lv) (hg:s0.get lv ix=some (.map es))
 (hs:ZY QD (lv+1) ⟨s0.ps++more,false,L⟩ w=some (w,⟨s0.ps++more,false,L⟩)) (hp:ZCT (.int .u64 h) w es=some es')
 (hh:Is O is keep k Q e ⟨(s0.upd lv ix (.map es')).ps++more,false,L⟩):Is O (⟨none,none,false,.mupd 0 x i v⟩::is) keep k Q e ⟨s0.ps++more,false,L⟩:=by
 have hl:=St.get_le hg;have g':=ZCN hg more false L;have w':=Zhs hl hw more false L;refine Z1 (od:=none) (v:=.undef) (st':=St.upd ⟨s0.ps++more,false,L⟩ lv ix (.map es')) ?_ ?_
 ·simp only [Zf,evalPO,ZG hx,ZG hi,ZG hv,ZG4,YL,if_true,hs,oS,ZIp,g',ZFC,hp,St.put_upd w' g',ZBO]
 ·rw [ZfC hl];exact hh
theorem Zfn {N:ZJ} {n P:Nat} (ih:∀ (h:Nat) (s:List Nat) (x:Nd),lk N h=some x->x.h=n->3*(bel N n h s).length+1<=3*s.length+P):∀ (ks:List Kid) (s:List Nat),(∀ k∈ks,∃ y,lk N k.at_=some y/\y.h=n)->3*(ks.foldl (fun s k=>bel N n k.at_ s) s).length+ks.length<=3*s.length+ks.length*P:=by
 intro ks
 induction ks with
 | nil=>intro s _;simp
 | cons k l ihl =>
  intro s hk;rw [List.foldl_cons]
  obtain ⟨y,y1,y2⟩:=hk k (by simp)
  have a1:=ih k.at_ s y y1 y2
  have a2:=ihl (bel N n k.at_ s) (fun z hz=>hk z (List.mem_cons_of_mem _ hz))
  rw [List.length_cons,Nat.add_mul];omega
theorem ZnQ {N:ZJ} (hN:GoodN N):∀ (n h:Nat) (s:List Nat) (x:Nd),lk N h=some x->x.h=n->3*(bel N n h s).length+1<=3*s.length+4 ^ (n+1):=by
 intro n
 induction n with
 | zero =>
  intro h s x hx hh;rw [bel]
  split
  ·omega
  ·rw [lL];simp;omega
 | succ n ih =>
  intro h s x hx hh;rw [bel,Xk hx]
  have hp:4 ^ (n+1+1)=4*4 ^ (n+1):=by rw [Nat.pow_succ];omega
  have h1:0<4 ^ (n+1):=Nat.pow_pos (by decide)
  split
  ·omega
  ·have hk4:=(hN h x hx).1.len
   have hkids:=(hN h x hx).2
   have:=Zfn ih x.ks (s++[h]) (fun k hk=>by obtain ⟨_,y,y1,y2,_⟩:=hkids k hk;exact ⟨y,y1,by omega⟩)
   rw [lL,List.length_singleton] at this
   have h3:(4-x.ks.length)*4 ^ (n+1)+x.ks.length*4 ^ (n+1)=4*4 ^ (n+1):=by rw [<- Nat.add_mul];congr 1;omega
   have h4:(4-x.ks.length)*1<=(4-x.ks.length)*4 ^ (n+1):=Nat.mul_le_mul_left _ h1
   generalize 4 ^ (n+1)=P at *
   generalize (4-x.ks.length)*P=P1 at *
   generalize x.ks.length*P=P2 at *
   omega
theorem ZYJ {τ:List Nat->List Nat->St} {lm mx:Nat} {g:FuncId} {caps:List AV} (hV:Visit τ lm mx g caps) {N:ZJ} {la b:Nat} (hR:∀ u w,Rd (τ u w) la (b+5) N) {h:Nat} {x:Nd} (hx:lk N h=some x) (hk4:x.ks.length<=4) (s:List Nat) (hs:h∉s) (f:Kid->List Nat->List Nat) {B:Nat} (hB:B<=900000000)
 (hlen:∀ i,((x.ks.take i).foldl (fun s k=>f k s) (s++[h])).length<=B)
 (hf:∀ k∈x.ks,∀ (s:List Nat) (more:List (Bool × List Blk)) (L:List Blk),s.length<=B->S Tb JK [.ptr la (b+5) 0 0 0,.int .u64 k.at_,.map lm mx,.func (.func g) [] caps] ⟨(τ s s).ps++more,false,L⟩=some (.int .i64 0,⟨(τ (f k s) (f k s)).ps++more,false,L⟩))
 {more:List (Bool × List Blk)} {st st':St} (hst:st.ps=(τ s s).ps++more) (hst':st'.ps=(τ (x.ks.foldl (fun s k=>f k s) (s++[h])) (x.ks.foldl (fun s k=>f k s) (s++[h]))).ps++more) :
 S Tb JK [.ptr la (b+5) 0 0 0,.int .u64 h,.map lm mx,.func (.func g) [] caps] st=some (.int .i64 0,st'):=by
 refine Xw rfl (fun A hA=>?_)
 have hA2:A=(τ s s).ps++more:=hA.trans hst;clear hA;subst hA2
 have hlk:=fun L=>ZF9 (ZCN (hV.get s s) more false L) h
 simp only [decide_eq_false hs] at hlk;have hl0:=hlen 0;simp only [List.take_zero,List.foldl_nil,lL,List.length_singleton] at hl0
 repeat' (first|refine ZE ?_|refine ZD ?_|refine ZF rfl ?_|refine ZA rfl ?_|refine ZC ?_|refine ZH rfl ?_|refine Ye rfl rfl (hlk _) ?_|refine ZI ?_)
 all_goals try contradiction
 refine ZlJ rfl rfl rfl (hV.wr s s) (hV.get s s) rfl (ZNE h s hs) ?_;rw [hV.upd]
 have hG:=fun L=>ZXu ((hR (s++[h]) s).more more false L) hx hk4
 have hcp:x.copy.av=.agg [.int .i64 x.h,.str x.text,.lit (x.ks.map Kid.av)]:=rfl;rw [hcp] at hG
 obtain ⟨v,hc⟩:=hV.call (s++[h]) s h more [.arr 3 0 [.agg [.int .i64 x.h,.str x.text,.lit (x.ks.map Kid.av)]]] (by omega)
 generalize hA1:(τ (s++[h]) s).ps++more=A1 at *
 repeat' (first|refine ZB rfl rfl (hV.wk h) hc ?_|refine ZE ?_|refine ZD ?_|refine ZF rfl ?_|refine ZQ rfl rfl ?_|refine Zs rfl rfl ?_|refine ZA rfl ?_|refine ZC ?_|(refine Zk rfl rfl (fun _=>?_) (fun _=>?_)<;>try (exfalso;omega))|refine ZH rfl ?_|refine Za rfl rfl rfl ?_|refine Zl rfl rfl rfl rfl rfl rfl ?_|refine ZB rfl rfl rfl (hG _) ?_|refine ZI ?_)
 all_goals try contradiction
 obtain ⟨A2,hA2⟩:∃ A2,A2=(τ (s++[h]) (s++[h])).ps++more:=⟨_,rfl⟩
 have e12:A1.length=A2.length:=by
  have:=hV.len (s++[h]) s (s++[h]) (s++[h])
  rw [<- hA1,hA2];simp only [lL] at this ⊢;omega
 rw [<- hA2,e12]
 repeat' (first|refine ZDE rfl ?_|refine ZF rfl ?_|refine ZP rfl rfl rfl rfl ?_|refine ZA rfl ?_|refine ZC ?_|refine ZL ?_)
 refine Z2 (α:=Nat × List Blk) (fun p=>[(0,.ptr la (b+5) 0 0 0),(2,.map lm mx),(3,.func (.func g) [] caps),(32,.lit (x.ks.map Kid.av)),(33,.int .i64 x.ks.length),(34,.int .i64 p.1)])
  (fun p=>⟨(τ ((x.ks.take p.1).foldl (fun s k=>f k s) (s++[h])) ((x.ks.take p.1).foldl (fun s k=>f k s) (s++[h]))).ps++more,false,.arr 3 0 [.agg [.int .i64 x.h,.str x.text,.lit (x.ks.map Kid.av)]]::p.2⟩) (fun p=>p.1<=x.ks.length) (fun p=>x.ks.length-p.1) (0,[]) rfl (by rw [hA2];rfl) (Nat.zero_le _) ?_
 rintro ⟨i,G⟩ hi
 simp only at hi ⊢
 rcases Nat.lt_or_ge i x.ks.length with hlt|hge
 ·obtain ⟨kd,hk⟩:∃ k,x.ks[i]?=some k:=⟨x.ks[i]'hlt,jE _⟩
  have qk:0<=((i:Nat):Int)/\x.ks[((i:Nat):Int).toNat]?=some kd:=⟨by omega,by rw [show ((i:Nat):Int).toNat=i by omega];exact hk⟩
  have hcl:=fun L=>hf kd (jM hk) _ more L (hlen i)
  have hnx:(x.ks.take (i+1)).foldl (fun s k=>f k s) (s++[h])=f kd ((x.ks.take i).foldl (fun s k=>f k s) (s++[h])):=by
   rw [Zg hk,List.foldl_append];rfl
  rw [<- hnx] at hcl
  generalize hP:(τ ((x.ks.take (i+1)).foldl (fun s k=>f k s) (s++[h])) ((x.ks.take (i+1)).foldl (fun s k=>f k s) (s++[h]))).ps++more=P at *
  generalize (τ ((x.ks.take i).foldl (fun s k=>f k s) (s++[h])) ((x.ks.take i).foldl (fun s k=>f k s) (s++[h]))).ps++more=A3 at *
  repeat' (first|refine YE (f:=Kid.av) rfl rfl qk (fun _=>rfl) ?_|refine ZB rfl rfl (hV.wk2 _ _ _) (hcl _) ?_|refine ZE ?_|refine ZD ?_|refine ZF rfl ?_|refine ZQ rfl rfl ?_|refine ZA rfl ?_|refine ZC ?_|refine JF rfl rfl rfl ?_|refine QM rfl rfl ?_|(refine Zh rfl rfl (fun _=>?_) (fun _=>?_)<;>try (exfalso;omega))|(refine Zk rfl rfl (fun _=>?_) (fun _=>?_)<;>try (exfalso;omega))|refine ZV rfl ?_|refine ZH rfl ?_|refine Zm rfl rfl (by omega) ?_|refine Zw rfl rfl rfl ?_|refine Yf rfl rfl rfl rfl rfl rfl ?_|refine ZI ?_|refine ZL ?_|refine Zy ?_|refine QH ?_)
  all_goals try contradiction
  all_goals try (exfalso;omega)
  refine ⟨(i+1,G++[.arr 4 0 [kd.av]]),⟨rfl,?_⟩,by simp only;omega,by simp only;omega⟩
  simp only
  rw [hP];rfl
 ·obtain rfl:i=x.ks.length:=by omega
  rw [List.take_length]
  repeat' (first|refine ZE ?_|refine ZD ?_|refine ZF rfl ?_|refine ZA rfl ?_|refine ZC ?_|(refine Zh rfl rfl (fun _=>?_) (fun _=>?_)<;>try (exfalso;omega))|refine ZH rfl ?_|refine ZS ?_|refine Zu ?_|refine ZO ?_|refine Ze ?_|refine Zb rfl ?_|refine Zt ?_)
  all_goals try (exfalso;omega)
  refine Zj (st:=st') hst'.symm (.inr rfl) rfl rfl rfl rfl ?_;rfl
theorem ZYK {τ:List Nat->List Nat->St} {lm mx:Nat} {g:FuncId} {caps:List AV} (hV:Visit τ lm mx g caps) {la b:Nat} {h:Nat} (s:List Nat) (hs:h∈s) {more:List (Bool × List Blk)} {st:St} (hst:st.ps=(τ s s).ps++more) :
 S Tb JK [.ptr la (b+5) 0 0 0,.int .u64 h,.map lm mx,.func (.func g) [] caps] st=some (.int .i64 0,st):=by
 refine Xw rfl (fun A hA=>?_)
 have hA2:A=(τ s s).ps++more:=hA.trans hst;have hA0:=hA;clear hA;subst hA2
 have hlk:=fun L=>ZF9 (ZCN (hV.get s s) more false L) h
 simp only [decide_eq_true hs] at hlk
 repeat' (first|refine ZE ?_|refine ZD ?_|refine ZF rfl ?_|refine ZA rfl ?_|refine ZC ?_|refine ZV rfl ?_|refine Ye rfl rfl (hlk _) ?_|refine ZS ?_|refine ZO ?_|refine Zd ?_)
 all_goals try contradiction
 refine Zj (st:=st) hA0 (.inr rfl) rfl rfl rfl rfl ?_;rfl
theorem ZlK {s t:St} (h:s.ps=t.ps):s=t:=by
 obtain ⟨A,r,L⟩:=s;obtain ⟨A',r',L'⟩:=t
 have:=List.append_inj' h rfl
 obtain ⟨rfl,h2⟩:=this;simp only [List.cons.injEq,jP,and_true] at h2;obtain ⟨rfl,rfl⟩:=h2;rfl
theorem ZiD {τ:List Nat->List Nat->St} {lm mx:Nat} {g:FuncId} {caps:List AV} (hV:Visit τ lm mx g caps) {N:ZJ} (hN:GoodN N) {la b:Nat} (hR:∀ u w,Rd (τ u w) la (b+5) N):∀ (n h:Nat) (x:Nd) (s:List Nat),lk N h=some x->x.h=n->s.length+4 ^ (n+1)<=900000000->∀ {more:List (Bool × List Blk)} {st st':St},st.ps=(τ s s).ps++more->st'.ps=(τ (bel N n h s) (bel N n h s)).ps++more ->
 S Tb JK [.ptr la (b+5) 0 0 0,.int .u64 h,.map lm mx,.func (.func g) [] caps] st=some (.int .i64 0,st'):=by
 intro n
 induction n with
 | zero =>
  intro h x s hx hh hb more st st' hst hst'
  by_cases hm:h∈s
  ·rw [bel,if_pos hm,<- hst] at hst'
   rw [ZlK hst'];exact ZYK hV s hm hst
  ·rw [bel,if_neg hm] at hst'
   have hks:x.ks=[]:=by
    rcases (hN h x hx).1 with q|⟨m,ks,q⟩
    ·exact q.ks
    ·have e:=q.eq;subst e;simp at hh
   refine ZYJ hV hR hx (by rw [hks];decide) s hm (fun _ s=>s) (Nat.le_refl _) (fun i=>?_) (fun k hk=>by rw [hks] at hk;simp at hk) hst (by rw [hks];exact hst')
   rw [hks,List.take_nil,List.foldl_nil,lL,List.length_singleton]
   simp at hb;omega
 | succ n ih =>
  intro h x s hx hh hb more st st' hst hst'
  by_cases hm:h∈s
  ·rw [bel,if_pos hm,<- hst] at hst'
   rw [ZlK hst'];exact ZYK hV s hm hst
  ·rw [bel,if_neg hm,Xk hx] at hst'
   have hk4:=(hN h x hx).1.len;have hkids:=(hN h x hx).2
   have hp:4 ^ (n+1+1)=4*4 ^ (n+1):=by rw [Nat.pow_succ];omega
   have h1:4<=4 ^ (n+1):=by rw [Nat.pow_succ];have:0<4 ^ n:=Nat.pow_pos (by decide);omega
   refine ZYJ hV hR hx hk4 s hm (fun k s=>bel N n k.at_ s) (B:=900000000-4 ^ (n+1)) (by omega) (fun i=>?_) (fun k hk s' more' L hl=>?_) hst hst'
   ·have:=Zfn (ZnQ hN n) (x.ks.take i) (s++[h]) (fun k hk=>by obtain ⟨_,y,y1,y2,_⟩:=hkids k (List.mem_of_mem_take hk);exact ⟨y,y1,by omega⟩)
    rw [lL,List.length_singleton] at this
    have hti:(x.ks.take i).length<=4:=by rw [List.length_take];omega
    have h4:(x.ks.take i).length*4 ^ (n+1)<=4*4 ^ (n+1):=Nat.mul_le_mul_right _ hti
    generalize (x.ks.take i).length*4 ^ (n+1)=P2 at *
    generalize 4 ^ (n+1)=P at *
    omega
   ·obtain ⟨_,y,y1,y2,_⟩:=hkids k hk
    exact ih k.at_ y s' y1 (by omega) (by omega) (more:=more'++[(false,L)]) (List.append_assoc ..) (List.append_assoc ..)
theorem Zfo:∀ l:List Tr,(∀ t∈l,4*(t.siz:Int)+4<=t.bytes)->4*(Tr.sizL l:Int)+4*l.length<=Tr.bytesL l
 | [],_=>by simp [Tr.sizL,Tr.bytesL]
 | t::l,h=>by
  have h1:=h t (by simp)
  have h2:=Zfo l fun u hu=>h u (by simp [hu])
  simp only [Tr.sizL,Tr.bytesL,List.length_cons];omega
theorem ZlL {N:ZJ} (hN:GoodN N) {t:Tr} (hv:Val N t):(t.siz:Int)<=t.bytes+1/\(Big t->4*(t.siz:Int)+4<=t.bytes):=by
 have hsz:=hv.size hN;have hps:=hv.pos.2
 induction hv with
 | @kept o h m k x h0 hx hok hh hm hk =>
  have ec:(Tr.mk o h m [] k).siz=1:=by rw [Tr.siz,Tr.sizO_getD,hk];rfl
  have hl:h<=16:=by
   rcases hok with q|⟨n,ks,q⟩
   ·rw [<- hh,q.h];omega
   ·have:=q.n15;have e:=q.eq;subst e;simp only at hh;omega
  rw [ec]
  refine ⟨by omega,fun q=>?_⟩
  have h1:=hsz q;have h2:=(ZE1 hl).1;simp only [Tr.h] at h1;omega
 | @leaf s k h1 h2 hk =>
  have ec:(Tr.mk 0 0 .zero s k).siz=1:=by rw [Tr.siz,Tr.sizO_getD,hk];rfl
  rw [ec]
  refine ⟨by omega,fun q=>?_⟩
  have:=q rfl
  omega
 | @inner h l hh h2 h4 hl hb hv ih =>
  have ec:(Tr.mk 0 (h+1) .zero [] (some l)).siz=Tr.sizL l+1:=by rw [Tr.siz,Tr.sizO];omega
  have eb:(Tr.mk 0 (h+1) .zero [] (some l)).bytes=Tr.bytesL l:=by rw [Tr.bytes,Tr.bytesO];simp [Mea.zero]
  have:=Zfo l fun u hu=>(ih u hu ((hv u hu).size hN) (hv u hu).pos.2).2 (fun q=>hb u hu (by rw [<- hl u hu];exact q))
  rw [ec,eb]
  exact ⟨by omega,fun _=>by omega⟩
theorem ZlM {N:ZJ} {t:Tr} (hv:Val N t):∀ out:List Nat,(∀ h∈out,∃ x,lk N h=some x)->∀ h∈t.kwT out,∃ x,lk N h=some x:=by
 induction hv with
 | @kept o h m k x h0 hx hok hh hm hk =>
  intro out ho a ha;rw [Tr.kwT,Tr.kwO_getD,hk,Tr.kwL] at ha
  split at ha
  ·rcases List.mem_append.1 ha with q|q
   ·exact ho a q
   ·rw [List.mem_singleton.1 q];exact ⟨x,hx⟩
  ·exact ho a ha
 | @leaf s k h1 h2 hk =>
  intro out ho a ha
  rw [Tr.kwT,Tr.kwO_getD,hk,Tr.kwL,if_neg (by simp)] at ha
  exact ho a ha
 | @inner h l hh h2 h4 hl hb hv ih =>
  intro out ho a ha
  rw [Tr.kwT,Tr.kwO,if_neg (by simp)] at ha
  have key:∀ (l:List Tr) (out:List Nat),(∀ t∈l,∀ out:List Nat,(∀ h∈out,∃ x,lk N h=some x)->∀ h∈t.kwT out,∃ x,lk N h=some x)->(∀ h∈out,∃ x,lk N h=some x)->∀ a∈Tr.kwL l out,∃ x,lk N a=some x:=by
   intro l
   induction l with
   | nil=>intro out _ ho a ha;exact ho a ha
   | cons t l ihl =>
    intro out hi ho a ha;rw [Tr.kwL] at ha
    exact ihl (t.kwT out) (fun u hu=>hi u (List.mem_cons_of_mem _ hu)) (hi t (by simp) out ho) a ha
  exact key l out ih ho a ha
theorem Zo8 (h:Nat) (st:St):S Tb YS [.int .u64 h] st=some (.tup [],st):=by
 refine QJ rfl (fun A hA=>?_)
 repeat' (first|refine ZI ?_|refine ZO ?_)
 refine Zj hA (by first|exact .inl rfl|exact .inr rfl) rfl rfl rfl rfl ?_
 rfl
def dr1 (A:List (Bool × List Blk)) (b4 b5 b8:Blk) (u:List Nat):St:=⟨A,false,[b4,b5,b8,.map (YI u),.arr 1 0 [.map A.length 3]]⟩
def dr2 (A:List (Bool × List Blk)) (b4 b5 b8:Blk) (has u o:List Nat):St:=⟨A,false,[b4,b5,b8,.map (YI has),.arr 1 0 [.map A.length 3],.arr 1 o.length (o.map Z6),.arr 1 0 [.ref A.length 5 o.length 0 o.length],.map (YI u)]⟩
theorem ZoT (A:List (Bool × List Blk)) (b4 b5 b8:Blk):Visit (fun u _=>dr1 A b4 b5 b8 u) A.length 3 YS [] where
 len _ _ _ _:=by simp [dr1]
 wr _ _:=by simp [St.wr,dr1]
 get _ _:=St.get_cur ..
 upd _ _ _:=by simp [St.upd,dr1]
 call u w h more L _:=⟨_,Zo8 h _⟩
 wk _:=rfl
 wk2 _ _ _:=rfl
theorem ZoU (A:List (Bool × List Blk)) (b4 b5 b8:Blk) (has u o:List Nat):Cl (dr2 A b4 b5 b8 has u o) [(A.length,5),(A.length,6)] [.arr 1 o.length (o.map Z6),.arr 1 0 [.ref A.length 5 o.length 0 o.length]]:=by
 refine ⟨by simp,rfl,fun k hk=>?_,fun j lv ix b h1 h2=>?_⟩
 ·simp only [List.mem_cons,List.not_mem_nil,or_false] at hk
  rcases hk with rfl|rfl<;>simp [St.wr,dr2]
 ·match j,h1,h2 with
  | 0,h1,h2=>obtain ⟨rfl,rfl⟩:=Prod.mk.inj (Option.some.inj h1);obtain rfl:=Option.some.inj h2;exact St.get_cur ..
  | 1,h1,h2=>obtain ⟨rfl,rfl⟩:=Prod.mk.inj (Option.some.inj h1);obtain rfl:=Option.some.inj h2;exact St.get_cur ..
  | n+2,h1,h2=>simp at h1
theorem ZnR (A:List (Bool × List Blk)) (b4 b5 b8:Blk) (has u o o':List Nat):Ql (dr2 A b4 b5 b8 has u o) [(A.length,5),(A.length,6)] [.arr 1 o'.length (o'.map Z6),.arr 1 0 [.ref A.length 5 o'.length 0 o'.length]]=dr2 A b4 b5 b8 has u o':=by
 simp [Ql,St.upd,dr2]
theorem Zo9 (A:List (Bool × List Blk)) (b4 b5 b8:Blk) (has u o:List Nat) (h:Nat) (more:List (Bool × List Blk)) (L:List Blk) (hl:o.length<1000000000) :
 S Tb YT [.int .u64 h,.ptr A.length 4 0 0 0,.ptr A.length 6 0 0 0] ⟨(dr2 A b4 b5 b8 has u o).ps++more,false,L⟩=some (.tup [],⟨(dr2 A b4 b5 b8 has u (if h∈has then o else o++[h])).ps++more,false,L⟩):=by
 have H:=(ZoU A b4 b5 b8 has u o).more more false L;have hm4:St.get ⟨(dr2 A b4 b5 b8 has u o).ps++more,false,L⟩ A.length 4=some (.arr 1 0 [.map A.length 3]):=ZCN (s:=dr2 A b4 b5 b8 has u o) (St.get_cur ..) more false L;have hm3:St.get ⟨(dr2 A b4 b5 b8 has u o).ps++more,false,L⟩ A.length 3=some (.map (YI has)):=ZCN (s:=dr2 A b4 b5 b8 has u o) (St.get_cur ..) more false L
 by_cases hm:h∈has
 ·rw [if_pos hm]
  refine QJ rfl (fun A1 hA=>?_)
  have g4:=fun L'=>ZU hA (ro:=false) (L:=L') hm4
  have hlk:=fun L'=>ZF9 (ZU hA (ro:=false) (L:=L') hm3) h
  simp only [decide_eq_true hm] at hlk
  repeat' (first|refine ZE ?_|refine ZD ?_|refine ZF rfl ?_|refine ZA rfl ?_|refine ZC ?_|refine ZH rfl ?_|refine Jc rfl rfl ?_|refine Z9 rfl (g4 _) rfl rfl ?_|refine Ye rfl rfl (hlk _) ?_|refine ZI ?_|refine ZO ?_)
  all_goals try contradiction
  refine Zj hA (by first|exact .inl rfl|exact .inr rfl) rfl rfl rfl rfl ?_
  rfl
 ·rw [if_neg hm]
  have e:Ql ⟨(dr2 A b4 b5 b8 has u o).ps++more,false,L⟩ [(A.length,5),(A.length,6)] [.arr 1 (o++[h]).length ((o++[h]).map Z6),.arr 1 0 [.ref A.length 5 (o++[h]).length 0 (o++[h]).length]]=⟨(dr2 A b4 b5 b8 has u (o++[h])).ps++more,false,L⟩:=by
   rw [ZQD (fun k hk=>by simp only [List.mem_cons,List.not_mem_nil,or_false] at hk;rcases hk with rfl|rfl<;>exact Nat.le_refl _),ZnR]
  rw [<- e]
  refine Xw rfl (fun A1 hA=>?_)
  have hA':A1=(Ql ⟨(dr2 A b4 b5 b8 has u o).ps++more,false,L⟩ [(A.length,5),(A.length,6)] [.arr 1 o.length (o.map Z6),.arr 1 0 [.ref A.length 5 o.length 0 o.length]]).ps:=by rw [H.same];exact hA
  have g4:=fun L'=>ZU hA (ro:=false) (L:=L') hm4
  have hlk:=fun L'=>ZF9 (ZU hA (ro:=false) (L:=L') hm3) h
  simp only [decide_eq_false hm] at hlk
  have g6:=fun L'=>H.old hA' rfl rfl (ro:=false) (L:=L') (j:=1) rfl rfl
  repeat' (first|refine ZE ?_|refine ZD ?_|refine ZF rfl ?_|refine ZA rfl ?_|refine ZC ?_|refine ZV rfl ?_|refine Jc rfl rfl ?_|refine Qa rfl rfl rfl rfl ?_|refine Z9 rfl (g4 _) rfl rfl ?_|refine Ye rfl rfl (hlk _) ?_|refine Z9 rfl (g6 _) rfl rfl ?_)
  all_goals try contradiction
  refine Zhm (es:=o.map Z6) (ys:=[.int .u64 h]) H hA' rfl rfl (j:=0) rfl rfl (by rw [List.length_map];rfl) rfl rfl rfl rfl (by rw [List.length_map,List.length_singleton];omega) (by decide) (fun A2 hA2 _=>?_)
  skip
  refine ZQB H hA2 rfl rfl (j:=1) rfl rfl rfl rfl rfl (Jr _ (Nat.lt_succ_self _)) rfl (fun A3 hA3 _=>?_)
  repeat' (first|refine ZA rfl ?_|refine ZO ?_)
  have e3:((([Blk.arr 1 o.length (o.map Z6),Blk.arr 1 0 [.ref A.length 5 o.length 0 o.length]].set 0 (.arr 1 (o.length+1) (o.map Z6++[.int .u64 h]))).set 1 (.arr 1 0 ([AV.ref A.length 5 o.length 0 o.length].set 0 (.ref A.length 5 (o.length+1) 0 ((o.map Z6).length+[AV.int .u64 (h:Int)].length))))))=[.arr 1 (o++[h]).length ((o++[h]).map Z6),.arr 1 0 [.ref A.length 5 (o++[h]).length 0 (o++[h]).length]]:=by
   simp [Z6]
  replace hA3:A3=(Ql ⟨(dr2 A b4 b5 b8 has u o).ps++more,false,L⟩ [(A.length,5),(A.length,6)] [.arr 1 (o++[h]).length ((o++[h]).map Z6),.arr 1 0 [.ref A.length 5 (o++[h]).length 0 (o++[h]).length]]).ps:=by rw [<- e3];exact hA3
  refine Zj hA3 (.inl rfl) rfl rfl rfl rfl ?_;rfl
theorem ZoV (A:List (Bool × List Blk)) (b4 b5 b8:Blk) (has:List Nat):Visit (fun u w=>dr2 A b4 b5 b8 has u (w.filter fun h=>decide (h∉has))) A.length 7 YT [.ptr A.length 4 0 0 0,.ptr A.length 6 0 0 0] where
 len _ _ _ _:=by simp [dr2]
 wr _ _:=by simp [St.wr,dr2]
 get _ _:=St.get_cur ..
 upd _ _ _:=by simp [St.upd,dr2]
 call u w h more L hl:=by
  refine ⟨.tup [],(Zo9 A b4 b5 b8 has u (w.filter fun h=>decide (h∉has)) h more L (Nat.lt_of_le_of_lt (List.length_filter_le ..) hl)).trans ?_⟩
  rw [List.filter_append]
  by_cases hm:h∈has
  ·rw [if_pos hm,show ([h].filter fun h=>decide (h∉has))=[] by simp [hm],lN]
  ·rw [if_neg hm,show ([h].filter fun h=>decide (h∉has))=[h] by simp [hm]]
 wk _:=rfl
 wk2 _ _ _:=rfl
def ZQL (N:ZJ) (l:List Nat):List Nat:=l.foldl (fun s h=>bel N (ZBa N h).h h s) []
def Xy (N:ZJ) (r:Ro) (t:Tr):List Nat:=if r.at_=0 then [] else (bel N r.h r.at_ []).filter fun h=>decide (h∉ZQL N (t.kwT []))
theorem ZoW {N:ZJ} (hN:GoodN N) {h:Nat} {x:Nd} (h0:h≠0) (hx:lk N h=some x):x.h<=13 :=
 RtOk.h13 hN (r:=⟨h,x.h,x.mea⟩) (.inr ⟨h0,x,hx,(hN h x hx).1,rfl,rfl⟩)
def Lv (N:ZJ) (l:List Nat):Prop:=l.Nodup/\∀ o∈l,∃ x,lk N o=some x
theorem Lv.snoc {N:ZJ} {l:List Nat} (h:Lv N l) {o:Nat} (ho:∃ x,lk N o=some x) (hn:o∉l):Lv N (l++[o]):=by
 refine ⟨?_,fun a ha=>?_⟩
 ·rw [List.nodup_append]
  refine ⟨h.1,by simp,fun x hx y hy=>?_⟩
  rw [List.mem_singleton] at hy;intro e;rw [e,hy] at hx;exact hn hx
 ·rcases List.mem_append.1 ha with q|q
  ·exact h.2 a q
  ·rw [List.mem_singleton.1 q];exact ho
theorem ZhD {N:ZJ} (hN:GoodN N):∀ (n h:Nat) (s:List Nat) (x:Nd),lk N h=some x->x.h=n->Lv N s->Lv N (bel N n h s):=by
 intro n
 induction n with
 | zero =>
  intro h s x hx hh hs;rw [bel]
  split
  ·exact hs
  ·rename_i q;exact hs.snoc ⟨x,hx⟩ q
 | succ n ih =>
  intro h s x hx hh hs;rw [bel,Xk hx]
  split
  ·exact hs
  ·rename_i q
   have key:∀ (ks:List Kid) (s:List Nat),(∀ k∈ks,∃ y,lk N k.at_=some y/\y.h=n)->Lv N s->Lv N (ks.foldl (fun s k=>bel N n k.at_ s) s):=by
    intro ks
    induction ks with
    | nil=>intro s _ h;exact h
    | cons k l ihl =>
     intro s hk h
     obtain ⟨y,y1,y2⟩:=hk k (by simp)
     exact ihl _ (fun z hz=>hk z (List.mem_cons_of_mem _ hz)) (ih k.at_ s y y1 y2 h)
   exact key x.ks _ (fun k hk=>by obtain ⟨_,y,y1,y2,_⟩:=(hN h x hx).2 k hk;exact ⟨y,y1,by omega⟩) (hs.snoc ⟨x,hx⟩ q)
theorem ZnS {N:ZJ} (hN:GoodN N) {l:List Nat} (hl:∀ h∈l,∃ x,lk N h=some x):Lv N (ZQL N l):=by
 have key:∀ (l s:List Nat),(∀ h∈l,∃ x,lk N h=some x)->Lv N s->Lv N (l.foldl (fun s h=>bel N (ZBa N h).h h s) s):=by
  intro l
  induction l with
  | nil=>intro s _ h;exact h
  | cons a l ih =>
   intro s hl h
   obtain ⟨x,hx⟩:=hl a (by simp)
   refine ih _ (fun z hz=>hl z (List.mem_cons_of_mem _ hz)) ?_
   show Lv N (bel N (ZBa N a).h a s)
   rw [Xk hx];exact ZhD hN _ a s x hx rfl h
 exact key l [] hl ⟨by simp,by simp⟩
theorem ZoX {N:ZJ} (hN:∀ o x,lk N o=some x->o≠0) {t:Tr} (hv:VE N t):∀ h∈t.kwT [],h≠0/\∃ x,lk N h=some x:=by
 intro h hh
 rcases hv with q|q
 ·obtain ⟨o,th,m,s,k⟩:=t
  have e1:=q.old;have e2:=q.ks;simp only [Tr.old,Tr.ks] at e1 e2;rw [Tr.kwT,Tr.kwO_getD,e2,Tr.kwL,e1] at hh
  simp at hh
 ·obtain ⟨x,hx⟩:=ZlM q [] (by simp) h hh
  exact ⟨hN h x hx,x,hx⟩
theorem ZlN {N:ZJ} (hN:GoodN N) {t:Tr} (hv:VE N t) (hb:t.bytes<=65536):t.siz<4294967296:=by
 rcases hv with q|q
 ·obtain ⟨o,th,m,s,k⟩:=t
  have e2:=q.ks;simp only [Tr.ks] at e2;rw [Tr.siz,Tr.sizO_getD,e2,Tr.sizL];omega
 ·have:=(ZlL hN q).1;omega
theorem ZQM {st:St} {la b:Nat} {N:ZJ} (hN:GoodN N) (hK:∀ l,Lv N l->l.length<=16384) (hz:∀ o x,lk N o=some x->o≠0) (hR:Rd st la (b+5) N) {r:Ro} (hr:RtOk N r) {t:Tr} (hv:VE N t) (hb:t.bytes<=65536) :
 S Tb ZAd [.ptr la (b+5) 0 0 0,r.av,t.av] st=some (.tup [.lit ((Xy N r t).map Z6),.int .i64 0],st):=by
 refine QJ rfl (fun A hA=>?_)
 have hRA:=fun L=>hR.push hA (ro:=false) (L:=L)
 have hKp:=fun L=>ZNF (hRA L) hr
 have hCk:=fun L=>ZHu (hRA L) hv hb
 have hKt:=fun st=>ZoM hv.pos.1 (ZlN hN hv hb) st
 have hkw:=ZoX hz hv;have hkl:=Tr.kwT_len t [];have hsz:=ZlN hN hv hb;unfold Xy
 generalize t.kwT []=kl at *
 simp only [List.length_nil] at hkl
 have hP13:∀ n,n<=13->4 ^ (n+1)<=268435456:=fun n hn=>by
  have:4 ^ (n+1)<=4 ^ 14:=Nat.pow_le_pow_right (by decide) (by omega)
  exact this
 have hB1:∀ (i h:Nat),kl[i]?=some h->S Tb JK [.ptr la (b+5) 0 0 0,.int .u64 h,.map A.length 3,.func (.func YS) [] []] (dr1 A (.arr 5 0 [r.av]) (.arr 7 0 [t.av]) (.arr 7 0 [(YW r).av]) (ZQL N (kl.take i)))=some (.int .i64 0,dr1 A (.arr 5 0 [r.av]) (.arr 7 0 [t.av]) (.arr 7 0 [(YW r).av]) (ZQL N (kl.take (i+1)))):=by
  intro i h hi;obtain ⟨h0,x,hx⟩:=hkw h (jM hi)
  have hlv:=ZnS hN (l:=kl.take i) (fun z hz=>(hkw z (List.mem_of_mem_take hz)).2)
  have:=hK _ hlv
  have:=hP13 _ (ZoW hN h0 hx)
  have e:ZQL N (kl.take (i+1))=bel N x.h h (ZQL N (kl.take i)):=by
   rw [Zg hi];unfold ZQL;rw [List.foldl_append,List.foldl_cons,List.foldl_nil,Xk hx]
  rw [e]
  exact ZiD (ZoT A _ _ _) hN (fun _ _=>hRA _) x.h h x _ hx rfl (by omega) (more:=[]) (lN _).symm (lN _).symm
 have hB2:r.at_≠0->S Tb JK [.ptr la (b+5) 0 0 0,.int .u64 r.at_,.map A.length 7,.func (.func YT) [] [.ptr A.length 4 0 0 0,.ptr A.length 6 0 0 0]] (dr2 A (.arr 5 0 [r.av]) (.arr 7 0 [t.av]) (.arr 7 0 [(YW r).av]) (ZQL N kl) [] [])=some (.int .i64 0,dr2 A (.arr 5 0 [r.av]) (.arr 7 0 [t.av]) (.arr 7 0 [(YW r).av]) (ZQL N kl) (bel N r.h r.at_ []) ((bel N r.h r.at_ []).filter fun h=>decide (h∉ZQL N kl))):=by
  intro h0
  obtain ⟨x,x1,x2,x3,x4⟩:∃ x,lk N r.at_=some x/\NdOk x/\x.h=r.h/\x.mea=r.m:=by
   rcases hr with rfl|w
   ·exact absurd rfl h0
   ·exact w.2
  have:=hP13 _ (hr.h13 hN)
  exact ZiD (ZoV A (.arr 5 0 [r.av]) (.arr 7 0 [t.av]) (.arr 7 0 [(YW r).av]) (ZQL N kl)) hN (fun _ _=>hRA _) r.h r.at_ x [] x1 x3 (by simp only [List.length_nil];omega) (more:=[]) (lN _).symm (lN _).symm
 have hkll:kl.length<1000000000:=by
  have:kl.length<=t.siz:=by omega
  have h2:(t.siz:Int)<=65537:=by
   rcases hv with q|q
   ·obtain ⟨o,th,m,s,k⟩:=t
    have e2:=q.ks;simp only [Tr.ks] at e2;rw [Tr.siz,Tr.sizO_getD,e2,Tr.sizL];decide
   ·have:=(ZlL hN q).1;omega
  omega
 unfold dr1 at hB1;unfold dr2 at hB2;obtain ⟨ra,rh,rm⟩:=r
 unfold Ro.av at *
 generalize YW ⟨ra,rh,rm⟩=kt at *
 repeat' (first|refine ZE ?_|refine ZD ?_|refine ZF rfl ?_|refine ZP rfl rfl rfl rfl ?_|refine Zs rfl rfl ?_|refine ZA rfl ?_|refine ZC ?_|(refine Zk rfl rfl (fun _=>?_) (fun _=>?_)<;>try (exfalso;omega))|refine ZH rfl ?_|refine Za rfl rfl rfl ?_|refine ZCd rfl ?_|refine ZB rfl rfl (by first|rfl|(simp only [lE,lN,lC,ZZ,ZW,ZX];first|done|rfl)) (hKp _) ?_|refine ZB rfl rfl (by first|rfl|(simp only [lE,lN,lC,ZZ,ZW,ZX];first|done|rfl)) (hCk _) ?_|refine ZP rfl rfl rfl (Zq _) ?_|refine Zl rfl rfl rfl (Z8 _ _ _) (QY _ _) rfl ?_|refine Zw rfl (Z5 _) (QI _) ?_|refine ZI ?_)
 all_goals try contradiction
 refine Zl rfl rfl rfl (by simp only [ZY,QD,if_pos (Nat.lt_succ_self _)]) rfl rfl ?_
 repeat' (first|refine ZP rfl rfl rfl (Zq _) ?_|refine ZDE rfl ?_|refine ZE ?_|refine ZD ?_|refine ZF rfl ?_|refine ZA rfl ?_|refine ZC ?_|refine ZB rfl rfl (by first|rfl|(simp only [lE,lN,lC,ZZ,ZW,ZX];first|done|rfl)) (hKt _) ?_|refine ZL ?_)
 refine Z2 (α:=Nat) (fun i=>[(0,.ptr la (b+5) 0 0 0),(4,.ptr A.length 0 0 0 0),(11,.ptr A.length 4 0 0 0),(34,.lit (kl.map Z6)),(35,.int .i64 kl.length),(36,.int .i64 i)])
  (fun i=>⟨A,false,[.arr 5 0 [Ro.av ⟨ra,rh,rm⟩],.arr 7 0 [t.av],.arr 7 0 [kt.av],.map (YI (ZQL N (kl.take i))),.arr 1 0 [.map A.length 3]]⟩) (fun i=>i<=kl.length) (fun i=>kl.length-i) 0 rfl rfl (Nat.zero_le _) ?_
 intro i hi;replace hi:i<=kl.length:=hi;unfold Ro.av
 rcases Nat.lt_or_ge i kl.length with hlt|hge
 ·obtain ⟨h,hh⟩:∃ x,kl[i]?=some x:=⟨kl[i]'hlt,jE _⟩
  have q:0<=((i:Nat):Int)/\kl[((i:Nat):Int).toNat]?=some h:=⟨by omega,by rw [show ((i:Nat):Int).toNat=i by omega];exact hh⟩
  have hB:=hB1 i h hh
  repeat' (first|refine YE (f:=Z6) rfl rfl q (fun _=>rfl) ?_|refine ZB rfl rfl rfl hB ?_|refine ZE ?_|refine ZD ?_|refine ZF rfl ?_|refine ZP rfl rfl rfl rfl ?_|refine ZA rfl ?_|refine ZC ?_|refine QM rfl rfl ?_|(refine Zh rfl rfl (fun _=>?_) (fun _=>?_)<;>try (exfalso;omega))|(refine Zk rfl rfl (fun _=>?_) (fun _=>?_)<;>try (exfalso;omega))|refine ZV rfl ?_|refine ZH rfl ?_|refine Zm rfl rfl (by omega) ?_|refine ZI ?_|refine ZL ?_|refine Zy ?_|refine QH ?_)
  all_goals try contradiction
  all_goals try (exfalso;omega)
  exact ⟨i+1,⟨rfl,rfl⟩,by omega,by omega⟩
 ·obtain rfl:i=kl.length:=by omega
  rw [List.take_length]
  by_cases h0:ra=0
  ·subst h0
   repeat' (first|refine ZKN ?_|refine ZE ?_|refine ZD ?_|refine ZF rfl ?_|refine ZQ rfl rfl ?_|refine ZP rfl rfl rfl rfl ?_|refine ZA rfl ?_|refine ZC ?_|(refine Zh rfl rfl (fun _=>?_) (fun _=>?_)<;>try (exfalso;omega))|(refine Zp rfl rfl (fun _=>?_) (fun _=>?_)<;>try (exfalso;omega))|refine ZV rfl ?_|refine ZH rfl ?_|refine ZBA rfl rfl ?_|refine ZCd rfl ?_|refine ZI ?_|refine ZS ?_|refine Zu ?_|refine ZO ?_|refine Zd ?_|refine Ze ?_|refine Zb rfl ?_|refine Zt ?_)
   all_goals try contradiction
   all_goals try (exfalso;omega)
   refine Zj hA (by first|exact .inl rfl|exact .inr rfl) rfl rfl rfl rfl ?_
   rfl
  ·have hB:=hB2 h0
   have h0i:((ra:Nat):Int)≠0:=by omega
   simp only [if_neg h0]
   generalize (bel N rh ra []).filter (fun h=>decide (h∉ZQL N kl))=out at *
   repeat' (first|refine ZKN ?_|refine ZB rfl rfl rfl hB ?_|refine ZE ?_|refine ZD ?_|refine ZF rfl ?_|refine ZQ rfl rfl ?_|refine ZP rfl rfl rfl rfl ?_|refine ZA rfl ?_|refine ZC ?_|(refine Zh rfl rfl (fun _=>?_) (fun _=>?_)<;>try (exfalso;omega))|(refine Zp rfl rfl (fun _=>?_) (fun _=>?_)<;>try (exfalso;omega))|(refine Zk rfl rfl (fun _=>?_) (fun _=>?_)<;>try (exfalso;omega))|refine ZH rfl ?_|refine ZBA rfl rfl ?_|refine ZCd rfl ?_|refine ZI ?_|refine ZS ?_|refine Zu ?_|refine ZO ?_|refine Ze ?_|refine Zb rfl ?_|refine Zt ?_)
   all_goals try contradiction
   all_goals try (exfalso;omega)
   exact ZKv hA (.inr rfl) rfl rfl (by simp) (fun v hv=>by obtain ⟨x,_,rfl⟩:=List.mem_map.1 hv;rfl) rfl rfl
def DrOk (M:Nat) (G:List Blk) (dv:AV) (w:List Nat):Prop:=(w=[]/\dv=.nils)\/∃ j ver,dv=.ref M (j+4) ver 0 w.length/\w≠[]/\G[j]?=some (.arr 1 ver (w.map Z6))
def chL (b6:Blk) (t:Tr) (dv:AV) (w:List Nat) (G:List Blk):List Blk :=
 b6::.arr 7 0 [t.av]::.arr 7 0 [.agg [.int .u64 0,.int .i64 0,.int .i64 0,.int .i64 0,.int .i64 0,.nils,dv]]::.map (YI w)::G
theorem Zfp {O:Orc} {k:List Fr} {Q:Jv} {e:Env} {A:List (Bool × List Blk)} {L:List Blk} {keep:List Nat} {is:List QAbs.PI} {x i v:Opd} {ix h:Nat} {w:AV} {es es':List (AV × AV)} (hx:Zc e x=some (.map A.length ix)) (hi:Zc e i=some (.int .u64 h)) (hv:Zc e v=some w) (hg:L[ix]?=some (.map es))
 (hs:ZY QD (A.length+1) ⟨A,false,L⟩ w=some (w,⟨A,false,L⟩)) (hp:ZCT (.int .u64 h) w es=some es')
 (hh:Is O is keep k Q e ⟨A,false,L.set ix (.map es')⟩):Is O (⟨none,none,false,.mupd 0 x i v⟩::is) keep k Q e ⟨A,false,L⟩:=by
 have hlt:=(List.getElem?_eq_some_iff.1 hg).1;refine Z1 (od:=none) (v:=.undef) (st':=⟨A,false,L.set ix (.map es')⟩) ?_ hh;simp only [Zf,evalPO,ZG hx,ZG hi,ZG hv,ZG4,YL,if_true,hs,oS,ZIp,St.get_cur,hg,vis,ZFC,hp,St.put,if_false,jB,if_pos hlt,ZBO]
theorem ZbP:∀ (l w:List Nat),(l.foldl JU w).length<=w.length+l.length:=by
 intro l
 induction l with
 | nil=>intro w;simp
 | cons a l ih =>
  intro w;rw [List.foldl_cons]
  have h1:(JU w a).length<=w.length+1:=by unfold JU;split<;>simp
  have h2:=ih (JU w a);rw [List.length_cons];omega
theorem ZlO {A:List (Bool × List Blk)} {b6:Blk} {t:Tr} {dv:AV} {w dl:List Nat} {G:List Blk} (h0:DrOk A.length G dv w) (hl:w.length+dl.length<100000000) {v0 v29 v30 v31:AV} {k:List Fr} {Q:Jv}
 (hQ:∀ G' dv',DrOk A.length G' dv' (dl.foldl JU w)->Rk (S Tb) k Q .norm [(0,v0),(6,.ptr A.length 0 0 0 0),(8,.ptr A.length 1 0 0 0),(10,.ptr A.length 2 0 0 0),(11,.map A.length 3),(29,v29),(30,v30),(31,v31),(46,.lit (dl.map Z6)),(47,.int .i64 dl.length),(48,.int .i64 dl.length),(49,.bool false)] ⟨A,false,chL b6 t dv' (dl.foldl JU w) G'⟩) :
 Ru (S Tb) p_edit_change_19.loop (.blk 2::k) Q [(0,v0),(6,.ptr A.length 0 0 0 0),(8,.ptr A.length 1 0 0 0),(10,.ptr A.length 2 0 0 0),(11,.map A.length 3),(29,v29),(30,v30),(31,v31),(46,.lit (dl.map Z6)),(47,.int .i64 dl.length),(48,.int .i64 0)] ⟨A,false,chL b6 t dv w G⟩:=by
 refine Z2 (α:=Nat × AV × List Blk) (fun p=>[(0,v0),(6,.ptr A.length 0 0 0 0),(8,.ptr A.length 1 0 0 0),(10,.ptr A.length 2 0 0 0),(11,.map A.length 3),(29,v29),(30,v30),(31,v31),(46,.lit (dl.map Z6)),(47,.int .i64 dl.length),(48,.int .i64 p.1)])
  (fun p=>⟨A,false,chL b6 t p.2.1 ((dl.take p.1).foldl JU w) p.2.2⟩) (fun p=>p.1<=dl.length/\DrOk A.length p.2.2 p.2.1 ((dl.take p.1).foldl JU w)) (fun p=>dl.length-p.1) (0,dv,G) rfl rfl ⟨Nat.zero_le _,h0⟩ ?_
 rintro ⟨i,dv1,G1⟩ ⟨hi,hD⟩
 simp only at hi hD ⊢
 have hwl:=ZbP (dl.take i) w;rw [List.length_take,Nat.min_eq_left hi] at hwl
 rcases Nat.lt_or_ge i dl.length with hlt|hge
 ·obtain ⟨h,hh⟩:∃ x,dl[i]?=some x:=⟨dl[i]'hlt,jE _⟩
  have q:0<=((i:Nat):Int)/\dl[((i:Nat):Int).toNat]?=some h:=⟨by omega,by rw [show ((i:Nat):Int).toNat=i by omega];exact hh⟩
  have hnx:(dl.take (i+1)).foldl JU w=JU ((dl.take i).foldl JU w) h:=by rw [Zg hh,List.foldl_append];rfl
  generalize (dl.take i).foldl JU w=W at *
  have hlk:=ZF9 (st:=⟨A,false,chL b6 t dv1 W G1⟩) (lv:=A.length) (mx:=3) (St.get_cur ..) h
  by_cases hm:h∈W
  ·simp only [decide_eq_true hm] at hlk
   rw [show JU W h=W by unfold JU;rw [if_pos hm]] at hnx
   unfold chL at *
   repeat' (first|refine YE (f:=Z6) rfl rfl q (fun _=>rfl) ?_|refine ZE ?_|refine ZD ?_|refine ZF rfl ?_|refine ZA rfl ?_|refine ZC ?_|refine QM rfl rfl ?_|(refine Zh rfl rfl (fun _=>?_) (fun _=>?_)<;>try (exfalso;omega))|refine ZV rfl ?_|refine ZH rfl ?_|refine Jc rfl rfl ?_|refine Zm rfl rfl (by omega) ?_|refine Ye rfl rfl hlk ?_|refine ZI ?_|refine ZL ?_|refine Zy ?_|refine QH ?_)
   all_goals try contradiction
   all_goals try (exfalso;omega)
   exact ⟨(i+1,dv1,G1),⟨rfl,by simp only [hnx]⟩,⟨by simp only;omega,by simp only [hnx];exact hD⟩,by simp only;omega⟩
  ·simp only [decide_eq_false hm] at hlk
   rw [show JU W h=W++[h] by unfold JU;rw [if_neg hm]] at hnx
   have hpe:=ZNE h W hm
   rcases hD with ⟨rfl,rfl⟩|⟨j,ver,rfl,hW,hg⟩
   ·unfold chL at *
    repeat' (first|refine YE (f:=Z6) rfl rfl q (fun _=>rfl) ?_|refine ZE ?_|refine ZD ?_|refine ZF rfl ?_|refine ZA rfl ?_|refine ZC ?_|refine QM rfl rfl ?_|(refine Zh rfl rfl (fun _=>?_) (fun _=>?_)<;>try (exfalso;omega))|refine ZV rfl ?_|refine Jc rfl rfl ?_|refine Ye rfl rfl hlk ?_|refine ZI ?_|refine ZL ?_)
    all_goals try contradiction
    all_goals try (exfalso;omega)
    refine Zfp rfl rfl rfl rfl rfl hpe ?_
    repeat' (first|refine ZD ?_|refine ZF rfl ?_|refine ZQ rfl rfl ?_|refine ZP rfl rfl rfl rfl ?_|refine ZA rfl ?_|refine ZC ?_|refine Qa rfl rfl rfl rfl ?_)
    refine ZKO (vx:=.lit [.int .u64 h]) (ys:=[.int .u64 h]) (bytes:=8) rfl rfl rfl (by simp) (by decide) rfl ?_
    repeat' (first|refine ZD ?_|refine ZF rfl ?_|refine ZQ rfl rfl ?_|refine ZA rfl ?_|refine ZC ?_|refine Zm rfl rfl (by omega) ?_|refine Qo rfl rfl rfl rfl (Jr _ (Nat.lt_succ_self _)) rfl ?_|refine Zy ?_|refine QH ?_)
    refine ⟨(i+1,.ref A.length (G1.length+4) 0 0 1,G1++[.arr 1 0 [.int .u64 h]]),⟨rfl,?_⟩,⟨by simp only;omega,?_⟩,by simp only;omega⟩
    ·simp only [hnx];rfl
    ·simp only [hnx]
     exact .inr ⟨G1.length,0,rfl,by simp,List.getElem?_concat_length ..⟩
   ·have hj:=(List.getElem?_eq_some_iff.1 hg).1
    have hg2:∀ b0 b1 b2 b3:Blk,(b0::b1::b2::b3::G1)[j+4]?=some (.arr 1 ver (W.map Z6)):=fun _ _ _ _=>hg
    unfold chL at *
    repeat' (first|refine YE (f:=Z6) rfl rfl q (fun _=>rfl) ?_|refine ZE ?_|refine ZD ?_|refine ZF rfl ?_|refine ZA rfl ?_|refine ZC ?_|refine QM rfl rfl ?_|(refine Zh rfl rfl (fun _=>?_) (fun _=>?_)<;>try (exfalso;omega))|refine ZV rfl ?_|refine Jc rfl rfl ?_|refine Ye rfl rfl hlk ?_|refine ZI ?_|refine ZL ?_)
    all_goals try contradiction
    all_goals try (exfalso;omega)
    refine Zfp rfl rfl rfl rfl rfl hpe ?_
    repeat' (first|refine ZD ?_|refine ZF rfl ?_|refine ZQ rfl rfl ?_|refine ZP rfl rfl rfl rfl ?_|refine ZA rfl ?_|refine ZC ?_|refine Qa rfl rfl rfl rfl ?_)
    refine ZCC (es:=W.map Z6) (ys:=[.int .u64 h]) rfl rfl (hg2 _ _ _ _) (by rw [List.length_map]) rfl rfl (by simp;omega) (by decide) ?_
    repeat' (first|refine ZD ?_|refine ZF rfl ?_|refine ZQ rfl rfl ?_|refine ZA rfl ?_|refine ZC ?_|refine Zm rfl rfl (by omega) ?_|refine Qo rfl rfl rfl rfl (Jr _ (Nat.lt_succ_self _)) rfl ?_|refine Zy ?_|refine QH ?_)
    refine ⟨(i+1,.ref A.length (j+4) (ver+1) 0 (W.length+1),G1.set j (.arr 1 (ver+1) (W.map Z6++[.int .u64 h]))),⟨rfl,?_⟩,⟨by simp only;omega,?_⟩,by simp only;omega⟩
    ·simp only [hnx];rfl
    ·simp only [hnx]
     refine .inr ⟨j,ver+1,by simp,by simp,?_⟩
     rw [List.getElem?_set_self hj,List.map_append];rfl
 ·obtain rfl:i=dl.length:=by omega
  rw [List.take_length] at hD ⊢
  repeat' (first|refine ZE ?_|refine ZD ?_|refine ZA rfl ?_|refine ZC ?_|(refine Zh rfl rfl (fun _=>?_) (fun _=>?_)<;>try (exfalso;omega))|refine ZH rfl ?_|refine Zu ?_|refine Ze ?_|refine Zb rfl ?_|refine Zt ?_)
  all_goals try (exfalso;omega)
  exact hQ G1 dv1 hD
def slH (l:List Nat):AV:=if l=[] then .nils else .lit (l.map Z6)
def Qz (ro:Ro) (fresh:List Nat) (d:AV):AV:=.agg [.int .u64 ro.at_,.int .i64 ro.h,.int .i64 ro.m.b,.int .i64 ro.m.r,.int .i64 ro.m.l,.lit (fresh.map Z6),d]
def chZ:AV:=.agg [.int .u64 0,.int .i64 0,.int .i64 0,.int .i64 0,.int .i64 0,.nils,.nils]
theorem ZlP {b lv ix ver q n:Nat} {ro:Ro} {fr:List Nat} (st:St) (hl:lv<b):ZY QD b st (Qz ro fr (.ref lv ix ver q n))=some (Qz ro fr (.ref lv ix ver q n),st):=by
 show (mapSt (keepN (ZY 5 b)) _ _).bind ZIQ=_
 simp only [mapSt,keepN,ZAB,jB,if_false,ZY,oS,if_pos hl,Xl,ZIQ];rfl
theorem ZlQ {A:List (Bool × List Blk)} {L:List Blk} {ix ver n:Nat} {ro:Ro} {fr d:List Nat} {z:Int} (hg:L[ix]?=some (.arr 1 ver (d.map Z6))) (hn:n=d.length) :
 ZY QD A.length ⟨A,false,L⟩ (.tup [Qz ro fr (.ref A.length ix ver 0 n),.int .i64 z])=some (.tup [Qz ro fr (.lit (d.map Z6)),.int .i64 z],⟨A,false,L.set ix .dead⟩):=by
 subst hn
 have h1:=ZIB (n:=3) (A:=A) (s:=0) (m:=d.length) hg (by simp) (es':=d.map Z6) (by
  rw [List.drop_zero,List.take_of_length_le (by simp)]
  exact ZQC (k:=.u64) (fun n:Nat=>(n:Int)) 2 0 _ d)
 show (mapSt (ZY 5 A.length) _ _).bind Zbe=_
 have h2:ZY 5 A.length ⟨A,false,L⟩ (Qz ro fr (.ref A.length ix ver 0 d.length))=some (Qz ro fr (.lit (d.map Z6)),⟨A,false,L.set ix .dead⟩):=by
  show (mapSt (keepN (ZY 4 A.length)) _ _).bind ZIQ=_
  simp only [mapSt,keepN,ZAB,jB,if_false,oS];simp only [ZY,oS] at h1 ⊢;simp only [h1,oS,Xl,ZIQ];rfl
 simp only [mapSt,h2,oS];rfl
theorem ZD9 {e:Env} {A:List (Bool × List Blk)} {st:St} {L L':List Blk} {x:Ex} {c4 c5 j4 w4 v4:Nat} {v w:AV} {cs:List AV} {z:Int} (hA:A=st.A++[(st.ro,st.L)]) (hx:x=.norm\/x=.ret) (h4:J0 e c4=some (.ptr A.length j4 v4 0 0)) (hg4:L[j4]?=some (.arr w4 v4 [v])) (hv:v=.agg cs) (hc:cs.length=7) (h5:J0 e c5=some (.int .i64 z))
 (hs:ZY QD A.length ⟨A,false,L⟩ (.tup [v,.int .i64 z])=some (.tup [w,.int .i64 z],⟨A,false,L'⟩)):Q9 false [.c c4 true 7,.s c5] (x,e,⟨A,false,L⟩)=some (.tup [w,.int .i64 z],st):=by
 refine ZBC (v:=.tup [v,.int .i64 z]) hA hx ?_ hs rfl
 have h1:ZBe ⟨A,false,L⟩ e (.c c4 true 7)=some v:=by
  subst hv;simp only [ZBe,QK h4,loadP,St.get_cur,hg4,vis,ZGE,if_true,List.getElem?_cons_zero,oS,Qm,AV.cells,List.drop_zero]
  rw [List.take_of_length_le (by omega)]
  simp [hc]
  rfl
 simp only [QQ,ZDo,h1,oS];simp only [ZBe,QK h5,oS,Option.map_some,ZGF]
end Go.Q15
