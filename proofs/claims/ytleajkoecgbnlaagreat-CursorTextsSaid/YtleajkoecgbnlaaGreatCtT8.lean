/- A part of the proof: RH, RI, RJ, RK, M52, RL, S4, S5, S6, YX, W7, RN, RO, W8, RP, SA, SC, RS, RQ, RT, RU, RV, M18, PO, RW, RX, SO, RY, SPa, SPb, SPc, W9, SPd, SQa, CUa, W10, SQb, SQc, SQd, SKa, SKb, SKc. No condition. -/
import Derived.Test.YtleajkoecgbnlaaGreatCtT7
set_option linter.unusedVariables false
set_option linter.unusedSimpArgs false
namespace Go.Q15
open Go Go.QAbs
set_option maxRecDepth 100000
def Ext (N M:ZQ):Prop:=∀ o x,lk N o=some x->lk M o=some x
theorem Ext.refl (N:ZQ):Ext N N:=fun _ _ h=>h
theorem Ext.trans {N M K:ZQ} (h:Ext N M) (g:Ext M K):Ext N K:=fun o x q=>g o x (h o x q)
theorem ZLo {N M:ZQ} (hN:GoodN N) (hs:Ext N M):∀ n o x,lk N o=some x->x.h=n->QO M n o=QO N n o:=by
 intro n
 induction n with
 | zero=>intro o x hx hh;rw [QO,QO,hx,hs _ _ hx]
 | succ n ih =>
  intro o x hx hh;rw [QO,QO,hx,hs _ _ hx];simp only [Option.map_some,Option.getD_some];have hk:=(hN o x hx).2
  have key:∀ l:List Kid,(∀ k∈l,k∈x.ks)->(l.flatMap fun k=>QO M n k.at_)=l.flatMap fun k=>QO N n k.at_:=by
   intro l
   induction l with
   | nil=>intro _;rfl
   | cons k l ih2 =>
    intro h
    obtain ⟨_,y,y1,y2,_⟩:=hk k (h k (by simp))
    rw [List.flatMap_cons,List.flatMap_cons,ih k.at_ y y1 (by omega),ih2 (fun q hq=>h q (by simp [hq]))]
  exact key _ fun _ h=>h
theorem ZgY {r:AR} (ho:AROk r) (hn:0<r.n) (x:Nd):Ext r.nodes (r.add x).nodes:=fun o y h=>by
 rw [ZLN ho hn,if_neg]
 ·exact h
 ·intro q;rw [q,ho.new hn] at h;simp at h
def ZTD (N:ZQ) (x:Nd):Prop:=∀ k∈x.ks,∃ y,lk N k.at_=some y/\NdOk y/\y.h+1=x.h/\y.mea=k.m
theorem ZoU {r:AR} (ho:AROk r) (hn:0<r.n) (hg:GoodN r.nodes) {x:Nd} (hx:NdOk x) (hk:ZTD r.nodes x) (h0:∀ k∈x.ks,k.at_≠0):GoodN (r.add x).nodes:=by
 intro o y h;have hE:=ZgY ho hn x;rw [ZLN ho hn] at h
 split at h
 ·simp only [oJ] at h
  subst h
  refine ⟨hx.copy,fun k hkk=>?_⟩
  have hkk':k∈x.ks:=hkk;obtain ⟨z,z1,z2,z3,z4⟩:=hk k hkk';exact ⟨h0 k hkk',z,hE _ _ z1,z3,z4⟩
 ·obtain ⟨h1,h2⟩:=hg o y h
  refine ⟨h1,fun k hkk=>?_⟩
  obtain ⟨g0,z,z1,z2,z3⟩:=h2 k hkk;exact ⟨g0,z,hE _ _ z1,z2,z3⟩
theorem AROk.hnd {r:AR} (h:AROk r) {o:Nat} {x:Nd} (hx:lk r.nodes o=some x):ZCn o/\o≠0:=by
 obtain ⟨s,g,h1,h2,h3,h4⟩:=h.key o x hx;obtain ⟨g',g1,g2,g3⟩:=h.gen s h2;rw [h4] at g1;simp only [oJ] at g1
 have:=h.n16
 have:=h.most
 unfold ZCn;omega
def ZQV (ρ:Nat->Ro) (k h:Nat):Nat->Ro:=fun i=>if i=k then (ρ i).wr h else ρ i
inductive RunOk:List It->AR->(Nat->Ro)->AR->(Nat->Ro)->List Nat->Prop
 | nil {r ρ}:RunOk [] r ρ r ρ []
 | cons {it its r ρ r' ρ' hs} (hn:0<r.n) (hx:NdOk (JG ρ it.c)) (hk:ZTD r.nodes (JG ρ it.c)) (h:RunOk its (r.add (JG ρ it.c)) (ZQV ρ it.rx r.next) r' ρ' hs):RunOk (it::its) r ρ r' ρ' (r.next::hs)
theorem RunOk.append {i1 i2:List It} {r r1 r2:AR} {ρ ρ1 ρ2:Nat->Ro} {h1 h2:List Nat} (h:RunOk i1 r ρ r1 ρ1 h1) (g:RunOk i2 r1 ρ1 r2 ρ2 h2):RunOk (i1++i2) r ρ r2 ρ2 (h1++h2):=by
 induction h with
 | nil=>exact g
 | cons hn hx hk h ih=>exact .cons hn hx hk (ih g)
namespace Tr
mutual
def wr:Tr->AR->AR × Ro × List Nat
 | .mk o h m s k,r =>
  if o≠0 then (r,⟨o,h,m⟩,[])
  else if h=0 then (r.add ⟨0,s,none⟩,⟨r.next,0,JK s⟩,[r.next])
  else ((wrO k r).1.add ⟨h,[],some (wrO k r).2.1⟩,⟨(wrO k r).1.next,h,Z8 ((wrO k r).2.1.map Kid.m)⟩,(wrO k r).2.2++[(wrO k r).1.next])
def wrO:Option (List Tr)->AR->AR × List Kid × List Nat
 | none,r=>(r,[],[])
 | some l,r=>wrL l r
def wrL:List Tr->AR->AR × List Kid × List Nat
 | [],r=>(r,[],[])
 | t::l,r=>((wrL l (t.wr r).1).1,(t.wr r).2.1.kid::(wrL l (t.wr r).1).2.1,(t.wr r).2.2++(wrL l (t.wr r).1).2.2)
end
end Tr
structure WrB (r:AR) (c:Nat) (r':AR) (hs:List Nat):Prop where
 ok:AROk r'
 good:GoodN r'.nodes
 ext:Ext r.nodes r'.nodes
 n:r'.n+c=r.n
 len:hs.length=c
 new:∀ h∈hs,lk r.nodes h=none
 all:∀ h x,lk r'.nodes h=some x->lk r.nodes h=some x\/h∈hs
 has:∀ h∈hs,∃ x,lk r'.nodes h=some x
 nodup:hs.Nodup
 frees:r'.frees=r.frees
 stale:r'.stale=r.stale
 slots:r'.slots=r.slots
 allocs:r'.allocs=r.allocs+c
 nl:r'.nodes.length=r.nodes.length+c
theorem WrB.refl {r:AR} (ho:AROk r) (hg:GoodN r.nodes):WrB r 0 r [] :=
 ⟨ho,hg,.refl _,by simp,rfl,fun h q=>by simp at q,fun h x q=>.inl q,fun h q=>by simp at q,by simp,rfl,rfl,rfl,by simp,by simp⟩
theorem WrB.trans {r r1 r2:AR} {c d:Nat} {h1 h2:List Nat} (h:WrB r c r1 h1) (g:WrB r1 d r2 h2):WrB r (c+d) r2 (h1++h2):=by
 refine ⟨g.ok,g.good,h.ext.trans g.ext,by have:=h.n;have:=g.n;omega,by rw [lL,h.len,g.len],fun o ho=>?_,fun o x ho=>?_,fun o ho=>?_,?_,g.frees.trans h.frees,g.stale.trans h.stale,g.slots.trans h.slots,by rw [g.allocs,h.allocs];omega,by rw [g.nl,h.nl];omega⟩
 ·rcases List.mem_append.1 ho with q|q
  ·exact h.new o q
  ·cases hk:lk r.nodes o with
   | none=>rfl
   | some x=>have:=g.new o q;rw [h.ext _ _ hk] at this;simp at this
 ·rcases g.all o x ho with q|q
  ·rcases h.all o x q with w|w
   ·exact .inl w
   ·exact .inr (by simp [w])
  ·exact .inr (by simp [q])
 ·rcases List.mem_append.1 ho with q|q
  ·obtain ⟨x,hx⟩:=h.has o q
   exact ⟨x,g.ext _ _ hx⟩
  ·exact g.has o q
 ·rw [List.nodup_append]
  refine ⟨h.nodup,g.nodup,fun x hx y hy e=>?_⟩
  subst e;obtain ⟨z,hz⟩:=h.has x hx;rw [g.new x hy] at hz
  simp at hz
theorem WrB.one {r:AR} (ho:AROk r) (hn:0<r.n) (hg:GoodN r.nodes) {x:Nd} (hx:NdOk x) (hk:ZTD r.nodes x) (h0:∀ k∈x.ks,k.at_≠0):WrB r 1 (r.add x) [r.next]:=by
 refine ⟨ho.add hn x,ZoU ho hn hg hx hk h0,ZgY ho hn x,?_,rfl,fun o q=>?_,fun o y q=>?_,fun o q=>?_,by simp,rfl,rfl,rfl,rfl,by simp [AR.add,AR.alloc]⟩
 ·show r.n-1+1=r.n;omega
 ·simp only [List.mem_singleton] at q;subst q;exact ho.new hn
 ·rw [ZLN ho hn] at q
  split at q
  ·rename_i e;exact .inr (by simp [e])
  ·exact .inl q
 ·simp only [List.mem_singleton] at q
  exact ⟨x.copy,by rw [ZLN ho hn,if_pos q]⟩
end Go.Q15
namespace Go.Q15
open Go Go.QAbs
set_option maxRecDepth 100000
structure WrOk (N:ZQ) (t:Tr) (r':AR) (ro:Ro):Prop where
 rm:ro.m=t.mea
 rh:ro.h=t.h
 live:∃ y,lk r'.nodes ro.at_=some y/\NdOk y/\y.h=t.h/\y.mea=t.mea
 txt:QO r'.nodes t.h ro.at_=t.txt N
def Exec (N:ZQ) (t:Tr):Prop:=∀ (r:AR),AROk r->GoodN r.nodes->Ext N r.nodes->t.cnt<=r.n->∀ (rx:Nat) (its:List It) (R:List (Nat × Ro)) (ρ:Nat->Ro),AddT t rx its R->(∀ p∈R,ρ p.1=p.2)->(R.map Prod.fst).Nodup ->
 ∃ ρ',RunOk its r ρ (t.wr r).1 ρ' (t.wr r).2.2/\ρ' rx=(t.wr r).2.1/\(∀ k,k∉R.map Prod.fst->ρ' k=ρ k)/\WrB r t.cnt (t.wr r).1 (t.wr r).2.2/\WrOk N t (t.wr r).1 (t.wr r).2.1
structure WrLs (N:ZQ) (l:List Tr) (h:Nat) (r':AR) (ks:List Kid):Prop where
 len:ks.length=l.length
 m:ks.map Kid.m=l.map Tr.mea
 ok:∀ k∈ks,KidOk h k/\k.at_≠0/\∃ y,lk r'.nodes k.at_=some y/\NdOk y/\y.h=h/\y.mea=k.m
 txt:(ks.flatMap fun k=>QO r'.nodes h k.at_)=Tr.txtL N l
theorem Zs4 {N:ZQ} (hN:GoodN N) {h:Nat}:∀ (l:List Tr),(∀ u∈l,Val N u/\u.h=h/\Big u)->(∀ u∈l,Exec N u)->∀ (r:AR),AROk r->GoodN r.nodes->Ext N r.nodes->Tr.cntL l<=r.n->∀ (rs:List Nat) (its:List It) (R:List (Nat × Ro)) (ρ:Nat->Ro),AddL l rs its R->(∀ p∈R,ρ p.1=p.2)->(R.map Prod.fst).Nodup ->
 ∃ ρ',RunOk its r ρ (Tr.wrL l r).1 ρ' (Tr.wrL l r).2.2/\(rs.map fun k=>(ρ' k).kid)=(Tr.wrL l r).2.1/\(∀ k,k∉R.map Prod.fst->ρ' k=ρ k)/\WrB r (Tr.cntL l) (Tr.wrL l r).1 (Tr.wrL l r).2.2/\WrLs N l h (Tr.wrL l r).1 (Tr.wrL l r).2.1:=by
 intro l
 induction l with
 | nil =>
  intro _ _ r ho hg hE hc rs its R ρ ha hR hnd
  cases ha
  exact ⟨ρ,.nil,rfl,fun _ _=>rfl,.refl ho hg,⟨rfl,rfl,fun k hk=>by simp [Tr.wrL] at hk,rfl⟩⟩
 | cons t l ih =>
  intro hv hx r ho hg hE hc rs its R ρ ha hR hnd
  cases ha with
  | @cons _ _ rx rs i1 i2 R1 R2 ht hl =>
   rw [Tr.cntL] at hc;rw [List.map_append,List.nodup_append] at hnd;obtain ⟨nd1,nd2,nd3⟩:=hnd
   obtain ⟨ρ1,a1,a2,a3,a4,a5⟩:=hx t (by simp) r ho hg hE (by omega) rx i1 R1 ρ ht (fun p hp=>hR p (by simp [hp])) nd1
   have hn1:=a4.n
   have hd:∀ p∈R2,p.1∉R1.map Prod.fst:=fun p hp q=>nd3 _ q _ (List.mem_map.2 ⟨p,hp,rfl⟩) rfl
   obtain ⟨ρ2,b1,b2,b3,b4,b5⟩:=ih (fun u hu=>hv u (by simp [hu])) (fun u hu=>hx u (by simp [hu])) _ a4.ok a4.good (hE.trans a4.ext) (by omega) rs i2 R2 ρ1 hl (fun p hp=>by rw [a3 _ (hd p hp)];exact hR p (by simp [hp])) nd2
   obtain ⟨rr,hrr,_,_⟩:=ht.root
   have hrx:rx∉R2.map Prod.fst:=fun q=>nd3 rx (List.mem_map.2 ⟨_,hrr,rfl⟩) rx q rfl
   obtain ⟨v1,v2,v3⟩:=hv t (by simp)
   refine ⟨ρ2,a1.append b1,?_,?_,?_,?_⟩
   ·rw [jC,b3 rx hrx,a2,b2];rfl
   ·intro k hk
    rw [List.map_append,List.mem_append,not_or] at hk;rw [b3 k hk.2,a3 k hk.1]
   ·rw [Tr.cntL];exact a4.trans b4
   ·obtain ⟨y,y1,y2,y3,y4⟩:=a5.live
    have hh:=a4.ok.hnd y1;have hkm:((t.wr r).2.1.kid).m=t.mea:=a5.rm;have hka:((t.wr r).2.1.kid).at_=(t.wr r).2.1.at_:=rfl
    refine ⟨by show _+1=_;rw [b5.len];rfl,?_,?_,?_⟩
    ·show ((t.wr r).2.1.kid).m::_=_
     rw [hkm,b5.m];rfl
    ·intro k hk
     rcases List.mem_cons.1 hk with rfl|q
     ·refine ⟨?_,hh.2,y,b4.ext _ _ y1,y2,by rw [y3,v2],by rw [y4];exact hkm.symm⟩
      have hs:=v1.size hN v3;have hb:=v1.mea_ok.1
      have:=y2.kid (a:=(t.wr r).2.1.at_) (by rw [y3,y4,hb];exact hs) hh.1
      rw [y3,v2,y4,<- a5.rm] at this;exact this
     ·exact b5.ok k q
    ·show QO (Tr.wrL l (t.wr r).1).1.nodes h (t.wr r).2.1.at_++((Tr.wrL l (t.wr r).1).2.1.flatMap fun k=>QO (Tr.wrL l (t.wr r).1).1.nodes h k.at_)=_
     rw [b5.txt,Tr.txtL,<- a5.txt,v2]
     congr 1
     exact ZLo a4.good b4.ext h _ y y1 (by rw [y3,v2])
theorem exec_ok {N:ZQ} (hN:GoodN N) {t:Tr} (hv:Val N t):t.bytes<=65536->Exec N t:=by
 induction hv with
 | @kept o h m k x h0 hx hok hh hm hk =>
  intro _ r ho hg hE hc rx its R ρ ha hR hnd
  have e:(Tr.mk o h m [] k).wr r=(r,⟨o,h,m⟩,[]):=by rw [Tr.wr,if_pos h0]
  have ec:(Tr.mk o h m [] k).cnt=0:=by rw [Tr.cnt,Tr.cntO_getD,hk,if_neg h0];rfl
  rw [e,ec]
  cases ha with
  | kept _ =>
   refine ⟨ρ,.nil,hR (rx,⟨o,h,m⟩) (by simp),fun _ _=>rfl,.refl ho hg,⟨(ZQU h0).symm,rfl,⟨x,hE _ _ hx,hok,hh,by rw [ZQU h0];exact hm⟩,?_⟩⟩
   show QO r.nodes h o=_
   rw [ZLo hN hE h o x hx hh,Tr.txt,if_neg h0,Tr.txtO_getD,hk]
   simp [Tr.txtL]
  | leaf=>exact absurd rfl h0
  | inner=>exact absurd rfl h0
 | @leaf s k h1 h2 hk =>
  intro _ r ho hg hE hc rx its R ρ ha hR hnd
  have e:(Tr.mk 0 0 .zero s k).wr r=(r.add ⟨0,s,none⟩,⟨r.next,0,JK s⟩,[r.next]):=by rw [Tr.wr];simp
  have ec:(Tr.mk 0 0 .zero s k).cnt=1:=by rw [Tr.cnt,Tr.cntO_getD,hk];rfl
  rw [ec] at hc;rw [e,ec];have hx:NdOk ⟨0,s,none⟩:=.inl ⟨rfl,h1,h2,rfl⟩
  cases ha with
  | kept h0=>exact absurd rfl h0
  | leaf =>
   have hρ:ρ rx=⟨0,0,JK s⟩:=hR (rx,⟨0,0,JK s⟩) (by simp)
   refine ⟨ZQV ρ rx r.next,.cons (by omega) hx (fun k hk=>by simp [JG,Nd.ks] at hk) .nil,?_,fun k hk=>?_,.one ho (by omega) hg hx (fun k hk=>by simp [Nd.ks] at hk) (fun k hk=>by simp [Nd.ks] at hk),⟨(ZQT s k).symm,rfl,⟨(⟨0,s,none⟩:Nd).copy,?_,hx.copy,rfl,?_⟩,?_⟩⟩
   ·simp only [ZQV,if_true,hρ];rfl
   ·simp only [jC,List.map_nil,List.mem_singleton] at hk
    simp only [ZQV,if_neg hk]
   ·rw [ZLN ho (by omega),if_pos rfl]
   ·rw [ZQT];rfl
   ·show QO _ 0 r.next=_
    rw [QO,ZLN ho (by omega),if_pos rfl,Tr.txt,if_pos rfl,Tr.txtO_getD,hk]
    simp [Tr.txtL,Nd.copy]
 | @inner h l hh h2 h4 hl hb hv ih =>
  intro hb2 r ho hg hE hc rx its R ρ ha hR hnd
  have eb:(Tr.mk 0 (h+1) .zero [] (some l)).bytes=Tr.bytesL l:=by rw [Tr.bytes,Tr.bytesO];simp [Mea.zero]
  have hbs:∀ u∈l,u.bytes<=65536:=fun u hu=>by
   obtain ⟨i,hi,rfl⟩:=List.getElem_of_mem hu
   have h3:Tr.bytesL l=Tr.bytesL (l.take i)+(l[i].bytes+Tr.bytesL (l.drop (i+1))):=by
    conv=>lhs;rw [<- List.take_append_drop (i+1) l,Zq (jE hi),Tr.bytesL_append,Tr.bytesL_append]
    simp [Tr.bytesL];omega
   have n1:=Tr.bytesL_nonneg (l:=l.take i) (fun t ht=>by have:=(hv t (List.mem_of_mem_take ht)).pos.2;omega)
   have n2:=Tr.bytesL_nonneg (l:=l.drop (i+1)) (fun t ht=>by have:=(hv t (List.mem_of_mem_drop ht)).pos.2;omega)
   omega
  have ec:(Tr.mk 0 (h+1) .zero [] (some l)).cnt=Tr.cntL l+1:=by rw [Tr.cnt,Tr.cntO];simp;omega
  rw [ec] at hc
  have hbl:(Z8 (l.map Tr.mea)).b=Tr.bytesL l:=Zjt l fun u hu=>(hv u hu).mea_ok.1
  have e:(Tr.mk 0 (h+1) .zero [] (some l)).wr r=((Tr.wrL l r).1.add ⟨h+1,[],some (Tr.wrL l r).2.1⟩,⟨(Tr.wrL l r).1.next,h+1,Z8 ((Tr.wrL l r).2.1.map Kid.m)⟩,(Tr.wrL l r).2.2++[(Tr.wrL l r).1.next]):=by
   rw [Tr.wr];simp [Tr.wrO]
  rw [e,ec]
  cases ha with
  | kept h0=>exact absurd rfl h0
  | @inner _ _ _ rs i1 R1 hal hn1 hx1 =>
   obtain ⟨ρ1,a1,a2,a3,a4,a5⟩:=Zs4 hN l (fun u hu=>⟨hv u hu,hl u hu,fun q=>hb u hu (by rw [<- hl u hu];exact q)⟩) (fun u hu=>ih u hu (hbs u hu)) r ho hg hE (by omega) rs i1 R1 ρ hal (fun p hp=>hR p (by simp [hp])) hn1
   have hρ:ρ1 rx=⟨0,h+1,Z8 (l.map Tr.mea)⟩:=by rw [a3 rx hx1];exact hR (rx,⟨0,h+1,Z8 (l.map Tr.mea)⟩) (by simp)
   have hn:0<(Tr.wrL l r).1.n:=by have:=a4.n;omega
   generalize hks:(Tr.wrL l r).2.1=ks at *
   generalize (Tr.wrL l r).1=r1 at *
   have hx:NdOk ⟨h+1,[],some ks⟩:=.inr ⟨h,ks,rfl,by omega,by have:=a5.len;omega,by have:=a5.len;omega,fun k hk=>(a5.ok k hk).1,by rw [a5.m,hbl];omega⟩
   have hki:ZTD r1.nodes ⟨h+1,[],some ks⟩:=fun k hk=>by
    obtain ⟨_,_,y,y1,y2,y3,y4⟩:=a5.ok k hk
    exact ⟨y,y1,y2,by show y.h+1=h+1;omega,y4⟩
   have hnd2:JG ρ1 (.inn (h+1) rs)=⟨h+1,[],some ks⟩:=by rw [JG,a2]
   have hrun:RunOk [⟨rx,.inn (h+1) rs⟩] r1 ρ1 (r1.add ⟨h+1,[],some ks⟩) (ZQV ρ1 rx r1.next) [r1.next]:=by
    have:=RunOk.cons (it:=⟨rx,.inn (h+1) rs⟩) (ρ:=ρ1) hn (by rw [hnd2];exact hx) (by rw [hnd2];exact hki) .nil
    rw [hnd2] at this;exact this
   refine ⟨ZQV ρ1 rx r1.next,a1.append hrun,?_,fun k hk=>?_,a4.trans (.one a4.ok hn a4.good hx hki (fun k hk=>(a5.ok k hk).2.1)),⟨?_,rfl,⟨(⟨h+1,[],some ks⟩:Nd).copy,?_,hx.copy,rfl,?_⟩,?_⟩⟩
   ·simp only [ZQV,if_true,hρ,Ro.wr,a5.m]
   ·rw [List.map_append,List.mem_append,not_or] at hk
    have:k≠rx:=fun q=>hk.2 (by simp [q])
    simp only [ZQV,if_neg this];exact a3 k hk.1
   ·rw [ZgX]
    show Z8 (ks.map Kid.m)=_
    rw [a5.m]
   ·rw [ZLN a4.ok hn,if_pos rfl]
   ·rw [ZgX,<- a5.m];rfl
   ·show QO _ (h+1) r1.next=_
    rw [QO,ZLN a4.ok hn,if_pos rfl,Tr.txt,if_pos rfl,Tr.txtO,<- a5.txt]
    show (ks.flatMap fun k=>QO (r1.add _).nodes h k.at_)=_
    have key:∀ m:List Kid,(∀ k∈m,k∈ks)->(m.flatMap fun k=>QO (r1.add ⟨h+1,[],some ks⟩).nodes h k.at_)=m.flatMap fun k=>QO r1.nodes h k.at_:=by
     intro m
     induction m with
     | nil=>intro _;rfl
     | cons k m ih2 =>
      intro q
      obtain ⟨_,_,y,y1,y2,y3,y4⟩:=a5.ok k (q k (by simp))
      rw [List.flatMap_cons,List.flatMap_cons,ZLo a4.good (ZgY a4.ok hn _) h k.at_ y y1 y3,ih2 (fun w hw=>q w (by simp [hw]))]
    exact key ks fun _ h=>h
set_option maxHeartbeats 8000000
theorem ClsOk.get {n ip:Nat} {F:List (Nat × Blk)} {cs:List AV} {is:List It} (h:ClsOk n ip F cs is):∀ {j:Nat} {it:It},is[j]?=some it->∃ c,cs[j]?=some c/\ClOk n ip F c it:=by
 induction h with
 | nil=>intro j it hj;simp at hj
 | cons hc ht ih =>
  intro j it hj
  cases j with
  | zero =>
   simp only [List.getElem?_cons_zero,oJ] at hj;subst hj;exact ⟨_,rfl,hc⟩
  | succ j=>exact ih hj
def TdOk (st:St) (n tx ver j:Nat) (cls:List AV) (td:AV):Prop:=(cls=[]/\td=.nils)\/(cls≠[]/\td=.ref n tx ver j (cls.length-j)/\st.get n tx=some (.arr 1 ver cls))
structure PenS (st:St) (n ip tx ver la b:Nat) (cls:List AV) (its:List It) (F:List (Nat × Blk)) (keys:List Nat) (rx:Nat) (ρ:Nat->Ro) (j:Nat):Prop where
 wr:st.wr n
 pen:∃ td,st.get n ip=some (.arr 3 0 [.agg [.ptr la (b+5) 0 0 0,td,.ptr n rx 0 0 0]])/\TdOk st n tx ver j cls td
 cl:ClsOk n ip F cls its
 fx:∀ p∈F,st.get n p.1=some p.2
 rts:∀ k∈keys,st.get n k=some (.arr 5 0 [(ρ k).av])
 key:∀ it∈its,it.rx∈keys/\∀ k∈Zju it.c,k∈keys
 rk:rx∈keys
 s1:∀ k∈keys,k≠ip/\k≠tx
 s2:tx≠ip
 s3:∀ p∈F,p.1∉keys/\p.1≠ip/\p.1≠tx
 ar:∀ i,i=ip\/(cls≠[]/\i=tx)\/i∈keys\/(∃ p∈F,i=p.1)->¬ (n=la/\b<=i/\i<=b+5)
 len:cls.length<1000000
 jl:j<=cls.length
theorem ZsK {st:St} {n ip tx ver la b:Nat} {cls:List AV} {its:List It} {F:List (Nat × Blk)} {keys:List Nat} {rx:Nat} {ρ:Nat->Ro} {j:Nat} (h:PenS st n ip tx ver la b cls its F keys rx ρ j) (hj:j=cls.length):S Tb ZBb [.ptr n ip 0 0 0] st=some (.tup [(ρ rx).av,.int .i64 0],st):=by
 obtain ⟨td,h1,h2⟩:=h.pen;have h3:=h.rts rx h.rk
 refine Z9 rfl (fun A hA=>?_)
 have g1:=fun L=>ZW hA (ro:=false) (L:=L) h1
 have g3:=fun L=>ZW hA (ro:=false) (L:=L) h3
 unfold Ro.av at g3 ⊢
 rcases h2 with ⟨_,rfl⟩|⟨_,rfl,_⟩
 all_goals repeat' (first|refine ZE ?_|refine ZD ?_|refine ZG rfl ?_|refine ZJ rfl rfl ?_|refine ZB rfl ?_|refine ZC ?_|refine Zb rfl rfl ?_|refine Qj rfl ?_|refine YC rfl ?_|(refine QD rfl rfl (fun _=>?_) (fun _=>?_)<;>try (exfalso;omega))|refine ZF rfl ?_|refine Q5 rfl rfl rfl rfl ?_|refine Zk rfl rfl rfl ?_|refine QE rfl rfl rfl rfl rfl rfl ?_|refine Zz rfl (g1 _) rfl rfl ?_|refine Zz rfl (g3 _) rfl rfl ?_|refine ZH ?_|refine ZO ?_|refine ZL ?_)
 all_goals try (exfalso;omega)
 all_goals refine ZAA hA (by first|exact .inl rfl|exact .inr rfl) rfl rfl rfl rfl rfl ?_
 all_goals rfl
def ZHy (st:St) (n ip tx ver la b:Nat) (len:Nat) (rx:Nat) (r':AR) (k:Nat) (ro:Ro) (j:Nat):St :=
 ((Q7 st la b r').upd n k (.arr 5 0 [ro.av])).upd n ip (.arr 3 0 [.agg [.ptr la (b+5) 0 0 0,.ref n tx ver (j+1) (len-j-1),.ptr n rx 0 0 0]])
theorem PenS.step {st:St} {n ip tx ver la b:Nat} {cls:List AV} {its:List It} {F:List (Nat × Blk)} {keys:List Nat} {rx:Nat} {ρ:Nat->Ro} {j:Nat} (h:PenS st n ip tx ver la b cls its F keys rx ρ j) {r:AR} (hA:Has st la b r) (ho:AROk r) (hn:0<r.n) {it:It} (hj:its[j]?=some it)
 (hx:NdOk (JG ρ it.c)) (hk:ZTD r.nodes (JG ρ it.c)) :
 S Tb Xn [.ptr n ip 0 0 0] st=some (.tup [.int .u64 r.next,.bool (decide (cls.length=j+1)),.int .i64 0],ZHy st n ip tx ver la b cls.length rx (r.add (JG ρ it.c)) it.rx ((ρ it.rx).wr r.next) j) /\
 PenS (ZHy st n ip tx ver la b cls.length rx (r.add (JG ρ it.c)) it.rx ((ρ it.rx).wr r.next) j) n ip tx ver la b cls its F keys rx (ZQV ρ it.rx r.next) (j+1) /\
 Has (ZHy st n ip tx ver la b cls.length rx (r.add (JG ρ it.c)) it.rx ((ρ it.rx).wr r.next) j) la b (r.add (JG ρ it.c)):=by
 obtain ⟨td,h1,h2⟩:=h.pen;obtain ⟨cl,c1,c2⟩:=h.cl.get hj;have hjl:=(List.getElem?_eq_some_iff.1 c1).1;have hm:=jM hj;obtain ⟨k1,k2⟩:=h.key it hm;have hrx:=h.rts it.rx k1;have hrp:=h.s1 it.rx k1
 have hne:cls≠[]:=fun q=>by rw [q] at c1;simp at c1
 rcases h2 with ⟨q,_⟩|⟨_,rfl,h3⟩
 ·exact absurd q hne
 have hS:=ZsJ (it:=it) (ρ:=ρ) (b0:=0) (b1:=0) (b2:=0) (cv:=.nils) h3 c1 c2 h.len h1 h.fx (fun k hk=>h.rts k (k2 k hk)) hrx hA ho hn hx hk h.wr (fun i hi=>h.ar i (by
  rcases hi with rfl|rfl|rfl|q
  ·exact .inr (.inr (.inl k1))
  ·exact .inl rfl
  ·exact .inr (.inl ⟨hne,rfl⟩)
  ·exact .inr (.inr (.inr q)))) ⟨hrp.1,hrp.2,h.s2⟩
 have a1:∀ i,¬ (n=la/\b<=i/\i<=b+5)->(Q7 st la b (r.add (JG ρ it.c))).get n i=st.get n i:=fun i hi=>hA.out _ hi
 have g1:∀ l' i',((Q7 st la b (r.add (JG ρ it.c))).upd n it.rx (.arr 5 0 [((ρ it.rx).wr r.next).av])).get l' i'=if l'=n/\i'=it.rx then some (.arr 5 0 [((ρ it.rx).wr r.next).av]) else (Q7 st la b (r.add (JG ρ it.c))).get l' i' :=
  fun l' i'=>St.get_upd ((a1 _ (h.ar _ (.inr (.inr (.inl k1))))).trans hrx) rfl
 have hp0:((Q7 st la b (r.add (JG ρ it.c))).upd n it.rx (.arr 5 0 [((ρ it.rx).wr r.next).av])).get n ip=_:=(g1 n ip).trans ((if_neg (fun q=>hrp.1 q.2.symm)).trans ((a1 _ (h.ar _ (.inl rfl))).trans h1))
 have g2:∀ l' i',(ZHy st n ip tx ver la b cls.length rx (r.add (JG ρ it.c)) it.rx ((ρ it.rx).wr r.next) j).get l' i'=if l'=n/\i'=ip then some (.arr 3 0 [.agg [.ptr la (b+5) 0 0 0,.ref n tx ver (j+1) (cls.length-j-1),.ptr n rx 0 0 0]]) else if l'=n/\i'=it.rx then some (.arr 5 0 [((ρ it.rx).wr r.next).av]) else (Q7 st la b (r.add (JG ρ it.c))).get l' i':=fun l' i'=>by
  rw [ZHy,St.get_upd hp0 rfl,g1]
 have hw1:(Q7 st la b (r.add (JG ρ it.c))).wr n:=ZQE hA.cl.wr h.wr;have hwl:(Q7 st la b (r.add (JG ρ it.c))).wr la:=(hA.put _).wr
 have hw2:∀ {l:Nat},(Q7 st la b (r.add (JG ρ it.c))).wr l->(ZHy st n ip tx ver la b cls.length rx (r.add (JG ρ it.c)) it.rx ((ρ it.rx).wr r.next) j).wr l:=fun w=>St.wr_upd (St.wr_upd hw1 hw1) (St.wr_upd hw1 w)
 refine ⟨hS,⟨hw2 hw1,⟨_,by rw [g2,if_pos ⟨rfl,rfl⟩,Nat.sub_sub],.inr ⟨hne,rfl,?_⟩⟩,h.cl,fun p hp=>?_,fun k hk=>?_,h.key,h.rk,h.s1,h.s2,h.s3,h.ar,h.len,hjl⟩,?_⟩
 ·rw [g2,if_neg (fun q=>h.s2 q.2),if_neg (fun q=>hrp.2 q.2.symm),a1 _ (h.ar _ (.inr (.inl ⟨hne,rfl⟩)))];exact h3
 ·obtain ⟨q1,q2,q3⟩:=h.s3 p hp
  rw [g2,if_neg (fun q=>q2 q.2),if_neg (fun q=>q1 (by rw [q.2];exact k1)),a1 _ (h.ar _ (.inr (.inr (.inr ⟨p,hp,rfl⟩))))];exact h.fx p hp
 ·obtain ⟨q1,q2⟩:=h.s1 k hk
  rw [g2,if_neg (fun q=>q1 q.2)]
  unfold ZQV
  by_cases e:k=it.rx
  ·subst e;rw [if_pos ⟨rfl,rfl⟩,if_pos rfl]
  ·rw [if_neg (fun q=>e q.2),if_neg e,a1 _ (h.ar _ (.inr (.inr (.inl hk))))];exact h.rts k hk
 ·have hP:=hA.put (r.add (JG ρ it.c))
  have n1:∀ i,b<=i->i<=b+5->¬ (la=n/\i=ip)/\¬ (la=n/\i=it.rx):=fun i i1 i2=>⟨fun q=>h.ar ip (.inl rfl) ⟨q.1.symm,by omega,by omega⟩,fun q=>h.ar it.rx (.inr (.inr (.inl k1))) ⟨q.1.symm,by omega,by omega⟩⟩
  have gg:∀ i,b<=i->i<=b+5->(ZHy st n ip tx ver la b cls.length rx (r.add (JG ρ it.c)) it.rx ((ρ it.rx).wr r.next) j).get la i=(Q7 st la b (r.add (JG ρ it.c))).get la i:=fun i i1 i2=>by
   rw [g2,if_neg (n1 i i1 i2).1,if_neg (n1 i i1 i2).2]
  exact ⟨hw2 hwl,(gg _ (by omega) (by omega)).trans hP.h0,(gg _ (by omega) (by omega)).trans hP.h1,(gg _ (by omega) (by omega)).trans hP.h2,(gg _ (by omega) (by omega)).trans hP.h3,(gg _ (by omega) (by omega)).trans hP.h4,(gg _ (by omega) (by omega)).trans hP.h5⟩
theorem ZFj {A:List (Bool × List Blk)} {ro:Bool} {L:List Blk} {lv ix:Nat} {b:Blk} (T:List Blk) (h:St.get ⟨A,ro,L⟩ lv ix=some b):St.get ⟨A,ro,L++T⟩ lv ix=some b:=by
 unfold St.get at h ⊢
 simp only at h ⊢
 split
 ·rename_i q
  rw [if_pos q] at h;have h2:=(ZBC h).1;rw [jL (List.getElem?_eq_some_iff.1 h2).1];exact h
 ·rename_i q
  rw [if_neg q] at h;exact h
theorem HasR.app {A:List (Bool × List Blk)} {ro:Bool} {L:List Blk} {la b:Nat} {r:AR} (h:HasR ⟨A,ro,L⟩ la b r) (T:List Blk):HasR ⟨A,ro,L++T⟩ la b r :=
 ⟨ZFj T h.h0,ZFj T h.h1,ZFj T h.h2,ZFj T h.h3,ZFj T h.h4,ZFj T h.h5⟩
mutual
theorem AddT.keys:∀ {t:Tr} {rx:Nat} {its:List It} {R:List (Nat × Ro)},AddT t rx its R->rx∈R.map Prod.fst/\∀ it∈its,it.rx∈R.map Prod.fst/\∀ k∈Zju it.c,k∈R.map Prod.fst
 | _,_,_,_,.kept h0=>⟨by simp,fun it h=>by simp at h⟩
 | _,_,_,_,.leaf=>⟨by simp,fun it h=>by simp only [List.mem_singleton] at h;subst h;exact ⟨by simp,fun k hk=>by simp [Zju] at hk⟩⟩
 | _,_,_,_,.inner hl hn hx=>by
  obtain ⟨h1,h2⟩:=AddL.keys hl
  refine ⟨by simp,fun it h=>?_⟩
  rcases List.mem_append.1 h with q|q
  ·obtain ⟨a1,a2⟩:=h2 it q
   exact ⟨by rw [List.map_append];exact List.mem_append_left _ a1,fun k hk=>by rw [List.map_append];exact List.mem_append_left _ (a2 k hk)⟩
  ·simp only [List.mem_singleton] at q
   subst q
   exact ⟨by simp,fun k hk=>by rw [List.map_append];exact List.mem_append_left _ (h1 k hk)⟩
theorem AddL.keys:∀ {l:List Tr} {rs:List Nat} {its:List It} {R:List (Nat × Ro)},AddL l rs its R->(∀ r∈rs,r∈R.map Prod.fst)/\∀ it∈its,it.rx∈R.map Prod.fst/\∀ k∈Zju it.c,k∈R.map Prod.fst
 | _,_,_,_,.nil=>⟨fun r h=>by simp at h,fun it h=>by simp at h⟩
 | _,_,_,_,.cons ht hl=>by
  obtain ⟨a1,a2⟩:=ht.keys;obtain ⟨b1,b2⟩:=hl.keys
  refine ⟨fun r h=>?_,fun it h=>?_⟩
  ·rw [List.map_append]
   rcases List.mem_cons.1 h with rfl|q
   ·exact List.mem_append_left _ a1
   ·exact List.mem_append_right _ (b1 r q)
  ·rw [List.map_append]
   rcases List.mem_append.1 h with q|q
   ·exact ⟨List.mem_append_left _ (a2 it q).1,fun k hk=>List.mem_append_left _ ((a2 it q).2 k hk)⟩
   ·exact ⟨List.mem_append_right _ (b2 it q).1,fun k hk=>List.mem_append_right _ ((b2 it q).2 k hk)⟩
end
def ZsL (R:List (Nat × Ro)) (k:Nat):Ro:=((R.find? fun p=>p.1 == k).map Prod.snd).getD .zero
theorem ZgZ:∀ {R:List (Nat × Ro)},(R.map Prod.fst).Nodup->∀ p∈R,ZsL R p.1=p.2
 | [],_,p,hp=>by simp at hp
 | q::R,hn,p,hp=>by
  rw [jC,List.nodup_cons] at hn;unfold ZsL;rw [List.find?_cons]
  rcases List.mem_cons.1 hp with rfl|w
  ·simp
  ·have:q.1≠p.1:=fun e=>hn.1 (by rw [e];exact List.mem_map.2 ⟨p,w,rfl⟩)
   rw [show (q.1 == p.1)=false by simp [this]]
   exact ZgZ hn.2 p w
def PI (t:Tr) (its:List It) (rx:Nat) (ρ:Nat->Ro):Prop:=(IsEmpty t/\its=[]/\ρ rx=.zero)\/(∃ N,Val N t)/\∃ R,AddT t rx its R/\(∀ p∈R,ρ p.1=p.2)/\(R.map Prod.fst).Nodup
def nw (t:Tr):Nat:=if t.old=0/\t.h=0/\t.text=[] then 0 else t.cnt
theorem ZTE {N:ZQ} {t:Tr} (hv:Val N t):nw t=t.cnt:=by
 unfold nw
 cases hv with
 | kept h0=>rw [if_neg];simp [Tr.old,h0]
 | leaf h1=>rw [if_neg];rintro ⟨_,_,q⟩;simp only [Tr.text] at q;rw [q] at h1;simp at h1
 | inner=>rw [if_neg];simp [Tr.h]
structure Begun (A:List (Bool × List Blk)) (L L2:List Blk) (la b:Nat) (t:Tr) (tx ver:Nat) (cs:List AV) (its:List It) (F:List (Nat × Blk)) (keys:List Nat) (rx:Nat) (ρ:Nat->Ro):Prop where
 ps:PenS ⟨A,false,L2⟩ A.length (L.length+1) tx ver la b cs its F keys rx ρ 0
 len:L.length+2<=L2.length
 old:∀ i,i<L.length->L2[i]?=L[i]?
 klo:∀ k∈keys,L.length+2<=k
 flo:∀ p∈F,L.length+2<=p.1
 tlo:cs≠[]->L.length+2<=tx
 pi:PI t its rx ρ
theorem ZmL {N:ZQ} {A:List (Bool × List Blk)} {L:List Blk} {la b:Nat} {r:AR} (hA:HasR ⟨A,false,L⟩ la b r) (hN:r.n<=r.blk.length) (h16:r.states.length<=16384) (h6:r.n<65536) {t:Tr} (hv:Val r.nodes t) (hb:t.bytes<=65536) (hn:t.cnt<=r.n) :
 ∃ L2 tx ver cs its F keys rx ρ,S Tb XJ [.ptr la (b+5) 0 0 0,t.av] ⟨A,false,L⟩=some (.tup [.ptr A.length (L.length+1) 0 0 0,.int .i64 0],⟨A,false,L2⟩)/\Begun A L L2 la b t tx ver cs its F keys rx ρ:=by
 have hCk:=fun T=>ZS4 (hA.app T).rd hv hb
 have hNw:=fun st=>Zrl hv (by omega) st
 have hSt:=fun T=>ZgW (hA.app T) hN h16 h6
 unfold AR.statsAV at hSt;obtain ⟨T,hT⟩:∃ T:List Blk,T=[.arr 7 0 [t.av],.arr 3 0 [.agg [.ptr la (b+5) 0 0 0,.nils,.nilptr]]]:=⟨_,rfl⟩
 have hTl:T.length=2:=by rw [hT];rfl
 have hip:(L++T)[L.length+1]?=some (.arr 3 0 [.agg [.ptr la (b+5) 0 0 0,.nils,.nilptr]]):=by rw [Q1,hT];rfl
 have hP:Pen A (L++T) (L.length+1) (.ptr la (b+5) 0 0 0) .nils []:=⟨⟨_,hip⟩,.inl ⟨rfl,rfl⟩⟩
 obtain ⟨L1,td1,rx,its,cs,R,F,hS,ha⟩:=Zs3 hv hb hP (by simp;omega)
 obtain ⟨⟨rp,p1⟩,p2⟩:=ha.pen;rw [lE] at p2;have hl1:=ha.frm.len;rw [lL,hTl] at hl1;have hlt1:L.length+1<L1.length:=(List.getElem?_eq_some_iff.1 p1).1
 have hkl:∀ k∈R.map Prod.fst,L.length+2<=k:=fun k hk=>by
  obtain ⟨p,hp,rfl⟩:=List.mem_map.1 hk
  have:=ha.rlo p hp
  rwa [lL,hTl] at this
 have hfl:∀ p∈F,L.length+2<=p.1:=fun p hp=>by
  have:=ha.flo p hp
  rwa [lL,hTl] at this
 have hg:∀ i,i≠L.length+1->∀ B,(L1.set (L.length+1) B)[i]?=L1[i]?:=fun i hi B=>jS (fun q=>hi q.symm)
 obtain ⟨q1,q2⟩:=ha.tr.keys
 have hbl:la=A.length->b+5<L.length:=fun e=>by
  have:=hA.h5
  subst e;rw [St.get_cur] at this;exact (List.getElem?_eq_some_iff.1 (ZBC this).1).1
 -- where the list lies
 obtain ⟨tx,ver,t1,t2,t3⟩:∃ tx ver,(cs=[]/\td1=.nils/\tx=L.length\/cs≠[]/\td1=.ref A.length tx ver 0 cs.length/\L1[tx]?=some (.arr 1 ver cs)/\L.length+2<=tx/\YT (L.length+1) td1 tx)/\tx≠L.length+1/\(∀ k,L.length+2<=k->¬ YT (L.length+1) td1 k->k≠tx):=by
  rcases p2 with ⟨e1,e2⟩|⟨tx,ver,e1,e2,e3,e4⟩
  ·exact ⟨L.length,0,.inl ⟨e2,e1,rfl⟩,by omega,fun k hk _=>by omega⟩
  ·have hX:YT (L.length+1) td1 tx:=.inr ⟨_,_,_,_,e1⟩
   refine ⟨tx,ver,.inr ⟨e4,e1,e2,?_,hX⟩,e3,fun k hk hn q=>hn (by rw [q];exact hX)⟩
   rcases ha.frm.own tx hX with w|w
   ·rcases w with w|⟨_,_,_,_,w⟩
    ·exact absurd w e3
    ·simp at w
   ·rwa [lL,hTl] at w
 refine ⟨L1.set (L.length+1) (.arr 3 0 [.agg [.ptr la (b+5) 0 0 0,td1,.ptr A.length rx 0 0 0]]),tx,ver,cs,its,F,R.map Prod.fst,rx,ZsL R,XY rfl ?_,⟨⟨by simp [St.wr],⟨td1,by rw [St.get_cur,List.getElem?_set_self hlt1];rfl,?_⟩,ha.cl,?_,?_,q2,q1,?_,t2,?_,?_,?_,Nat.zero_le _⟩,by rw [List.length_set];omega,?_,hkl,hfl,fun hc=>(by
  rcases t1 with ⟨w,_⟩|⟨_,_,_,w,_⟩
  ·exact absurd w hc
  ·exact w),.inr ⟨⟨_,hv⟩,R,ha.tr,ZgZ ha.nd,ha.nd⟩⟩⟩
 ·have e0:(⟨A,false,L⟩:St)=⟨A,false,L++[]⟩:=by rw [lN]
  rw [e0];rw [hT] at hS
  repeat' (first|refine XN rfl (QB _) (QW _) rfl rfl ?_|refine XN rfl rfl rfl rfl rfl ?_|refine ZAh rfl rfl rfl (Zw _) ?_|refine ZE ?_|refine ZD ?_|refine ZG rfl ?_|refine ZJ rfl rfl ?_|refine ZB rfl ?_|refine ZC ?_|refine ZXQ (agg:=false) rfl rfl ?_|refine Zb rfl rfl ?_|(refine QD rfl rfl (fun _=>?_) (fun _=>?_)<;>try (exfalso;omega))|(refine Ze rfl rfl (fun _=>?_) (fun _=>?_)<;>try (exfalso;omega))|refine ZF rfl ?_|refine Zt rfl rfl rfl ?_|refine ZA rfl rfl (by first|rfl|(simp only [lE,lN,lC,Zn,Za,ZZ];first|done|rfl)) (hCk _) ?_|refine ZA rfl rfl (by first|rfl|(simp only [lE,lN,lC,Zn,Za,ZZ];first|done|rfl)) (hNw _) ?_|refine ZA rfl rfl (by first|rfl|(simp only [lE,lN,lC,Zn,Za,ZZ];first|done|rfl)) (hSt _) ?_|refine ZA rfl rfl (by first|rfl|(simp only [lE,lN,lC,Zn,Za,ZZ];first|done|rfl)) (hS) ?_|refine ZH ?_)
  all_goals try (exfalso;omega)
  refine JD p1 rfl rfl rfl ?_ rfl ?_
  ·simp only [Zd,Qd,if_pos (Nat.lt_succ_self _)]
  repeat' (first|refine ZE ?_|refine ZD ?_|refine ZG rfl ?_|refine ZB rfl ?_|refine ZC ?_|refine ZO ?_|refine ZL ?_)
  refine (Jj (.inr rfl) rfl rfl rfl rfl).trans ?_;rfl
 ·rcases t1 with ⟨e1,e2,e3⟩|⟨e0,e1,e2,e3⟩
  ·exact .inl ⟨e1,e2⟩
  ·exact .inr ⟨e0,e1,by rw [St.get_cur,hg _ t2,e2];rfl⟩
 ·intro p hp
  obtain ⟨f1,f2⟩:=ha.fx p hp;obtain ⟨w,v,es,f3,f4⟩:=ha.fw p hp
  have:p.1≠L.length+1:=fun q=>f2 (.inl q)
  rw [St.get_cur,hg _ this,f1,f3];rfl
 ·intro k hk
  obtain ⟨p,hp,rfl⟩:=List.mem_map.1 hk;obtain ⟨f1,f2⟩:=ha.rts.get hp
  have:p.1≠L.length+1:=fun q=>f2 (.inl q)
  rw [St.get_cur,hg _ this,f1,ZgZ ha.nd p hp];rfl
 ·intro k hk
  have h1:=hkl k hk;obtain ⟨p,hp,rfl⟩:=List.mem_map.1 hk
  exact ⟨by omega,t3 _ h1 (ha.rts.get hp).2⟩
 ·intro p hp
  obtain ⟨f1,f2⟩:=ha.fx p hp;obtain ⟨w,v,es,f3,f4⟩:=ha.fw p hp;have h1:=hfl p hp
  refine ⟨fun q=>?_,by omega,t3 _ h1 f2⟩
  obtain ⟨u,hu,e⟩:=List.mem_map.1 q;have f5:=(ha.rts.get hu).1;rw [e,f1,f3] at f5;simp only [oJ,Blk.arr.injEq] at f5;exact f4 f5.1
 ·intro i hi ⟨e1,e2,e3⟩
  have:=hbl e1.symm
  rcases hi with rfl|⟨c1,rfl⟩|q|⟨p,hp,rfl⟩
  ·omega
  ·rcases t1 with ⟨w,_⟩|⟨_,_,_,w,_⟩
   ·exact c1 w
   ·omega
  ·have:=hkl i q;omega
  ·have:=hfl p hp;omega
 ·have h1:=ha.cl.len
  have h2:=ha.tr.cnt;omega
 ·intro i hi
  rw [hg i (by omega),ha.frm.old i (by rw [lL];omega) (fun q=>?_),jL hi]
  rcases q with q|⟨_,_,_,_,q⟩
  ·omega
  ·simp at q
theorem Zga {A:List (Bool × List Blk)} {ro:Bool} {L:List Blk} {i:Nat} {b:Blk} (h:L[i]?=some b) (hv:vis (some b)=some b):St.get ⟨A,ro,L⟩ A.length i=some b:=by rw [St.get_cur,h,hv]
theorem ZmM {t:Tr} (ht:IsEmpty t) (st:St):S Tb ZAx [t.av] st=some (.int .i64 (0:Nat),st) :=
 ZTC (c:=1) ht.ks (fun st=>ZDf t ht st) st
theorem ZiH {A:List (Bool × List Blk)} {L:List Blk} {la b:Nat} {r:AR} (hA:HasR ⟨A,false,L⟩ la b r) (hN:r.n<=r.blk.length) (h16:r.states.length<=16384) (h6:r.n<65536) {t:Tr} (ht:IsEmpty t) :
 ∃ L2 tx ver cs its F keys rx ρ,S Tb XJ [.ptr la (b+5) 0 0 0,t.av] ⟨A,false,L⟩=some (.tup [.ptr A.length (L.length+1) 0 0 0,.int .i64 0],⟨A,false,L2⟩)/\Begun A L L2 la b t tx ver cs its F keys rx ρ:=by
 have hCk:=fun T=>ZTj (st:=⟨A,false,L++T⟩) (lv:=la) (ix:=b+5) ht
 have hNw:=fun st=>ZmM ht st
 have hSt:=fun T=>ZgW (hA.app T) hN h16 h6
 unfold AR.statsAV at hSt
 have hbl:la=A.length->b+5<L.length:=fun e=>by
  have:=hA.h5
  subst e;rw [St.get_cur] at this;exact (List.getElem?_eq_some_iff.1 (ZBC this).1).1
 obtain ⟨T,hT⟩:∃ T:List Blk,T=[.arr 7 0 [t.av],.arr 3 0 [.agg [.ptr la (b+5) 0 0 0,.nils,.nilptr]]]:=⟨_,rfl⟩
 have hadd:S Tb Qy [.ptr A.length (L.length+1) 0 0 0,t.av] ⟨A,false,L++T⟩=some (.ptr A.length ((L++T).length+1) 0 0 0,⟨A,false,(L++T)++[.arr 7 0 [t.av],.arr 5 0 [Ro.zero.av]]⟩):=by
  refine XY rfl ?_
  have e0:(⟨A,false,L++T⟩:St)=⟨A,false,(L++T)++[]⟩:=by rw [lN]
  rw [e0];generalize L++T=L0;obtain ⟨o,h,m,s,k⟩:=t;obtain ⟨h1,h2,h3,h4,h5⟩:=ht;simp only [Tr.old,Tr.h,Tr.m,Tr.text,Tr.ks] at h1 h2 h3 h4 h5;subst h1 h2 h3 h4
  obtain ⟨ka,hka,hka2⟩:∃ ka,Tr.avO k=ka/\(ka=.nils\/ka=.lit []):=by
   cases k with
   | none=>exact ⟨_,rfl,.inl rfl⟩
   | some l=>have:l=[]:=h5;subst this;exact ⟨_,rfl,.inr rfl⟩
  simp only [Tr.av,Mea.zero,hka] at *
  rcases hka2 with rfl|rfl
  all_goals repeat' (first|refine XN rfl rfl rfl rfl rfl ?_|refine ZAh rfl rfl rfl rfl ?_|refine ZE ?_|refine ZD ?_|refine ZG rfl ?_|refine ZJ rfl rfl ?_|refine Z2 rfl ?_|refine Zf rfl rfl rfl rfl ?_|refine ZB rfl ?_|refine ZC ?_|refine ZF9 rfl rfl ?_|refine YC rfl ?_|(refine Zi rfl rfl (fun _=>?_) (fun _=>?_)<;>try (exfalso;omega))|(refine Ze rfl rfl (fun _=>?_) (fun _=>?_)<;>try (exfalso;omega))|(refine YY rfl rfl (fun _=>?_) (fun _=>?_)<;>try contradiction)|refine ZS rfl ?_|refine Zt rfl rfl rfl ?_|refine ZH ?_|refine ZO ?_|refine ZP ?_|refine ZL ?_|refine Z7 ?_)
  all_goals try contradiction
  all_goals try (exfalso;omega)
  all_goals refine (Jj (.inr rfl) rfl rfl rfl rfl).trans ?_
  all_goals rfl
 have hTl:T.length=2:=by rw [hT];rfl
 have hl2:(L++T).length=L.length+2:=by rw [lL,hTl]
 rw [hl2] at hadd
 have p1:((L++T)++[Blk.arr 7 0 [t.av],Blk.arr 5 0 [Ro.zero.av]])[L.length+1]?=some (.arr 3 0 [.agg [.ptr la (b+5) 0 0 0,.nils,.nilptr]]):=by
  rw [List.append_assoc,Q1,hT];rfl
 refine ⟨((L++T)++[Blk.arr 7 0 [t.av],Blk.arr 5 0 [Ro.zero.av]]).set (L.length+1) (Blk.arr 3 0 [.agg [.ptr la (b+5) 0 0 0,.nils,.ptr A.length (L.length+3) 0 0 0]]),L.length,0,[],[],[],[L.length+3],L.length+3,fun _=>.zero,XY rfl ?_,⟨⟨by simp [St.wr],⟨.nils,?_,.inl ⟨rfl,rfl⟩⟩,.nil,fun p hp=>by simp at hp,fun k hk=>?_,fun it hi=>by simp at hi,by simp,fun k hk=>?_,by omega,fun p hp=>by simp at hp,fun i hi=>?_,by simp,Nat.zero_le _⟩,by simp,fun i hi=>?_,fun k hk=>?_,fun p hp=>by simp at hp,fun hc=>absurd rfl hc,.inl ⟨ht,rfl,rfl⟩⟩⟩
 ·have e0:(⟨A,false,L⟩:St)=⟨A,false,L++[]⟩:=by rw [lN]
  rw [e0];rw [hT] at hadd p1 ⊢
  repeat' (first|refine XN rfl (QB _) (QW _) rfl rfl ?_|refine XN rfl rfl rfl rfl rfl ?_|refine ZAh rfl rfl rfl (Zw _) ?_|refine ZE ?_|refine ZD ?_|refine ZG rfl ?_|refine ZJ rfl rfl ?_|refine ZB rfl ?_|refine ZC ?_|refine ZXQ (agg:=false) rfl rfl ?_|refine Zb rfl rfl ?_|(refine QD rfl rfl (fun _=>?_) (fun _=>?_)<;>try (exfalso;omega))|(refine Ze rfl rfl (fun _=>?_) (fun _=>?_)<;>try (exfalso;omega))|refine ZF rfl ?_|refine Zt rfl rfl rfl ?_|refine ZA rfl rfl (by first|rfl|(simp only [lE,lN,lC,Zn,Za,ZZ];first|done|rfl)) (hCk _) ?_|refine ZA rfl rfl (by first|rfl|(simp only [lE,lN,lC,Zn,Za,ZZ];first|done|rfl)) (hNw _) ?_|refine ZA rfl rfl (by first|rfl|(simp only [lE,lN,lC,Zn,Za,ZZ];first|done|rfl)) (hSt _) ?_|refine ZA rfl rfl (by first|rfl|(simp only [lE,lN,lC,Zn,Za,ZZ];first|done|rfl)) (hadd) ?_|refine ZH ?_)
  all_goals try (exfalso;omega)
  refine JD p1 rfl rfl rfl ?_ rfl ?_
  ·simp only [Zd,Qd,if_pos (Nat.lt_succ_self _)]
  repeat' (first|refine ZE ?_|refine ZD ?_|refine ZG rfl ?_|refine ZB rfl ?_|refine ZC ?_|refine ZO ?_|refine ZL ?_)
  refine (Jj (.inr rfl) rfl rfl rfl rfl).trans ?_;rfl
 ·exact Zga (List.getElem?_set_self (by simp)) rfl
 ·simp only [List.mem_singleton] at hk
  subst hk;refine Zga ?_ rfl
  rw [jS (by omega),show L.length+3=(L++T).length+1 by rw [hl2],Q1];rfl
 ·simp only [List.mem_singleton] at hk
  omega
 ·rintro ⟨e1,e2,e3⟩
  have:=hbl e1.symm
  rcases hi with rfl|⟨c1,rfl⟩|q|⟨p,hp,rfl⟩
  ·omega
  ·exact c1 rfl
  ·simp only [List.mem_singleton] at q;omega
  ·simp at hp
 ·rw [jS (by omega),List.append_assoc,jL hi]
 ·simp only [List.mem_singleton] at hk
  omega
end Go.Q15
namespace Go.Q15
open Go Go.QAbs
set_option maxRecDepth 100000
set_option maxHeartbeats 8000000
def XP (h:Nat):AV:=.int .u64 h
namespace Tr
end Tr
end Go.Q15
namespace Go.Q15
open Go Go.QAbs
set_option maxRecDepth 100000
set_option maxHeartbeats 8000000
def wrV (t:Tr) (r:AR):AR × Ro × List Nat:=if t.old=0/\t.h=0/\t.text=[] then (r,.zero,[]) else t.wr r
theorem Zk3 {N:ZQ} {t:Tr} (hv:Val N t) (r:AR):wrV t r=t.wr r:=by
 unfold wrV
 cases hv with
 | kept h0=>rw [if_neg];simp [Tr.old,h0]
 | leaf h1=>rw [if_neg];rintro ⟨_,_,q⟩;simp only [Tr.text] at q;rw [q] at h1;simp at h1
 | inner=>rw [if_neg];simp [Tr.h]
theorem ZeM {t:Tr} (h:IsEmpty t) (r:AR):wrV t r=(r,.zero,[]):=by
 unfold wrV;rw [if_pos ⟨h.old,h.h,h.text⟩]
theorem Val.not_empty {N:ZQ} {t:Tr} (hv:Val N t):¬ IsEmpty t:=fun h=>by
 have:=hv.pos.2
 have:=h.bytes
 omega
theorem PI.run {r:AR} (ho:AROk r) (hg:GoodN r.nodes) {t:Tr} (hv:VE r.nodes t) (hb:t.bytes<=65536) (hn:nw t<=r.n) {its:List It} {rx:Nat} {ρ:Nat->Ro} (h:PI t its rx ρ) :
 ∃ ρ',RunOk its r ρ (wrV t r).1 ρ' (wrV t r).2.2/\ρ' rx=(wrV t r).2.1:=by
 rcases h with ⟨h1,rfl,h2⟩|⟨⟨M,hM⟩,R,h1,h2,h3⟩
 ·rw [ZeM h1];exact ⟨ρ,.nil,h2⟩
 ·rcases hv with hv|hv
  ·exact absurd hv hM.not_empty
  ·rw [Zk3 hv]
   rw [ZTE hv] at hn;obtain ⟨ρ',a1,a2,_⟩:=exec_ok hg hv hb r ho hg (.refl _) hn rx its R ρ h1 h2 h3;exact ⟨ρ',a1,a2⟩
theorem Zk4 {A:List (Bool × List Blk)} {L:List Blk} {la b:Nat} {r:AR} (hA:HasR ⟨A,false,L⟩ la b r) (hN:r.n<=r.blk.length) (h16:r.states.length<=16384) (h6:r.n<65536) {t:Tr} (hv:VE r.nodes t) (hb:t.bytes<=65536) (hn:nw t<=r.n) :
 ∃ L2 tx ver cs its F keys rx ρ,S Tb XJ [.ptr la (b+5) 0 0 0,t.av] ⟨A,false,L⟩=some (.tup [.ptr A.length (L.length+1) 0 0 0,.int .i64 0],⟨A,false,L2⟩)/\Begun A L L2 la b t tx ver cs its F keys rx ρ:=by
 rcases hv with hv|hv
 ·exact ZiH hA hN h16 h6 hv
 ·rw [ZTE hv] at hn
  exact ZmL (N:=r.nodes) hA hN h16 h6 hv hb hn
theorem Zq6 {A:List (Bool × List Blk)} {L:List Blk} {ix ver n:Nat} {l:List Nat} {ro:Ro} {e:Int} (hg:L[ix]?=some (.arr 1 ver (l.map XP))) (hn:n=l.length) :
 Zd Qd A.length ⟨A,false,L⟩ (.tup [ro.av,.ref A.length ix ver 0 n,.int .i64 e])=some (.tup [ro.av,.lit (l.map XP),.int .i64 e],⟨A,false,L.set ix .dead⟩):=by
 subst hn
 have h1:=ZLc (n:=4) (A:=A) (s:=0) (m:=l.length) hg (by simp) (es':=l.map XP) (by
  rw [List.drop_zero,List.take_of_length_le (by simp)]
  exact ZTB (k:=.u64) (fun n:Nat=>(n:Int)) 3 0 _ l)
 show (mapSt (Zd 5 A.length) _ _).bind ZeY=_
 have h2:Zd 5 A.length ⟨A,false,L⟩ ro.av=some (ro.av,⟨A,false,L⟩):=rfl;simp only [mapSt,h2,oS,h1];rfl
theorem RunOk.len {its:List It} {r r':AR} {ρ ρ':Nat->Ro} {hs:List Nat} (h:RunOk its r ρ r' ρ' hs):hs.length=its.length:=by
 induction h with
 | nil=>rfl
 | cons hn hx hk h ih=>simp [ih]
theorem RunOk.inv {it:It} {its:List It} {r r':AR} {ρ ρ':Nat->Ro} {l:List Nat} (h:RunOk (it::its) r ρ r' ρ' l) :
 ∃ hs,l=r.next::hs/\0<r.n/\NdOk (JG ρ it.c)/\ZTD r.nodes (JG ρ it.c)/\RunOk its (r.add (JG ρ it.c)) (ZQV ρ it.rx r.next) r' ρ' hs:=by
 cases h with
 | cons hn hx hk h=>exact ⟨_,rfl,hn,hx,hk,h⟩
theorem RunOk.nil_inv {r r':AR} {ρ ρ':Nat->Ro} {l:List Nat} (h:RunOk [] r ρ r' ρ' l):l=[]/\r'=r/\ρ'=ρ:=by
 cases h;exact ⟨rfl,rfl,rfl⟩
theorem ZoV {st:St} {la b:Nat} (hl:la<=st.A.length) (rj r2:AR) {n:Nat} (hn:n=st.A.length+1) (L:List Blk) (ip tx ver len rx k:Nat) (ro:Ro) (j:Nat) :
 ZHy ⟨(Q7 st la b rj).ps,false,L⟩ n ip tx ver la b len rx r2 k ro j=⟨(Q7 st la b r2).ps,false,(L.set k (.arr 5 0 [ro.av])).set ip (.arr 3 0 [.agg [.ptr la (b+5) 0 0 0,.ref n tx ver (j+1) (len-j-1),.ptr n rx 0 0 0]])⟩:=by
 have e1:Q7 ⟨(Q7 st la b rj).ps,false,L⟩ la b r2=⟨(Q7 st la b r2).ps,false,L⟩:=by
  rw [ZLn rfl (by rw [ZTA];exact hl),ZmD]
 have e2:((Q7 st la b r2).ps).length=n:=by rw [hn];simp [ZTA]
 rw [ZHy,e1];unfold St.upd;simp only [e2,if_true]
theorem PenS.frm {A:List (Bool × List Blk)} {L L':List Blk} {n ip tx ver la b:Nat} {cls:List AV} {its:List It} {F:List (Nat × Blk)} {keys:List Nat} {rx:Nat} {ρ:Nat->Ro} {j:Nat} (h:PenS ⟨A,false,L⟩ n ip tx ver la b cls its F keys rx ρ j) (hn:n=A.length)
 (hg:∀ i,i=ip\/(cls≠[]/\i=tx)\/i∈keys\/(∃ p∈F,i=p.1)->L'[i]?=L[i]?):PenS ⟨A,false,L'⟩ n ip tx ver la b cls its F keys rx ρ j:=by
 subst hn;obtain ⟨td,h1,h2⟩:=h.pen
 have hget:∀ i,(i=ip\/(cls≠[]/\i=tx)\/i∈keys\/(∃ p∈F,i=p.1))->St.get ⟨A,false,L'⟩ A.length i=St.get ⟨A,false,L⟩ A.length i:=fun i hi=>by rw [St.get_cur,St.get_cur,hg i hi]
 refine ⟨by simp [St.wr],⟨td,by rw [hget _ (.inl rfl)];exact h1,?_⟩,h.cl,fun p hp=>by rw [hget _ (.inr (.inr (.inr ⟨p,hp,rfl⟩)))];exact h.fx p hp,fun k hk=>by rw [hget _ (.inr (.inr (.inl hk)))];exact h.rts k hk,h.key,h.rk,h.s1,h.s2,h.s3,h.ar,h.len,h.jl⟩
 rcases h2 with q|⟨hc,q1,q2⟩
 ·exact .inl q
 ·exact .inr ⟨hc,q1,by rw [hget _ (.inr (.inl ⟨hc,rfl⟩))];exact q2⟩
theorem ZoW {e:Env} {A:List (Bool × List Blk)} {st:St} {L:List Blk} {x:Ex} {c4 c5 c6 j4 ix w4 v4 ver n:Nat} {l:List Nat} {ro:Ro} {z:Int} (hA:A=st.A++[(st.ro,st.L)]) (hx:x=.norm\/x=.ret) (h4:J4 e c4=some (.ptr A.length j4 v4 0 0)) (hg4:L[j4]?=some (.arr w4 v4 [ro.av]))
 (h5:J4 e c5=some (.ref A.length ix ver 0 n)) (hg5:L[ix]?=some (.arr 1 ver (l.map XP))) (hn:n=l.length) (h6:J4 e c6=some (.int .i64 z)):YI false [.c c4 true 5,.s c5,.s c6] (x,e,⟨A,false,L⟩)=some (.tup [ro.av,.lit (l.map XP),.int .i64 z],st):=by
 refine ZEV (v:=.tup [ro.av,.ref A.length ix ver 0 n,.int .i64 z]) hA hx ?_ (Zq6 hg5 hn) rfl
 have h1:ZBY ⟨A,false,L⟩ e (.c c4 true 5)=some ro.av:=by
  simp only [ZBY,QV h4,loadP,St.get_cur,hg4,vis,ZH2,if_true,List.getElem?_cons_zero,oS];rfl
 simp only [Q3,ZET,h1,oS];simp only [ZBY,QV h5,QV h6,oS,Option.map_some,ZH4]
theorem Zk5 {st:St} {la b:Nat} {r:AR} (hA:Has st la b r) (ho:AROk r) (hg:GoodN r.nodes) {t:Tr} (hv:VE r.nodes t) (hb:t.bytes<=65536) (hn:nw t<=r.n) :
 S Tb ZAN [.ptr la (b+5) 0 0 0,t.av] st=some (.tup [(wrV t r).2.1.av,.lit ((wrV t r).2.2.map XP),.int .i64 0],Q7 st la b (wrV t r).1):=by
 refine Yo rfl (fun A hA'=>?_)
 obtain ⟨LB,hLB⟩:∃ LB:List Blk,LB=[.arr 7 0 [t.av],.arr 5 0 [Ro.zero.av],.arr 1 0 []]:=⟨_,rfl⟩;have hle:=hA.le
 have hla:la<A.length:=by rw [hA'];simp;omega
 have h3:LB.length=3:=by rw [hLB];rfl
 obtain ⟨L2,tx,ver,cs,its,F,keys,rx,ρ,hS,hB⟩:=Zk4 (L:=LB) (hA.push hA').r ho.nb ho.n16 (by have:=ho.nn;have:=ho.n16;omega) hv hb hn
 obtain ⟨ρ',hrun,hro⟩:=hB.pi.run ho hg hv hb hn
 generalize (wrV t r).1=r' at *
 generalize (wrV t r).2.2=hs at *
 generalize (wrV t r).2.1=ro at *
 have hcl:=hB.ps.cl.len
 have hk5:∀ k∈keys,5<=k:=fun k hk=>by have:=hB.klo k hk;omega
 have g1:L2[1]?=some (.arr 5 0 [Ro.zero.av]):=by rw [hB.old 1 (by omega),hLB];rfl
 have g2:L2[2]?=some (.arr 1 0 (([]:List Nat).map XP)):=by rw [hB.old 2 (by omega),hLB];rfl
 have hps:=hB.ps;rw [h3] at hS hps;rw [hLB] at hS
 repeat' (first|refine ZE ?_|refine ZD ?_|refine ZG rfl ?_|refine Zp rfl rfl ?_|refine ZB rfl ?_|refine ZC ?_|(refine Ze rfl rfl (fun _=>?_) (fun _=>?_)<;>try (exfalso;omega))|refine ZF rfl ?_|refine Zk rfl rfl rfl ?_|refine ZA6 rfl ?_|refine ZV rfl rfl rfl (Zw _) ?_|refine Zy rfl (QB _) (QW _) ?_|refine ZA rfl rfl (by first|rfl|(simp only [lE,lN,lC,Zn,Za,ZZ];first|done|rfl)) (hS) ?_|refine ZH ?_|refine ZP ?_)
 all_goals try contradiction
 have hAn:A.length=st.A.length+1:=by rw [hA'];simp
 have hhl:=hrun.len
 refine Z0 (α:=Bool × Nat × AR × (Nat->Ro) × List Blk) (fun p=>match p.1 with
  | true=>[(4,.ptr A.length 1 0 0 0),(5,.ref A.length 2 p.2.1 0 p.2.1),(6,.int .i64 0),(7,.ptr A.length 4 0 0 0),(18,.bool false)]
  | false=>[(4,.ptr A.length 1 0 0 0),(5,.ref A.length 2 p.2.1 0 p.2.1),(7,.ptr A.length 4 0 0 0)])
  (fun p=>⟨(Q7 st la b p.2.2.1).ps,false,p.2.2.2.2⟩)
  (fun p=>PenS ⟨(Q7 st la b p.2.2.1).ps,false,p.2.2.2.2⟩ A.length 4 tx ver la b cs its F keys rx p.2.2.2.1 p.2.1/\AROk p.2.2.1/\RunOk (its.drop p.2.1) p.2.2.1 p.2.2.2.1 r' ρ' (hs.drop p.2.1)/\p.2.1<=its.length/\p.2.2.2.2[1]?=some (.arr 5 0 [Ro.zero.av])/\p.2.2.2.2[2]?=some (.arr 1 p.2.1 ((hs.take p.2.1).map XP)))
  (fun p=>its.length-p.2.1) (true,0,r,ρ,L2) rfl ?_ ?_ ?_
 ·simp only [hA.same,<- hA']
 ·simp only [hA.same,<- hA']
  exact ⟨hps,ho,hrun,Nat.zero_le _,g1,g2⟩
 rintro ⟨fst,j,rj,ρj,Lj⟩ ⟨q1,q2,q3,q4,q5,q6⟩
 simp only at q1 q2 q3 q4 q5 q6
 have hHj:Has ⟨(Q7 st la b rj).ps,false,Lj⟩ la b rj:=(hA.put rj).push rfl;obtain ⟨td,t1,t2⟩:=q1.pen
 have hAl:A.length=(Q7 st la b rj).ps.length:=by rw [hAn];simp [ZTA]
 rcases Nat.lt_or_ge j its.length with hlt|hge
 ·obtain ⟨it,hit⟩:∃ it,its[j]?=some it:=⟨its[j]'hlt,by simp [hlt]⟩
  have hd:its.drop j=it::its.drop (j+1):=by
   rw [List.drop_eq_getElem_cons hlt];rw [jE hlt] at hit;rw [Option.some.inj hit]
  rw [hd] at q3;obtain ⟨hs2,e1,hn1,hx1,hk1,hr1⟩:=q3.inv
  have hdj:hs[j]?=some rj.next:=by
   have:=List.getElem?_drop (xs:=hs) (i:=j) (j:=0)
   rw [e1] at this
   simpa using this.symm
  have hd2:hs.drop (j+1)=hs2:=by
   rw [<- List.drop_drop,e1];rfl
  obtain ⟨p1,p2,p3⟩:=q1.step hHj q2 hn1 hit hx1 hk1;rw [ZoV hle rj _ hAn] at p1 p2
  have hjc:j<cs.length:=by rw [hcl];exact hlt
  have hne:cs≠[]:=fun q=>by rw [q] at hjc;simp at hjc
  rcases t2 with ⟨w,_⟩|⟨_,rfl,t3⟩
  ·exact absurd w hne
  obtain ⟨k1,_⟩:=q1.key it (jM hit);have hk5':=hk5 _ k1
  have hl4:Lj[4]?=some (.arr 3 0 [.agg [.ptr la (b+5) 0 0 0,.ref A.length tx ver j (cs.length-j),.ptr A.length rx 0 0 0]]):=by
   rw [hAl] at t1;rw [St.get_cur] at t1;rw [hAl];exact (ZBC t1).1
  obtain ⟨r2,hr2⟩:∃ r2,r2=rj.add (JG ρj it.c):=⟨_,rfl⟩;rw [<- hr2] at p1 p2 hr1
  have ho2:AROk r2:=by rw [hr2];exact q2.add hn1 _
  have hAl2:A.length=(Q7 st la b r2).ps.length:=by rw [hAn];simp [ZTA]
  obtain ⟨L3,hL3⟩:∃ L3,L3=(Lj.set it.rx (.arr 5 0 [((ρj it.rx).wr rj.next).av])).set 4 (.arr 3 0 [.agg [.ptr la (b+5) 0 0 0,.ref A.length tx ver (j+1) (cs.length-j-1),.ptr A.length rx 0 0 0]]):=⟨_,rfl⟩;rw [<- hL3] at p1 p2
  have h31:L3[1]?=some (.arr 5 0 [Ro.zero.av]):=by rw [hL3,jS (by omega),jS (by omega)];exact q5
  have h32:L3[2]?=some (.arr 1 j ((hs.take j).map XP)):=by rw [hL3,jS (by omega),jS (by omega)];exact q6
  have hj2:j=((hs.take j).map XP).length:=by simp;omega
  have hj3:∀ x:AV,((hs.take j).map XP).length+[x].length<4294967296:=fun x=>by have:=q1.len;simp;omega
  have hinv:∀ L4,L4=L3.set 2 (.arr 1 (j+1) ((hs.take j).map XP++[.int .u64 rj.next]))->PenS ⟨(Q7 st la b r2).ps,false,L4⟩ A.length 4 tx ver la b cs its F keys rx (ZQV ρj it.rx rj.next) (j+1)/\AROk r2/\RunOk (its.drop (j+1)) r2 (ZQV ρj it.rx rj.next) r' ρ' (hs.drop (j+1))/\j+1<=its.length/\L4[1]?=some (.arr 5 0 [Ro.zero.av])/\L4[2]?=some (.arr 1 (j+1) ((hs.take (j+1)).map XP)):=by
   rintro L4 rfl
   refine ⟨?_,ho2,by rw [hd2];exact hr1,hlt,by rw [jS (by omega)];exact h31,?_⟩
   ·refine p2.frm hAl2 (fun i hi=>jS ?_)
    rcases hi with rfl|⟨hc,rfl⟩|q|⟨p,hp,rfl⟩
    ·omega
    ·have:=hB.tlo hc;omega
    ·have:=hk5 i q;omega
    ·have:=hB.flo p hp;omega
   ·rw [List.getElem?_set_self (List.getElem?_eq_some_iff.1 h32).1,Zq hdj,List.map_append];rfl
  obtain ⟨A2,hA2⟩:∃ A2,A2=(Q7 st la b r2).ps:=⟨_,rfl⟩;obtain ⟨A1,hA1⟩:∃ A1,A1=(Q7 st la b rj).ps:=⟨_,rfl⟩;rw [<- hA1] at p1 hAl ⊢;rw [<- hA2] at p1 hAl2;have hA12:A1.length=A2.length:=hAl.symm.trans hAl2;rw [hAl] at hl4 p1 hinv ⊢
  cases fst
  all_goals simp only
  all_goals repeat' (first|refine ZA rfl rfl rfl p1 ?_|refine ZE ?_|refine ZD ?_|refine ZG rfl ?_|refine ZJ rfl rfl ?_|refine Zp rfl rfl ?_|refine ZB rfl ?_|refine ZC ?_|refine Zb rfl rfl ?_|refine Qj rfl ?_|(refine QD rfl rfl (fun _=>?_) (fun _=>?_)<;>try (exfalso;omega))|(refine Ze rfl rfl (fun _=>?_) (fun _=>?_)<;>try (exfalso;omega))|refine ZS rfl ?_|refine ZF rfl ?_|refine JJ rfl rfl rfl rfl ?_|refine ZV rfl hl4 rfl rfl ?_|refine ZH ?_|refine ZP ?_)
  all_goals try contradiction
  all_goals try (exfalso;omega)
  all_goals rw [hA12]
  all_goals repeat' (first|refine ZCq rfl rfl h32 hj2 rfl rfl (hj3 _) (by decide) ?_|refine ZG rfl ?_|refine ZB rfl ?_|refine Z7 ?_|refine QJ ?_)
  all_goals rw [hA12,hA2] at hinv
  all_goals rw [hA2]
  all_goals exact ⟨(false,j+1,r2,ZQV ρj it.rx rj.next,_),⟨rfl,rfl⟩,hinv _ rfl,by simp only;omega⟩
 ·obtain rfl:j=its.length:=by omega
  rw [List.drop_length,<- hhl,List.drop_length] at q3;obtain ⟨_,rfl,rfl⟩:=q3.nil_inv;rw [<- hhl,List.take_length] at q6;have hRt:=ZsK q1 hcl.symm;rw [hro] at hRt;obtain ⟨A1,hA1⟩:∃ A1,A1=(Q7 st la b r').ps:=⟨_,rfl⟩;rw [<- hA1] at hRt hAl ⊢
  have hl4:∃ w,Lj[4]?=some (.arr 3 0 [.agg [.ptr la (b+5) 0 0 0,td,w]])/\(td=.nils\/∃ v,td=.ref A.length tx v its.length 0):=by
   rw [hAl,hA1,St.get_cur] at t1;refine ⟨_,(ZBC t1).1,?_⟩
   rcases t2 with ⟨_,w⟩|⟨_,w,_⟩
   ·exact .inl w
   ·refine .inr ⟨ver,?_⟩
    rw [w,hcl,Nat.sub_self]
  obtain ⟨w4,hl4,htd⟩:=hl4
  rw [<- hhl] at *
  have hl1:=(List.getElem?_eq_some_iff.1 q5).1;rw [hAl] at hRt htd ⊢
  rcases htd with rfl|⟨v,rfl⟩
  all_goals cases fst
  all_goals simp only
  all_goals repeat' (first|refine ZA rfl rfl rfl hRt ?_|refine ZE ?_|refine ZD ?_|refine ZG rfl ?_|refine ZJ rfl rfl ?_|refine Zp rfl rfl ?_|refine ZB rfl ?_|refine ZC ?_|refine Zb rfl rfl ?_|refine Qj rfl ?_|refine YC rfl ?_|(refine QD rfl rfl (fun _=>?_) (fun _=>?_)<;>try (exfalso;omega))|refine ZF rfl ?_|refine ZV rfl hl4 rfl rfl ?_|refine Zu ?_|refine Zh ?_|refine Zc rfl ?_|refine Zs ?_)
  all_goals try (exfalso;omega)
  all_goals refine JD q5 rfl rfl rfl rfl rfl ?_
  all_goals repeat' (first|refine ZE ?_|refine ZD ?_|refine ZG rfl ?_|refine ZB rfl ?_|refine ZC ?_|refine ZV rfl (List.getElem?_set_self hl1) rfl rfl ?_)
  all_goals refine JD (List.getElem?_set_self hl1) rfl rfl rfl rfl rfl ?_
  all_goals rw [List.set_set]
  all_goals repeat' (first|refine ZG rfl ?_|refine ZB rfl ?_|refine ZC ?_|refine ZO ?_|refine ZL ?_)
  all_goals exact ZoW (ro:=ro) hA1 (.inr rfl) rfl (List.getElem?_set_self hl1) rfl ((jS (by omega)).trans q6) (by simp) rfl
end Go.Q15
namespace Go.QAbs
def TLe (T T':Tab):Prop:=∀ f x,T f=some x->T' f=some x
theorem ZeN {T T':Tab} (h:TLe T T'):∀ n,Le (Qr T n) (Qr T' n)
 | 0=>fun _ _ _ _ q=>by simp [Qr] at q
 | n+1=>fun f _ _ _ q=>Qh (fun x q=>h f x q) (fun x _ q=>by
  cases x with
  | pf pf=>exact ZMW (ZeN h n) (Zem (Nat.le_refl n)) q
  | base o=>exact q) q
theorem Zs5 {T T':Tab} (h:TLe T T'):Le (S T) (S T'):=fun f a st r q=>by
 obtain ⟨n,hn⟩:=S_iff.1 q;exact S_iff.2 ⟨n,ZeN h n _ _ _ _ hn⟩
end Go.QAbs
namespace Go.Q15
open Go Go.QAbs
set_option maxRecDepth 100000
set_option maxHeartbeats 8000000
def QQ (N:ZQ) (o:Nat):Nd:=(lk N o).getD ⟨0,[],none⟩
theorem J3 {N:ZQ} {o:Nat} {x:Nd} (h:lk N o=some x):QQ N o=x:=by unfold QQ;rw [h];rfl
def RtOk (N:ZQ) (r:Ro):Prop:=r=.zero\/(r.at_≠0/\∃ x,lk N r.at_=some x/\NdOk x/\x.h=r.h/\x.mea=r.m)
theorem RtOk.h13 {N:ZQ} (hN:GoodN N) {r:Ro} (hr:RtOk N r):r.h<=13:=by
 rcases hr with rfl|⟨h0,x,h1,h2,h3,h4⟩
 ·decide
 ·have hv:Val N (.keep r):=.kept h0 h1 h2 h3 h4 rfl
  have hb:(Tr.keep r).bytes=r.m.b:=by simp [Tr.keep,Tr.bytes,Tr.bytesO]
  have:=h2.mea_pos
  exact hv.height hN (by rw [hb,<- h4];omega)
def ZDj (r:Ro):Tr:=if r.at_=0 then .zero else .keep r
theorem Zq7 {st:St} {lv ix:Nat} {N:ZQ} (hr:Rd st lv ix N) {r:Ro} (h:RtOk N r):S Tb ZBK [.ptr lv ix 0 0 0,r.av] st=some (.tup [(ZDj r).av,.int .i64 0],st):=by
 unfold ZDj
 rcases h with rfl|⟨h0,x,h1,h2,h3,h4⟩
 ·rw [if_pos (by rfl)];exact Zl2
 ·rw [if_neg h0];exact Zr8 hr h1 h2 h0 h3 h4
end Go.Q15
namespace Go.QAbs
end Go.QAbs
namespace Go.Q15
open Go Go.QAbs
set_option maxRecDepth 100000
set_option maxHeartbeats 8000000
theorem ZmO (l:List (List UInt8)):JH 1 (l.map AV.str)=true:=by
 induction l with
 | nil=>rfl
 | cons b s ih=>rw [jC,JH,List.all_cons];exact Bool.and_eq_true_iff.2 ⟨rfl,ih⟩
def ZiK (r:AR) (o:Nat):Prop:=ZCn o/\r.states[o % 65536]?=some 1/\r.gens[o % 65536]?=some ((o / 65536:Nat):Int)
instance (r:AR) (o:Nat):Decidable (ZiK r o):=by unfold ZiK;exact inferInstance
theorem ZiL:∀ l:List Tr,(∀ t∈l,4*(t.cnt:Int)+4<=t.bytes)->4*(Tr.cntL l:Int)+4*l.length<=Tr.bytesL l
 | [],_=>by simp [Tr.cntL,Tr.bytesL]
 | t::l,h=>by
  have h1:=h t (by simp)
  have h2:=ZiL l fun u hu=>h u (by simp [hu])
  simp only [Tr.cntL,Tr.bytesL,List.length_cons];omega
theorem ZoY {N:ZQ} (hN:GoodN N) {t:Tr} (hv:Val N t):(t.cnt:Int)<=t.bytes/\(Big t->4*(t.cnt:Int)+4<=t.bytes):=by
 have hsz:=hv.size hN;have hps:=hv.pos.2
 induction hv with
 | @kept o h m k x h0 hx hok hh hm hk =>
  have ec:(Tr.mk o h m [] k).cnt=0:=by rw [Tr.cnt,Tr.cntO_getD,hk,if_neg h0];rfl
  have hl:h<=16:=by
   rcases hok with q|⟨n,ks,q⟩
   ·rw [<- hh,q.h];omega
   ·have:=q.n15;have e:=q.eq;subst e;simp only at hh;omega
  rw [ec]
  refine ⟨by omega,fun q=>?_⟩
  have h1:=hsz q;have h2:=(ZLd hl).1;simp only [Tr.h] at h1;omega
 | @leaf s k h1 h2 hk =>
  have ec:(Tr.mk 0 0 .zero s k).cnt=1:=by rw [Tr.cnt,Tr.cntO_getD,hk];rfl
  rw [ec]
  refine ⟨by omega,fun q=>?_⟩
  have:=q rfl
  omega
 | @inner h l hh h2 h4 hl hb hv ih =>
  have ec:(Tr.mk 0 (h+1) .zero [] (some l)).cnt=Tr.cntL l+1:=by rw [Tr.cnt,Tr.cntO];simp;omega
  have eb:(Tr.mk 0 (h+1) .zero [] (some l)).bytes=Tr.bytesL l:=by rw [Tr.bytes,Tr.bytesO];simp [Mea.zero]
  have:=ZiL l fun u hu=>(ih u hu ((hv u hu).size hN) (hv u hu).pos.2).2 (fun q=>hb u hu (by rw [<- hl u hu];exact q))
  rw [ec,eb]
  exact ⟨by omega,fun _=>by omega⟩
theorem Zs6 {N:ZQ} (hN:GoodN N) {t:Tr} (hv:VE N t):(nw t:Int)<=t.bytes:=by
 rcases hv with he|hv
 ·unfold nw;rw [if_pos ⟨he.old,he.h,he.text⟩,he.bytes];decide
 ·rw [ZTE hv];exact (ZoY hN hv).1
theorem Zjv {A:List (Bool × List Blk)} {L:List Blk} {la b:Nat} {r:AR} (hA:HasR ⟨A,false,L⟩ la b r) (hN:r.n<=r.blk.length) (h16:r.states.length<=16384) (h6:r.n<65536) {t:Tr} (hg:GoodN r.nodes) (hv:VE r.nodes t) (hb:t.bytes<=65536) (hn:r.n<nw t) :
 S Tb XJ [.ptr la (b+5) 0 0 0,t.av] ⟨A,false,L⟩=some (.tup [.nilptr,.int .i64 6],⟨A,false,L++[.arr 7 0 [t.av]]⟩):=by
 have hv:Val r.nodes t:=by
  rcases hv with he|hv
  ·unfold nw at hn;rw [if_pos ⟨he.old,he.h,he.text⟩] at hn;omega
  ·exact hv
 rw [ZTE hv] at hn;have hcb:=(ZoY hg hv).1
 have hCk:=fun T=>ZS4 (hA.app T).rd hv hb
 have hNw:=fun st=>Zrl hv (by omega) st
 have hSt:=fun T=>ZgW (hA.app T) hN h16 h6
 unfold AR.statsAV at hSt;refine XY rfl ?_
 have e0:(⟨A,false,L⟩:St)=⟨A,false,L++[]⟩:=by rw [lN]
 rw [e0]
 repeat' (first|refine XN rfl (QB _) (QW _) rfl rfl ?_|refine ZAh rfl rfl rfl (Zw _) ?_|refine ZE ?_|refine ZD ?_|refine ZG rfl ?_|refine ZB rfl ?_|refine ZC ?_|refine ZXQ (agg:=false) rfl rfl ?_|(refine QD rfl rfl (fun _=>?_) (fun _=>?_)<;>try (exfalso;omega))|(refine Ze rfl rfl (fun _=>?_) (fun _=>?_)<;>try (exfalso;omega))|refine ZS rfl ?_|refine ZF rfl ?_|refine ZA rfl rfl (by first|rfl|(simp only [lE,lN,lC,Zn,Za,ZZ];first|done|rfl)) (hCk _) ?_|refine ZA rfl rfl (by first|rfl|(simp only [lE,lN,lC,Zn,Za,ZZ];first|done|rfl)) (hNw _) ?_|refine ZA rfl rfl (by first|rfl|(simp only [lE,lN,lC,Zn,Za,ZZ];first|done|rfl)) (hSt _) ?_|refine ZH ?_|refine ZO ?_|refine ZL ?_|refine ZU ?_)
 all_goals try (exfalso;omega)
 refine (Jj (.inr rfl) rfl rfl rfl rfl).trans ?_;rfl
theorem Zjw {st:St} {la b:Nat} {r:AR} (hA:Has st la b r) (ho:AROk r) (hg:GoodN r.nodes) {t:Tr} (hv:VE r.nodes t) (hb:t.bytes<=65536) (hn:r.n<nw t) :
 S Tb ZAN [.ptr la (b+5) 0 0 0,t.av] st=some (.tup [Ro.zero.av,.lit [],.int .i64 6],st):=by
 refine Yo rfl (fun A hA'=>?_)
 have hS:=fun L=>Zjv (L:=L) (hA.push hA').r ho.nb ho.n16 (by have:=ho.nn;have:=ho.n16;omega) hg hv hb hn
 repeat' (first|refine ZE ?_|refine ZD ?_|refine ZG rfl ?_|refine Zp rfl rfl ?_|refine ZB rfl ?_|refine ZC ?_|(refine Ze rfl rfl (fun _=>?_) (fun _=>?_)<;>try (exfalso;omega))|refine ZS rfl ?_|refine Zt rfl rfl rfl ?_|refine Zk rfl rfl rfl ?_|refine QE rfl rfl rfl rfl rfl rfl ?_|refine ZA6 rfl ?_|refine ZV rfl rfl rfl (Zw _) ?_|refine Zy rfl (QB _) (QW _) ?_|refine ZA rfl rfl (by first|rfl|(simp only [lE,lN,lC,Zn,Za,ZZ];first|done|rfl)) (hS _) ?_|refine ZO ?_|refine ZL ?_|refine ZU ?_)
 all_goals try contradiction
 all_goals try (exfalso;omega)
 exact ZoW (ro:=.zero) (l:=[]) hA' (.inr rfl) rfl rfl rfl rfl rfl rfl
theorem ZiM {x:List UInt8} {l:List (List UInt8)} {i:Nat} (h:l[i]?=some x):(l.take (i+1)).flatten=(l.take i).flatten++x:=by
 rw [List.take_add_one,h];simp
theorem ZWc (l:List (List UInt8)) (i:Nat):(l.take i).flatten.length<=l.flatten.length:=by
 have:=congrArg List.length (congrArg List.flatten (List.take_append_drop i l))
 rw [List.flatten_append,lL] at this;omega
theorem PI.ok {r:AR} (ho:AROk r) (hg:GoodN r.nodes) {t:Tr} (hv:VE r.nodes t) (hb:t.bytes<=65536) (hn:nw t<=r.n) {its:List It} {rx:Nat} {ρ:Nat->Ro} (h:PI t its rx ρ) :
 WrB r (nw t) (wrV t r).1 (wrV t r).2.2/\(IsEmpty t/\(wrV t r).2.1=.zero\/Val r.nodes t/\WrOk r.nodes t (wrV t r).1 (wrV t r).2.1):=by
 rcases h with ⟨h1,_,h2⟩|⟨⟨M,hM⟩,R,h1,h2,h3⟩
 ·have e:nw t=0:=by unfold nw;rw [if_pos ⟨h1.old,h1.h,h1.text⟩]
  rw [ZeM h1,e];exact ⟨.refl ho hg,.inl ⟨h1,rfl⟩⟩
 ·rcases hv with hv|hv
  ·exact absurd hv hM.not_empty
  ·rw [Zk3 hv,ZTE hv]
   rw [ZTE hv] at hn;obtain ⟨ρ',a1,a2,a3,a4,a5⟩:=exec_ok hg hv hb r ho hg (.refl _) hn rx its R ρ h1 h2 h3;exact ⟨a4,.inr ⟨hv,a5⟩⟩
theorem Zs7 {st:St} {la b:Nat} {r:AR} (hA:Has st la b r) (ho:AROk r) (hg:GoodN r.nodes) {t:Tr} (hv:VE r.nodes t) (hb:t.bytes<=65536) (hn:nw t<=r.n) :
 WrB r (nw t) (wrV t r).1 (wrV t r).2.2/\(IsEmpty t/\(wrV t r).2.1=.zero\/Val r.nodes t/\WrOk r.nodes t (wrV t r).1 (wrV t r).2.1):=by
 obtain ⟨L2,tx,ver,cs,its,F,keys,rx,ρ,hS,hB⟩:=Zk4 (L:=[]) (hA.push rfl).r ho.nb ho.n16 (by have:=ho.nn;have:=ho.n16;omega) hv hb hn
 exact hB.pi.ok ho hg hv hb hn
def ZFk (N:ZQ) (r:Ro):List UInt8:=if r.at_=0 then [] else QO N r.h r.at_
structure Rt (N:ZQ) (r:Ro) (s:List UInt8):Prop where
 rt:RtOk N r
 tx:ZFk N r=s
theorem RtOk.ext {N M:ZQ} (hE:Ext N M) {r:Ro} (h:RtOk N r):RtOk M r:=h.imp id fun ⟨h0,x,h1,h2⟩=>⟨h0,x,hE _ _ h1,h2⟩
theorem Rt.ext {N M:ZQ} (hN:GoodN N) (hE:Ext N M) {r:Ro} {s:List UInt8} (h:Rt N r s):Rt M r s:=by
 refine ⟨h.rt.ext hE,?_⟩;rw [<- h.tx];unfold ZFk
 split
 ·rfl
 ·rename_i q
  rcases h.rt with e|⟨_,x,h1,_,h2,_⟩
  ·rw [e] at q;exact absurd rfl q
  ·exact ZLo hN hE _ _ x h1 h2
theorem Rt.zero (N:ZQ):Rt N .zero []:=⟨.inl rfl,rfl⟩
theorem Rt.m {N:ZQ} (hN:GoodN N) {r:Ro} {s:List UInt8} (h:Rt N r s):r.m=JK s:=by
 obtain ⟨h,rfl⟩:=h;unfold ZFk
 rcases h with rfl|⟨h0,x,h1,h2,h3,h4⟩
 ·rfl
 ·rw [if_neg h0,ZA1 hN _ _ x h1 h3,h4]
theorem Rt.wr {r:AR} (ho:AROk r) {N:ZQ} {t:Tr} {ro:Ro} (h:WrOk N t r ro):Rt r.nodes ro (t.txt N):=by
 obtain ⟨y,h1,h2,h3,h4⟩:=h.live;have h0:=(ho.hnd h1).2
 refine ⟨.inr ⟨h0,y,h1,h2,by rw [h3,h.rh],by rw [h4,h.rm]⟩,?_⟩
 unfold ZFk;rw [if_neg h0,h.rh,h.txt]
theorem Rt.keep {N:ZQ} {r:Ro} {s:List UInt8} (h:Rt N r s):VE N (ZDj r)/\(ZDj r).txt N=s:=by
 obtain ⟨h,rfl⟩:=h;unfold ZFk ZDj
 rcases h with rfl|⟨h0,x,h1,h2,h3,h4⟩
 ·rw [if_pos (by rfl),if_pos (by rfl)];exact ⟨.inl zero_empty,rfl⟩
 ·rw [if_neg h0,if_neg h0]
  exact ⟨.inr (.kept h0 h1 h2 h3 h4 rfl),by rw [Tr.keep,Tr.txt,if_neg h0];simp [Tr.txtO]⟩
theorem Rt.b {N:ZQ} (hN:GoodN N) {r:Ro} {s:List UInt8} (h:Rt N r s):(ZDj r).bytes=s.length/\r.m.b=s.length:=by
 have h1:=h.keep;have h2:=h1.1.len hN;rw [h1.2] at h2
 exact ⟨h2.symm,by rw [h.m hN];rfl⟩
theorem Zk6 {st:St} {la b:Nat} {r:AR} (hA:Has st la b r) (ho:AROk r) (hg:GoodN r.nodes) {t:Tr} (hv:VE r.nodes t) (hb:t.bytes<=65536) (hn:nw t<=r.n) :
 WrB r (nw t) (wrV t r).1 (wrV t r).2.2/\Rt (wrV t r).1.nodes (wrV t r).2.1 (t.txt r.nodes):=by
 obtain ⟨h1,h2⟩:=Zs7 hA ho hg hv hb hn;refine ⟨h1,?_⟩
 rcases h2 with ⟨he,h2⟩|⟨hv,h2⟩
 ·rw [h2,he.txt];exact .zero _
 ·exact .wr h1.ok h2
theorem ZHz (A:List (Bool × List Blk)) (L0 T:List Blk) (r:AR):Has ⟨A,false,L0++(arB A.length L0.length r++T)⟩ A.length L0.length r:=by
 have h:∀ i b,(arB A.length L0.length r++T)[i]?=some b->vis (some b)=some b->St.get ⟨A,false,L0++(arB A.length L0.length r++T)⟩ A.length (L0.length+i)=some b:=by
  intro i b hb hv;rw [St.get_cur,Q1,hb,hv]
 exact ⟨by simp [St.wr],h 0 _ rfl rfl,h 1 _ rfl rfl,h 2 _ rfl rfl,h 3 _ rfl rfl,h 4 _ rfl rfl,h 5 _ rfl rfl⟩
theorem Zah (A:List (Bool × List Blk)) (L0 T:List Blk) (r r':AR):Q7 ⟨A,false,L0++(arB A.length L0.length r++T)⟩ A.length L0.length r'=⟨A,false,L0++(arB A.length L0.length r'++T)⟩:=by
 have h:∀ (X:List Blk) (i:Nat) (b:Blk),St.upd ⟨A,false,L0++X⟩ A.length (L0.length+i) b=⟨A,false,L0++X.set i b⟩:=fun X i b=>by
  unfold St.upd;simp only [if_true,ZQN]
 have h0:∀ (X:List Blk) (b:Blk),St.upd ⟨A,false,L0++X⟩ A.length L0.length b=⟨A,false,L0++X.set 0 b⟩:=fun X b=>h X 0 b
 simp only [Q7,arK,arB,Zx,h,h0];rfl
theorem ZsM {e:Env} {A:List (Bool × List Blk)} {st:St} {L:List Blk} {x:Ex} {c4 c5 j4 w4 v4:Nat} {ro:Ro} {z:Int} (hA:A=st.A++[(st.ro,st.L)]) (hx:x=.norm\/x=.ret) (h4:J4 e c4=some (.ptr A.length j4 v4 0 0)) (hg4:L[j4]?=some (.arr w4 v4 [ro.av]))
 (h6:J4 e c5=some (.int .i64 z)):YI false [.c c4 true 5,.s c5] (x,e,⟨A,false,L⟩)=some (.tup [ro.av,.int .i64 z],st):=by
 refine ZEV (v:=.tup [ro.av,.int .i64 z]) hA hx ?_ (L':=L) rfl rfl
 have h1:ZBY ⟨A,false,L⟩ e (.c c4 true 5)=some ro.av:=by
  simp only [ZBY,QV h4,loadP,St.get_cur,hg4,vis,ZH2,if_true,List.getElem?_cons_zero,oS];rfl
 simp only [Q3,ZET,h1,oS];simp only [ZBY,QV h6,oS,Option.map_some,ZH4]
theorem Zk7 {st:St} {la b:Nat} {r:AR} (hA:Has st la b r) (ho:AROk r) (hg:GoodN r.nodes) (s:List UInt8) (hs:s.length<=65536) (hn:nw (Q6 s)<=r.n) :
 S Tb ZDB [.ptr la (b+5) 0 0 0,.str s] st=some (.tup [(wrV (Q6 s) r).2.1.av,.int .i64 0],Q7 st la b (wrV (Q6 s) r).1):=by
 obtain ⟨b1,b2,b3⟩:=ZAI hg hs
 refine Yo rfl (fun A hA'=>?_)
 have hB:=fun L=>ZgT hg s hs ⟨A,false,L⟩
 have hle:=hA.le
 have hW:=fun L=>Zk5 (st:=⟨A,false,L⟩) (hA.push hA') ho hg b1 (by rw [b3];omega) hn
 simp only [ZLn hA' hle] at hW
 generalize (wrV (Q6 s) r).1=r' at *
 generalize (wrV (Q6 s) r).2.1=ro at *
 repeat' (first|refine ZE ?_|refine ZD ?_|refine ZG rfl ?_|refine Zp rfl rfl ?_|refine ZB rfl ?_|refine ZC ?_|(refine Ze rfl rfl (fun _=>?_) (fun _=>?_)<;>try (exfalso;omega))|refine ZF rfl ?_|refine Q5 rfl rfl rfl rfl ?_|refine Zk rfl rfl rfl ?_|refine ZV rfl rfl rfl (Zw _) ?_|refine QE rfl rfl rfl (Qq _ _ _) (Jm _ _) rfl ?_|refine ZA rfl rfl (by first|rfl|(simp only [lE,lN,lC,Zn,Za,ZZ];first|done|rfl)) (hB _) ?_|refine ZH ?_)
 all_goals try contradiction
 all_goals try (exfalso;omega)
 obtain ⟨A2,hA2⟩:∃ A2,A2=(Q7 st la b r').ps:=⟨_,rfl⟩;simp only [<- hA2] at hW
 have hAl:A.length=A2.length:=by rw [hA',hA2];simp [St.ps,ZTA]
 refine ZA rfl rfl (Zs2 rfl _) (hW _) ?_;rw [hAl]
 repeat' (first|refine JD rfl rfl rfl rfl rfl rfl ?_|refine ZV rfl rfl rfl rfl ?_|refine ZE ?_|refine ZD ?_|refine ZG rfl ?_|refine Zp rfl rfl ?_|refine ZB rfl ?_|refine ZC ?_|refine Zk rfl rfl rfl ?_|refine ZO ?_|refine ZL ?_)
 exact ZsM hA2 (.inr rfl) rfl rfl rfl
theorem Zai (n g:Nat) (hn:n<=16384) (hg:1<=g/\g<=4294967295):AROk (JP n g):=by
 have hb:∀ i,i<n->(JP n g).blk[i]?=some ((n:Int)-1-i):=fun i hi=>by simp [JP,hi]
 refine ⟨by simp [JP],by simp [JP];exact hn,by simp [JP],by simp [JP],fun i hi=>⟨n-1-i,?_,?_,?_⟩,fun i j hi hj q=>?_,fun s hs=>⟨1,?_,by omega,?_⟩,?_,fun h x hx=>?_,?_,?_,?_⟩
 ·have hi':i<n:=hi
  rw [hb i hi'];congr 1
  show (n:Int)-1-i=((n-1-i:Nat):Int)
  omega
 ·have hi':i<n:=hi
  show n-1-i<(List.replicate n (0:Int)).length
  rw [List.length_replicate];omega
 ·have hi':i<n:=hi
  show (List.replicate n (0:Int))[n-1-i]?=some 0
  rw [List.getElem?_replicate,if_pos (by omega)]
 ·have hi':i<n:=hi
  have hj':j<n:=hj;rw [hb i hi',hb j hj'] at q
  have:=Option.some.inj q
  omega
 ·have hs':s<n:=by simpa [JP] using hs
  simp [JP,hs']
 ·show ((1:Nat):Int)<=(g:Int);omega
 ·show (g:Int)<=_;omega
 ·simp [JP,lk] at hx
 ·simp [JP]
 ·simp [JP]
 ·simp [JP];omega
noncomputable def ZiO (p:AR × List Ro) (s:List UInt8):AR × List Ro:=((wrV (Q6 s) p.1).1,p.2++[(wrV (Q6 s) p.1).2.1])
noncomputable def XT (texts:List (List UInt8)):AR × List Ro:=texts.foldl ZiO (JP 1500 3,[])
theorem ZNz (l:List (List UInt8)) (s:List UInt8):XT (l++[s])=ZiO (XT l) s:=by unfold XT;rw [List.foldl_append];rfl
def Rts (N:ZQ) (ros:List Ro) (ss:List (List UInt8)):Prop:=ros.length=ss.length/\∀ (i:Nat) (ro:Ro) (s:List UInt8),ros[i]?=some ro->ss[i]?=some s->Rt N ro s
theorem Rts.ext {N M:ZQ} (hN:GoodN N) (hE:Ext N M) {ros:List Ro} {ss:List (List UInt8)} (h:Rts N ros ss):Rts M ros ss:=⟨h.1,fun i ro s h1 h2=>(h.2 i ro s h1 h2).ext hN hE⟩
theorem Rts.snoc {N:ZQ} {ros:List Ro} {ss:List (List UInt8)} (h:Rts N ros ss) {ro:Ro} {s:List UInt8} (g:Rt N ro s):Rts N (ros++[ro]) (ss++[s]):=by
 refine ⟨by simp [h.1],fun i r t h1 h2=>?_⟩
 rcases Nat.lt_or_ge i ros.length with q|q
 ·rw [jL q] at h1
  rw [jL (by rw [<- h.1];exact q)] at h2
  exact h.2 i r t h1 h2
 ·rw [List.getElem?_append_right q] at h1
  rw [List.getElem?_append_right (by rw [<- h.1];exact q)] at h2
  rw [<- h.1] at h2
  match hk:i-ros.length with
  | 0=>rw [hk] at h1 h2;obtain rfl:=Option.some.inj h1;obtain rfl:=Option.some.inj h2;exact g
  | n+1=>rw [hk] at h1;simp at h1
structure LaidOk (texts:List (List UInt8)) (p:AR × List Ro):Prop where
 ok:AROk p.1
 good:GoodN p.1.nodes
 rts:Rts p.1.nodes p.2 texts
 room:1500<=p.1.n+texts.flatten.length
theorem Zaj {l:List (List UInt8)} {p:AR × List Ro} {s:List UInt8} (h:LaidOk l p) (hl:(l++[s]).flatten.length<=900):nw (Q6 s)<=p.1.n/\LaidOk (l++[s]) (ZiO p s):=by
 have hfl:(l++[s]).flatten.length=l.flatten.length+s.length:=by simp
 have hr:=h.room
 have hs:s.length<=65536:=by omega
 obtain ⟨b1,b2,b3⟩:=ZAI h.good hs;have hw:=Zs6 h.good b1;rw [b3] at hw
 have hn:nw (Q6 s)<=p.1.n:=by omega
 obtain ⟨w1,w2⟩:=Zk6 (ZHz [] [] [] p.1) h.ok h.good b1 (by rw [b3];omega) hn
 rw [b2] at w2;refine ⟨hn,w1.ok,w1.good,(h.rts.ext h.good w1.ext).snoc w2,?_⟩
 have:=w1.n
 show 1500<=(wrV (Q6 s) p.1).1.n+_
 omega
theorem Zak (texts:List (List UInt8)) (hl:texts.flatten.length<=900):∀ i,i<=texts.length->LaidOk (texts.take i) (XT (texts.take i)):=by
 intro i
 induction i with
 | zero=>intro _;exact ⟨Zai 1500 3 (by omega) (by omega),ZQP,⟨rfl,fun i ro s h=>by simp [XT] at h⟩,by simp [XT,JP]⟩
 | succ i ih =>
  intro hi
  obtain ⟨s,hs⟩:∃ s,texts[i]?=some s:=⟨texts[i]'(by omega),by simp [show i<texts.length by omega]⟩
  rw [Zq hs,ZNz]
  refine (Zaj (ih (by omega)) ?_).2
  rw [<- Zq hs]
  have:=ZWc texts (i+1)
  omega
def ZEj (l:List Ro):List Blk:=l.map fun r=>Blk.arr 5 0 [r.av]
theorem ZsN (texts:List (List UInt8)) (hl:texts.flatten.length<=900) (h4:texts.length<=4) (A:List (Bool × List Blk)) (L0:List Blk) :
 S Tb Yb [.lit (texts.map .str)] ⟨A,false,L0⟩=some (.tup [.ptr A.length (L0.length+5) 0 0 0,.ref A.length (L0.length+6) texts.length 0 texts.length,.bool true],⟨A,false,L0++(arB A.length L0.length (XT texts).1++(.arr 5 texts.length ((XT texts).2.map Ro.av)::ZEj (XT texts).2))⟩):=by
 refine XY rfl ?_
 have hN:=Zkx 1500 3 (by omega) (by omega) A L0
 repeat' (first|refine Zh8 ?_|refine ZE ?_|refine ZD ?_|refine ZG rfl ?_|refine Z2 rfl ?_|refine Zf rfl rfl rfl rfl ?_|refine Zp rfl rfl ?_|refine ZB rfl ?_|refine ZC ?_|(refine Ze rfl rfl (fun _=>?_) (fun _=>?_)<;>try (exfalso;omega))|refine ZF rfl ?_|refine Q5 rfl rfl rfl rfl ?_|refine ZA rfl rfl rfl (hN) ?_|refine ZH ?_|refine ZP ?_)
 all_goals try contradiction
 have e7:(L0++[(JP 1500 3).b0,(JP 1500 3).b1,(JP 1500 3).b2,(JP 1500 3).b3 A.length L0.length,(JP 1500 3).b4,(JP 1500 3).b5 A.length L0.length]).length=L0.length+6:=by simp
 rw [e7]
 refine Z0 (α:=Nat) (fun i=>[(0,.lit (texts.map .str)),(5,.ptr A.length (L0.length+5) 0 0 0),(7,.ref A.length (L0.length+6) i 0 i),(8,.int .i64 i)])
  (fun i=>⟨A,false,L0++(arB A.length L0.length (XT (texts.take i)).1++(.arr 5 i ((XT (texts.take i)).2.map Ro.av)::ZEj (XT (texts.take i)).2))⟩) (fun i=>i<=texts.length) (fun i=>texts.length-i) 0 rfl ?_ (by simp) ?_
 ·rw [List.append_assoc];rfl
 rintro i hi
 have hok:=Zak texts hl i hi
 rcases Nat.lt_or_ge i texts.length with hlt|hge
 ·obtain ⟨s,hs⟩:∃ s,texts[i]?=some s:=⟨texts[i]'(by omega),by simp [show i<texts.length by omega]⟩
  have hfl:=ZWc texts (i+1)
  have htk:(texts.take i++[s]).flatten.length<=900:=by rw [<- Zq hs];omega
  obtain ⟨hn,hok2⟩:=Zaj hok htk
  have h1:=Zk7 (ZHz A L0 (.arr 5 i ((XT (texts.take i)).2.map Ro.av)::ZEj (XT (texts.take i)).2) (XT (texts.take i)).1) hok.ok hok.good s (by simp at htk;omega) hn
  rw [Zah] at h1
  have hV:XT (texts.take (i+1))=ZiO (XT (texts.take i)) s:=by rw [Zq hs,ZNz]
  unfold ZiO at hV;have hri:=hok.rts.1;rw [List.length_take,Nat.min_eq_left hi] at hri
  generalize XT (texts.take i)=V at *
  generalize wrV (Q6 s) V.1=W at *
  have hx:0<=((i:Nat):Int)/\texts[((i:Nat):Int).toNat]?=some s:=⟨by omega,by rw [show ((i:Nat):Int).toNat=i by omega];exact hs⟩
  obtain ⟨L1,hL1⟩:∃ L1,L1=L0++(arB A.length L0.length W.1++Blk.arr 5 i (List.map Ro.av V.2)::ZEj V.2):=⟨_,rfl⟩;rw [<- hL1] at h1
  have g6:L1[L0.length+6]?=some (.arr 5 i (V.2.map Ro.av)):=by rw [hL1,Q1];rfl
  repeat' (first|refine Xr rfl rfl hx (fun _=>rfl) ?_|refine ZE ?_|refine ZD ?_|refine ZG rfl ?_|refine Zp rfl rfl ?_|refine ZB rfl ?_|refine ZC ?_|refine Qb rfl ?_|refine Qf rfl rfl rfl ?_|refine Qx rfl rfl ?_|(refine Zg rfl rfl (fun _=>?_) (fun _=>?_)<;>try (exfalso;omega))|(refine Ze rfl rfl (fun _=>?_) (fun _=>?_)<;>try (exfalso;omega))|refine ZS rfl ?_|refine ZF rfl ?_|refine Zy rfl rfl rfl ?_|refine JE rfl rfl rfl rfl rfl rfl ?_|refine JJ rfl rfl rfl rfl ?_|refine ZA rfl rfl rfl (h1) ?_|refine ZH ?_|refine ZP ?_)
  all_goals try contradiction
  all_goals try (exfalso;omega)
  have h6l:L0.length+6<L1.length:=(List.getElem?_eq_some_iff.1 g6).1
  refine ZCq (es:=V.2.map Ro.av) (ys:=[W.2.1.av]) rfl rfl (Xh g6) (by rw [List.length_map];omega) rfl rfl (by rw [List.length_map,List.length_singleton];omega) (by decide) ?_
  repeat' (first|refine ZD ?_|refine ZG rfl ?_|refine ZB rfl ?_|refine ZC ?_|refine Zm rfl rfl (by omega) ?_|refine Z7 ?_|refine QJ ?_)
  refine ⟨i+1,⟨rfl,?_⟩,by omega,by omega⟩
  simp only [hV];rw [hL1,List.append_assoc,ZQN]
  have e8:((V.2++[W.2.1]).map Ro.av)=V.2.map Ro.av++[W.2.1.av]:=by rw [List.map_append];rfl
  have e9:ZEj (V.2++[W.2.1])=ZEj V.2++[.arr 5 0 [W.2.1.av]]:=by unfold ZEj;rw [List.map_append];rfl
  rw [e8,e9];rfl
 ·obtain rfl:i=texts.length:=by omega
  rw [List.take_length]
  repeat' (first|refine ZE ?_|refine ZD ?_|refine ZG rfl ?_|refine ZB rfl ?_|refine ZC ?_|refine Qb rfl ?_|(refine Zg rfl rfl (fun _=>?_) (fun _=>?_)<;>try (exfalso;omega))|refine ZF rfl ?_|refine ZO ?_|refine Zu ?_|refine ZL ?_|refine Zh ?_|refine Zc rfl ?_|refine Zs ?_)
  refine (Jj (.inr rfl) rfl rfl rfl rfl).trans ?_;rfl
def Jc (x n:Int):Int:=(x % 18446744073709551616) % (n+1)
theorem JL {x n:Int} (h:0<=n):0<=Jc x n/\Jc x n<=n:=by
 unfold Jc
 have:=Int.emod_nonneg (x % 18446744073709551616) (show n+1≠0 by omega)
 have:=Int.emod_lt_of_pos (x % 18446744073709551616) (show 0<n+1 by omega)
 omega
theorem Zrn (x:Int):IntKind.u64.wrap x=x % 18446744073709551616:=by
 have e1:IntKind.u64.signed=false:=rfl;have e2:IntKind.u64.bits=64:=rfl;simp only [IntKind.wrap,e1,e2,Bool.false_and,if_false,jB];rfl
theorem ZFl (k:Option (List Tr)):(Tr.ownO k).getD []=(k.getD []).map Tr.own:=by
 cases k with
 | none=>rfl
 | some l=>simp [Tr.ownO,Tr.ownL_map]
theorem Zs8 (t:Tr):t.own.h=t.h:=by cases t;rfl
theorem ZLp (t:Tr):t.own.bytes=t.bytes:=by
 induction t using Tr.ind with
 | step o h m s k ih =>
  rw [Tr.own,Tr.bytes,Tr.bytes,Tr.bytesO_getD,Tr.bytesO_getD,ZFl];generalize k.getD []=l at ih
  congr 1
  induction l with
  | nil=>rfl
  | cons a l ih2=>rw [jC,Tr.bytesL,Tr.bytesL,ih a (by simp),ih2 (fun t ht=>ih t (by simp [ht]))]
theorem ZrA {N:ZQ} {t:Tr} (hv:Val N t):Val N t.own:=by
 induction hv with
 | kept h0 hx hok hh hm hk =>
  rw [Tr.own]
  exact .kept h0 hx hok hh hm (by rw [ZFl,hk];rfl)
 | leaf h1 h2 hk =>
  rw [Tr.own]
  exact .leaf h1 h2 (by rw [ZFl,hk];rfl)
 | inner hh h2 h4 hl hb hv ih =>
  rename_i h l
  rw [Tr.own,Tr.ownO,Tr.ownL_map]
  refine .inner hh (by rw [List.length_map];exact h2) (by rw [List.length_map];exact h4) ?_ ?_ ?_
  ·intro t ht
   obtain ⟨u,hu,rfl⟩:=List.mem_map.1 ht;rw [Zs8];exact hl u hu
  ·intro t ht q
   obtain ⟨u,hu,rfl⟩:=List.mem_map.1 ht;rw [ZLp];exact hb u hu q
  ·intro t ht
   obtain ⟨u,hu,rfl⟩:=List.mem_map.1 ht;exact ih u hu
theorem ZoZ {N:ZQ} {t:Tr} (h:VE N t):VE N t.own:=by
 rcases h with h|h
 ·obtain ⟨o,h',m,s,k⟩:=t
  obtain ⟨h1,h2,h3,h4,h5⟩:=h
  exact .inl ⟨h1,h2,h3,h4,by show (Tr.ownO k).getD []=[];rw [ZFl];simp only [Tr.ks] at h5;rw [h5];rfl⟩
 ·exact .inr (ZrA h)
theorem Zgd (x n:Int) (h0:0<=n) (h1:n<4611686018427387904) (st:St):S Tb JY [.int .i64 x,.int .i64 n] st=some (.int .i64 (Jc x n),st):=by
 have hp:=JL (x:=x) h0
 have hw:IntKind.u64.wrap (n+1)=n+1:=by rw [Zrn];omega
 have hx:=Int.emod_nonneg x (show (18446744073709551616:Int)≠0 by decide)
 have hrem:ZEl .rem (.int .u64 (IntKind.u64.wrap x)) (.int .u64 (n+1))=some (.int .u64 (Jc x n)):=by
  rw [Zrn]
  show (if n+1=0 then none else some (AV.int .u64 ((x % 18446744073709551616).tmod (n+1))))=_
  rw [if_neg (by omega),Int.tmod_eq_emod_of_nonneg hx];rfl
 refine Z9 rfl (fun A hA=>?_)
 repeat' (first|refine ZE ?_|refine ZD ?_|refine ZG rfl ?_|refine ZB rfl ?_|refine ZC ?_)
 refine Zew rfl ?_
 repeat' (first|refine ZG rfl ?_|refine Zm rfl rfl (by omega) ?_)
 refine ZON rfl hw ?_;refine ZM1 rfl rfl hrem ?_
 refine ZON rfl (ZQs (by omega) (by omega)) ?_
 repeat' (first|refine ZG rfl ?_|refine ZB rfl ?_|refine ZC ?_|refine ZO ?_|refine ZL ?_)
 refine ZX hA (by first|exact .inl rfl|exact .inr rfl) rfl rfl rfl rfl ?_
 rfl
structure Ed where
 what:Nat
 n:Int
 at_:Int
 len:Int
 text:List UInt8
def Ed.av (y:Ed):AV:=.agg [.int .u8 y.what,.int .i64 y.n,.int .i64 y.at_,.int .i64 y.len,.str y.text]
def ZeO (ros:List Ro) (x:Int):Option Ro:=ros[(Jc x ((ros.length:Int)-1)).toNat]?
noncomputable def ZDk (N:ZQ) (ros:List Ro) (y:Ed):Tr :=
 match ZeO ros y.n with
 | none=>Q6 y.text
 | some r=>(ZLM N (ZDj r) (Jc y.at_ r.m.b) (Jc y.len (r.m.b-Jc y.at_ r.m.b)) y.text).own
theorem Zoa {ros:List Ro} {x:Int} (h:ros≠[]):∃ r,ZeO ros x=some r/\r∈ros/\(Jc x ((ros.length:Int)-1)).toNat<ros.length:=by
 have hl:0<ros.length:=List.length_pos_iff.2 h
 have:=JL (x:=x) (n:=(ros.length:Int)-1) (by omega)
 have hlt:(Jc x ((ros.length:Int)-1)).toNat<ros.length:=by omega
 exact ⟨ros[(Jc x ((ros.length:Int)-1)).toNat]'hlt,by unfold ZeO;rw [jE hlt],List.getElem_mem _,hlt⟩
theorem Zk8 (r:Ro):Jq r.av true 0 5=some r.av:=by cases r;rfl
theorem ZMo {O:Orc} {k:List Fr} {Q:JV} {e:Env} {st:St} {keep:List Nat} {is:List QAbs.PI} {d:Nat} {α:Type} {f:α->AV} {x:Opd} {l:List α} (hx:Zj e x=some (.lit (l.map f))) (h:Is O is keep k Q ((d,.int .i64 l.length)::e) st):Is O (⟨some d,none,false,.len 1 x⟩::is) keep k Q e st:=by
 refine Zex hx ?_;rw [List.length_map];exact h
theorem ZrB {lv ix:Nat} {t:Tr} {n m:Int} {s:List UInt8}:ZZ (Zn ([]++[.ptr lv ix 0 0 0,t.av,.int .i64 n,.int .i64 m,.str s]++[]))=some [.ptr lv ix 0 0 0,t.av,.int .i64 n,.int .i64 m,.str s]:=by
 simp only [lE,lN,lC,Zn,Za,ZZ];rfl
structure PlanOk (N:ZQ) (ros:List Ro):Prop where
 rt:∀ r∈ros,RtOk N r/\(ZDj r).bytes=r.m.b/\0<=r.m.b/\r.m.b<=60000
 len:ros.length<65536
theorem Rts.plan {N:ZQ} (hN:GoodN N) {ros:List Ro} {ss:List (List UInt8)} (h:Rts N ros ss) (hl:ros.length<65536) (hs:∀ s∈ss,s.length<=60000):PlanOk N ros:=by
 refine ⟨fun r hr=>?_,hl⟩
 obtain ⟨i,hi,rfl⟩:=List.getElem_of_mem hr
 have hi2:i<ss.length:=by rw [<- h.1];exact hi
 have g:=h.2 i _ _ (jE hi) (jE hi2);obtain ⟨b1,b2⟩:=g.b hN
 have:=hs _ (List.getElem_mem hi2)
 exact ⟨g.rt,by rw [b1,b2],by omega,by omega⟩
theorem RtOk.keep {N:ZQ} {r:Ro} (h:RtOk N r):VE N (ZDj r):=(Rt.keep ⟨h,rfl⟩).1
theorem Zob {N:ZQ} (hN:GoodN N) {ros:List Ro} (h:PlanOk N ros) {y:Ed} (hy:y.text.length<=200):VE N (ZDk N ros y)/\(ZDk N ros y).bytes<=60200:=by
 unfold ZDk
 match hq:ZeO ros y.n with
 | none =>
  obtain ⟨b1,b2,b3⟩:=ZAI hN (s:=y.text) (by omega)
  exact ⟨b1,by show (Q6 y.text).bytes<=_;omega⟩
 | some r =>
  obtain ⟨h1,h2,h3,h4⟩:=h.rt r (jM (show ros[_]?=some r from hq))
  have p1:=JL (x:=y.at_) h3
  have p2:=JL (x:=y.len) (n:=r.m.b-Jc y.at_ r.m.b) (by omega)
  have:=ZQO hN (s:=y.text) h1.keep (a:=Jc y.at_ r.m.b) (n:=Jc y.len (r.m.b-Jc y.at_ r.m.b)) p1.1 p2.1 (by omega) (by omega) (by omega)
  refine ⟨ZoZ this.ve,?_⟩
  show (Tr.own _).bytes<=_
  rw [ZLp,this.bytes];omega
theorem ZrC {st:St} {la b:Nat} {N:ZQ} (hN:GoodN N) (hR:Rd st la (b+5) N) {kx lv ver:Nat} {ros:List Ro} (hg:st.get lv kx=some (.arr 5 ver (ros.map Ro.av))) (hP:PlanOk N ros) {ys:List Ed} (hyl:ys.length<65536) (hy:∀ y∈ys,y.text.length<=200) :
 S Tb Xa [.ptr la (b+5) 0 0 0,.ref lv kx ver 0 ros.length,.lit (ys.map Ed.av)] st=some (.tup [.lit ((ys.map (ZDk N ros)).map Tr.av),.bool true],st):=by
 refine Z9 rfl (fun A hA=>?_)
 have hr:=fun L=>hR.push hA (ro:=false) (L:=L)
 have gr:=fun L=>ZW hA (ro:=false) (L:=L) hg
 have hwi:∀ L,wIs 5 ver (St.get ⟨A,false,L⟩ lv kx)=true:=fun L=>by rw [gr];simp [wIs]
 have hpl:=hP.len
 repeat' (first|refine ZE ?_|refine ZD ?_|refine ZG rfl ?_|refine ZB rfl ?_|refine ZC ?_|refine ZA6 rfl ?_|refine ZP ?_)
 refine Z0 (α:=Nat × List Blk) (fun q=>[(0,.ptr la (b+5) 0 0 0),(1,.ref lv kx ver 0 ros.length),(2,.lit (ys.map Ed.av)),(8,.ref A.length 0 q.1 0 q.1),(9,.int .i64 q.1)])
  (fun q=>⟨A,false,.arr 7 q.1 (((ys.take q.1).map (ZDk N ros)).map Tr.av)::q.2⟩) (fun q=>q.1<=ys.length) (fun q=>ys.length-q.1) (0,[]) rfl rfl (Nat.zero_le _) ?_
 rintro ⟨i,G⟩ hi
 simp only at hi ⊢
 rcases Nat.lt_or_ge i ys.length with hlt|hge
 ·obtain ⟨y,hyi⟩:∃ y,ys[i]?=some y:=⟨ys[i]'(by omega),by simp [hlt]⟩
  have hy1:=hy y (jM hyi)
  have hx:0<=((i:Nat):Int)/\ys[((i:Nat):Int).toNat]?=some y:=⟨by omega,by rw [show ((i:Nat):Int).toNat=i by omega];exact hyi⟩
  have hes:(((ys.take i).map (ZDk N ros)).map Tr.av).length=i:=by simp;omega
  have hfin:∀ c,ZDk N ros y=c->((ys.take (i+1)).map (ZDk N ros)).map Tr.av=((ys.take i).map (ZDk N ros)).map Tr.av++[c.av]:=fun c hc=>by
   rw [Zq hyi,List.map_append,List.map_append,<- hc];rfl
  generalize hES:((ys.take i).map (ZDk N ros)).map Tr.av=es at *
  have e0:(⟨A,false,.arr 7 i es::G⟩:St)=⟨A,false,(.arr 7 i es::G)++[]⟩:=by rw [lN]
  rw [e0]
  by_cases hros:ros=[]
  ·have hc:=hfin (Q6 y.text) (by unfold ZDk;rw [show ZeO ros y.n=none by subst hros;rfl])
   have h0:(ros.length:Int)=0:=by rw [hros];rfl
   have hBu:=fun st=>ZgT hN y.text (by omega) st
   generalize Q6 y.text=c at *
   repeat' (first|refine ZMo rfl ?_|refine Qj rfl ?_|refine Xr rfl rfl hx (fun _=>rfl) ?_|refine XN rfl rfl rfl rfl rfl ?_|refine ZAh rfl rfl rfl (Zw _) ?_|refine ZS8 rfl rfl rfl rfl (Qq _ _ _) (Jm _ _) rfl ?_|refine ZCx rfl ?_|refine ZE ?_|refine ZD ?_|refine ZG rfl ?_|refine ZJ rfl rfl ?_|refine Zp rfl rfl ?_|refine ZB rfl ?_|refine ZC ?_|refine Qx rfl rfl ?_|(refine Zg rfl rfl (fun _=>?_) (fun _=>?_)<;>try (exfalso;omega))|(refine Zi rfl rfl (fun _=>?_) (fun _=>?_)<;>try (exfalso;omega))|(refine Ze rfl rfl (fun _=>?_) (fun _=>?_)<;>try (exfalso;omega))|refine ZS rfl ?_|refine ZF rfl ?_|refine ZA rfl rfl (by first|rfl|(simp only [lE,lN,lC,Zn,Za,ZZ];first|done|rfl)) (hBu _) ?_|refine ZH ?_|refine ZP ?_)
   all_goals try contradiction
   all_goals try (exfalso;omega)
   refine ZCq (es:=es) (ys:=[c].map Tr.av) rfl rfl rfl hes.symm (Yn _) (ZLJ _ _ _) (by rw [hes,List.length_map,List.length_singleton];omega) (by decide) ?_
   repeat' (first|refine ZD ?_|refine ZG rfl ?_|refine ZB rfl ?_|refine ZC ?_|refine Zm rfl rfl (by omega) ?_|refine Zu ?_|refine Zh ?_|refine Zc rfl ?_|refine QJ ?_)
   refine ⟨(i+1,G++[.arr 7 0 [c.av]]),⟨rfl,?_⟩,by simp only;omega,by simp only;omega⟩
   simp only [hc];rfl
  ·obtain ⟨r,hr1,hr2,hr3⟩:=Zoa (x:=y.n) hros
   have hc:=hfin (ZLM N (ZDj r) (Jc y.at_ r.m.b) (Jc y.len (r.m.b-Jc y.at_ r.m.b)) y.text).own (by unfold ZDk;rw [hr1])
   obtain ⟨h1,h2,h3,h4⟩:=hP.rt r hr2;have hl0:0<ros.length:=List.length_pos_iff.2 hros
   have pn:=JL (x:=y.n) (n:=(ros.length:Int)-1) (by omega)
   have p1:=JL (x:=y.at_) h3
   have p2:=JL (x:=y.len) (n:=r.m.b-Jc y.at_ r.m.b) (by omega)
   have hN1:=fun st=>Zgd y.n ((ros.length:Int)-1) (by omega) (by omega) st
   have hN2:=fun st=>Zgd y.at_ r.m.b (by omega) (by omega) st
   have hN3:=fun st=>Zgd y.len (r.m.b-Jc y.at_ r.m.b) (by omega) (by omega) st
   have hK:=fun L=>Zq7 (hr L) h1
   have hRe:=fun L=>ZmC hN (hr L) (s:=y.text) h1.keep (a:=Jc y.at_ r.m.b) (n:=Jc y.len (r.m.b-Jc y.at_ r.m.b)) p1.1 p2.1 (by omega) (by omega) (by omega)
   have gr2:(ros.map Ro.av)[0+(Jc y.n ((ros.length:Int)-1)).toNat]?=some r.av:=by
    rw [Nat.zero_add,jG,show ros[(Jc y.n ((ros.length:Int)-1)).toNat]?=some r from hr1];rfl
   generalize (ZLM N (ZDj r) (Jc y.at_ r.m.b) (Jc y.len (r.m.b-Jc y.at_ r.m.b)) y.text).own=c at *
   generalize ZDj r=kt at *
   repeat' (first|refine ZMo rfl ?_|refine Qj rfl ?_|refine Xr rfl rfl hx (fun _=>rfl) ?_|refine XW rfl rfl (by omega) (hwi _) ?_|refine Zz rfl (gr _) gr2 (Zk8 _) ?_|refine XN rfl rfl rfl rfl rfl ?_|refine ZAh rfl rfl rfl rfl ?_|refine ZAh rfl rfl rfl (Zw _) ?_|refine ZS8 rfl rfl rfl rfl (Qq _ _ _) (Jm _ _) rfl ?_|refine ZS8 rfl rfl rfl rfl rfl rfl rfl ?_|refine ZCx rfl ?_|refine ZE ?_|refine ZD ?_|refine ZG rfl ?_|refine ZJ rfl rfl ?_|refine Zp rfl rfl ?_|refine ZB rfl ?_|refine ZC ?_|refine Qx rfl rfl ?_|(refine Zg rfl rfl (fun _=>?_) (fun _=>?_)<;>try (exfalso;omega))|(refine Zi rfl rfl (fun _=>?_) (fun _=>?_)<;>try (exfalso;omega))|(refine Ze rfl rfl (fun _=>?_) (fun _=>?_)<;>try (exfalso;omega))|refine ZS rfl ?_|refine ZF rfl ?_|refine QS rfl rfl (by omega) ?_|refine ZA rfl rfl (by first|rfl|(simp only [lE,lN,lC,Zn,Za,ZZ];first|done|rfl)) (hN1 _) ?_|refine ZA rfl rfl (by first|rfl|(simp only [lE,lN,lC,Zn,Za,ZZ];first|done|rfl)) (hN2 _) ?_|refine Y2 rfl rfl rfl (hN3 _) ?_|refine ZA rfl rfl (by first|rfl|(simp only [lE,lN,lC,Zn,Za,ZZ];first|done|rfl)) (hK _) ?_|refine ZA rfl rfl ZrB (hRe _) ?_|refine ZH ?_|refine ZP ?_)
   all_goals try contradiction
   all_goals try (exfalso;omega)
   refine ZCq (es:=es) (ys:=[c].map Tr.av) rfl rfl rfl hes.symm (Yn _) (ZLJ _ _ _) (by rw [hes,List.length_map,List.length_singleton];omega) (by decide) ?_
   repeat' (first|refine ZD ?_|refine ZG rfl ?_|refine ZB rfl ?_|refine ZC ?_|refine Zm rfl rfl (by omega) ?_|refine Z7 ?_|refine QJ ?_)
   refine ⟨(i+1,G++[.arr 5 0 [r.av],.arr 7 0 [c.av]]),⟨rfl,?_⟩,by simp only;omega,by simp only;omega⟩
   simp only [hc];rfl
 ·obtain rfl:i=ys.length:=by omega
  rw [List.take_length]
  repeat' (first|refine ZMo rfl ?_|refine ZE ?_|refine ZD ?_|refine ZG rfl ?_|refine ZB rfl ?_|refine ZC ?_|(refine Zg rfl rfl (fun _=>?_) (fun _=>?_)<;>try (exfalso;omega))|refine ZF rfl ?_|refine ZO ?_|refine Zu ?_|refine ZL ?_|refine Zh ?_|refine Zc rfl ?_|refine Zs ?_)
  all_goals try (exfalso;omega)
  exact ZXT hA (.inr rfl) rfl rfl (by simp) (fun v hv=>by obtain ⟨x,_,rfl⟩:=List.mem_map.1 hv;exact Zjg 2 x) rfl rfl
def ZFm:Nat->List (List UInt8)->Nat
 | n,[]=>n
 | n,t::ts=>if n<=900 then ZFm (n+min t.length 1000) ts else n
def ZTn (l:List (List UInt8)):Prop:=4<l.length\/900<ZFm 0 l
instance (l:List (List UInt8)):Decidable (ZTn l):=by unfold ZTn;infer_instance
theorem ZQW:∀ (l:List (List UInt8)) (n:Nat),n<=ZFm n l
 | [],n=>by simp [ZFm]
 | t::ts,n=>by
  rw [ZFm]
  by_cases h:n<=900
  ·rw [if_pos h];have:=ZQW ts (n+min t.length 1000);omega
  ·rw [if_neg h];exact Nat.le_refl _
theorem ZeP:∀ (l:List (List UInt8)) (n:Nat),ZFm n l<=900->n+(l.map List.length).sum<=900
 | [],n,h=>by simpa [ZFm] using h
 | t::ts,n,h=>by
  rw [ZFm] at h
  by_cases hn:n<=900
  ·rw [if_pos hn] at h
   have h1:=ZQW ts (n+min t.length 1000);have h2:=ZeP ts _ h;rw [jC,List.sum_cons];omega
  ·rw [if_neg hn] at h;omega
theorem ZLq {α:Type} {l:List α} {i:Nat} {a:α} (h:l[i]?=some a):l.drop i=a::l.drop (i+1):=by
 obtain ⟨h1,h2⟩:=List.getElem?_eq_some_iff.1 h;subst h2;exact List.drop_eq_getElem_cons h1
theorem ZsO (l:List (List UInt8)) (hb:l.length<9223372036854775808) (hs:∀ s∈l,s.length<9223372036854775808) (st:St):S Tb Xx [.lit (l.map .str)] st=some (.bool (decide (ZTn l)),st):=by
 refine Z9 rfl (fun A hA=>?_)
 repeat' (first|refine ZE ?_|refine ZD ?_|refine ZG rfl ?_|refine ZB rfl ?_|refine ZC ?_|refine ZP ?_)
 refine Z0 (α:=Nat × Nat) (fun p=>[(0,.lit (l.map .str)),(3,.int .i64 p.2),(4,.int .i64 p.1)]) (fun p=>⟨A,false,[]⟩) (fun p=>p.1<=l.length/\p.2<=1900/\ZFm p.2 (l.drop p.1)=ZFm 0 l) (fun p=>l.length-p.1) (0,0) rfl rfl ⟨Nat.zero_le _,Nat.zero_le _,rfl⟩ ?_
 rintro ⟨i,n⟩ ⟨h1,h2,h3⟩
 simp only at h1 h2 h3 ⊢
 repeat' (first|refine ZE ?_|refine ZD ?_|refine ZG rfl ?_|refine Z2 rfl ?_|refine Q9 rfl rfl ?_|refine Zf rfl rfl rfl rfl ?_|refine ZB rfl ?_|refine ZC ?_|refine Qg rfl ?_|refine Qb rfl ?_|refine Qx rfl rfl ?_|refine YO rfl rfl (by omega) (fun _=>rfl) (fun _ _=>?_)|(refine Zg rfl rfl (fun _=>?_) (fun _=>?_)<;>try (exfalso;omega))|(refine ZAu rfl rfl (fun _=>?_) (fun _=>?_)<;>try (exfalso;omega))|(refine QD rfl rfl (fun _=>?_) (fun _=>?_)<;>try (exfalso;omega))|refine ZS rfl ?_|refine ZF rfl ?_|refine ZQu rfl rfl ?_|refine ZH ?_|refine ZO ?_|refine Zu ?_|refine ZP ?_|refine ZL ?_|refine Zh ?_|refine Zc rfl ?_|refine Zs ?_)
 ·rename_i hlt hn x hx
  have hx':l[i]?=some x:=by rw [show i=((i:Nat):Int).toNat by omega];exact hx
  have hxl:=hs x (jM hx')
  have e1:(if false=true then max (x.length:Int) 1000 else min (x.length:Int) 1000)=((min x.length 1000:Nat):Int):=by
   simp only [jB,if_false];omega
  rw [e1]
  refine Zm rfl rfl (by omega) ?_
  rw [show (n:Int)+((min x.length 1000:Nat):Int)=((n+min x.length 1000:Nat):Int) by omega]
  repeat' (first|refine ZD ?_|refine ZG rfl ?_|refine ZB rfl ?_|refine ZC ?_|refine Zm rfl rfl (by omega) ?_|refine Z7 ?_|refine QJ ?_)
  refine ⟨(i+1,n+min x.length 1000),⟨rfl,rfl⟩,⟨by simp only;omega,by simp only;omega,?_⟩,by simp only;omega⟩
  rw [<- h3,ZLq hx',ZFm,if_pos (by omega)]
 ·refine ZA7 hA (by first|exact .inl rfl|exact .inr rfl) rfl rfl ?_
  exact (decide_eq_true (.inl (by omega))).symm
 ·refine ZA7 hA (by first|exact .inl rfl|exact .inr rfl) rfl rfl ?_
  refine (decide_eq_true (.inr ?_)).symm
  have:=ZQW (l.drop i) n
  omega
 ·refine ZA7 hA (by first|exact .inl rfl|exact .inr rfl) rfl rfl ?_
  exact (decide_eq_true (.inl (by omega))).symm
 ·refine ZA7 hA (by first|exact .inl rfl|exact .inr rfl) rfl rfl ?_
  refine (decide_eq_true (.inr ?_)).symm
  have:=ZQW (l.drop i) n
  omega
 ·refine ZA7 hA (by first|exact .inl rfl|exact .inr rfl) rfl rfl ?_
  refine (decide_eq_false ?_).symm
  have:l.drop i=[]:=List.drop_eq_nil_of_le (by omega)
  rw [this,ZFm] at h3
  rintro (h|h)<;>omega
def Zal (l:List Ed):Prop:=(∃ s∈l.take 100,200<s.text.length)\/60<l.length
open Classical in
noncomputable instance (l:List Ed):Decidable (Zal l):=Classical.propDecidable _
theorem Zoc (l:List Ed) (hb:l.length<9223372036854775808) (hs:∀ s∈l,s.text.length<9223372036854775808) (st:St):S Tb Xy [.lit (l.map Ed.av)] st=some (.bool (decide (Zal l)),st):=by
 refine Z9 rfl (fun A hA=>?_)
 repeat' (first|refine ZE ?_|refine ZD ?_|refine ZG rfl ?_|refine ZB rfl ?_|refine ZC ?_|refine ZP ?_)
 refine Z0 (α:=Nat) (fun i=>[(0,.lit (l.map Ed.av)),(3,.int .i64 i)]) (fun p=>⟨A,false,[]⟩) (fun i=>i<=l.length/\i<=100/\∀ j s,j<i->l[j]?=some s->s.text.length<=200) (fun i=>l.length-i) 0 rfl rfl ⟨Nat.zero_le _,Nat.zero_le _,fun j s h=>by omega⟩ ?_
 rintro i ⟨h1,h2,h3⟩
 have key:∀ {j:Nat} {s:Ed},(l.length:Int)<=i\/100<=(i:Int)->s∈l.take 100->s.text.length<=200:=by
  intro j s hi hm;obtain ⟨j,hj⟩:=List.mem_iff_getElem?.1 hm;have hj1:=(List.getElem?_eq_some_iff.1 hj).1;rw [List.length_take] at hj1
  rw [List.getElem?_take,if_pos (by omega)] at hj
  exact h3 j s (by omega) hj
 repeat' (first|refine ZE ?_|refine ZD ?_|refine ZG rfl ?_|refine ZJ rfl rfl ?_|refine Z2 rfl ?_|refine Q9 rfl rfl ?_|refine Zf rfl rfl rfl rfl ?_|refine ZB rfl ?_|refine ZC ?_|refine Qg rfl ?_|refine Qb rfl ?_|refine Qx rfl rfl ?_|refine YO rfl rfl (by omega) (fun _=>rfl) (fun _ _=>?_)|(refine Zg rfl rfl (fun _=>?_) (fun _=>?_)<;>try (exfalso;omega))|(refine QD rfl rfl (fun _=>?_) (fun _=>?_)<;>try (exfalso;omega))|refine ZS rfl ?_|refine ZF rfl ?_|refine Zm rfl rfl (by omega) ?_|refine ZH ?_|refine ZO ?_|refine Zu ?_|refine ZP ?_|refine ZL ?_|refine ZU ?_|refine Zh ?_|refine Z7 ?_|refine QF ?_|refine Zc rfl ?_|refine QJ ?_|refine Y0 ?_|refine Zs ?_)
 ·rename_i hlt hn s hs' hbig
  have hs1:l[i]?=some s:=by rw [show i=((i:Nat):Int).toNat by omega];exact hs'
  refine ZA7 hA (by first|exact .inl rfl|exact .inr rfl) rfl rfl ?_
  refine (decide_eq_true (.inl ⟨s,?_,by omega⟩)).symm
  refine List.mem_iff_getElem?.2 ⟨i,?_⟩
  rw [List.getElem?_take,if_pos (by omega)];exact hs1
 ·rename_i hlt hn s hs' hbig
  have hs1:l[i]?=some s:=by rw [show i=((i:Nat):Int).toNat by omega];exact hs'
  refine ⟨i+1,⟨rfl,rfl⟩,⟨by omega,by omega,fun j s2 hj h=>?_⟩,by omega⟩
  rcases Nat.lt_or_ge j i with q|q
  ·exact h3 j s2 q h
  ·obtain rfl:j=i:=by omega
   rw [hs1] at h
   have:=Option.some.inj h
   subst this;omega
 ·refine ZA7 hA (by first|exact .inl rfl|exact .inr rfl) rfl rfl ?_
  exact (decide_eq_true (.inr (by omega))).symm
 ·refine ZA7 hA (by first|exact .inl rfl|exact .inr rfl) rfl rfl ?_
  exact (decide_eq_true (.inr (by omega))).symm
 ·refine ZA7 hA (by first|exact .inl rfl|exact .inr rfl) rfl rfl ?_
  refine (decide_eq_false ?_).symm
  rintro (⟨s,h,hh⟩|h)
  ·have:=key (j:=0) (s:=s) (.inl (by omega)) h
   omega
  ·omega
theorem Zod {l:List Ed} (h:¬ Zal l):l.length<=60/\∀ s∈l,s.text.length<=200:=by
 have h1:l.length<=60:=by
  rcases Nat.lt_or_ge 60 l.length with q|q
  ·exact absurd (.inr q) h
  ·exact q
 refine ⟨h1,fun s hs=>?_⟩
 rcases Nat.lt_or_ge 200 s.text.length with q|q
 ·refine absurd (.inl ⟨s,?_,q⟩) h
  rw [List.take_of_length_le (by omega)];exact hs
 ·exact q
theorem Zoe {l:List (List UInt8)} (h:¬ ZTn l):l.length<=4/\(l.map List.length).sum<=900:=by
 have h1:¬ 4<l.length:=fun q=>h (.inl q)
 have h2:¬ 900<ZFm 0 l:=fun q=>h (.inr q)
 have:=ZeP l 0 (by omega)
 exact ⟨by omega,by omega⟩
structure Comp (p:Mea->Int):Prop where
 zero:p .zero=0
 add:∀ x y:Mea,p (x.add y)=p x+p y
 fit:∀ (x:Mea) n,x.Fit n->0<=p x/\p x<=n
theorem comp_b:Comp Mea.b:=⟨rfl,fun _ _=>rfl,fun _ _ h=>⟨h.1,h.2⟩⟩
def QP (p:Mea->Int):List Kid->Int->Nat × Int
 | [],a=>(0,a)
 | k::l,a=>if a<p k.m then (0,a) else ((QP p l (a-p k.m)).1+1,(QP p l (a-p k.m)).2)
def Qm (p:Mea->Int) (ks:List Kid) (i:Nat):Int:=p (Z8 ((ks.take i).map Kid.m))
theorem ZLr {p:Mea->Int} (hp:Comp p) {ks:List Kid} {i:Nat} {k:Kid} (h:ks[i]?=some k):Qm p ks (i+1)=Qm p ks i+p k.m:=by
 unfold Qm;rw [Zq h,List.map_append,ZAH,hp.add]
 simp [Z8,hp.add,hp.zero]
theorem ZFn {p:Mea->Int} (hp:Comp p):∀ (ks:List Kid) (a:Int),(∀ k∈ks,k.m.Fit 65536)->0<=a->a<p (Z8 (ks.map Kid.m)) ->
 (QP p ks a).1<ks.length/\(QP p ks a).2=a-Qm p ks (QP p ks a).1/\0<=(QP p ks a).2/\∀ k,ks[(QP p ks a).1]?=some k->(QP p ks a).2<p k.m:=by
 intro ks
 induction ks with
 | nil=>intro a _ h0 h1;simp only [List.map_nil,Z8,hp.zero] at h1;omega
 | cons k l ih =>
  intro a hf h0 h1;simp only [jC,Z8,hp.add] at h1;rw [QP]
  by_cases q:a<p k.m
  ·rw [if_pos q]
   refine ⟨by simp,by simp [Qm,Z8,hp.zero],h0,fun z hz=>?_⟩
   simp at hz;subst hz;exact q
  ·rw [if_neg q]
   obtain ⟨i1,i2,i3,i4⟩:=ih (a-p k.m) (fun z hz=>hf z (List.mem_cons_of_mem _ hz)) (by omega) (by omega)
   refine ⟨by simp;omega,?_,i3,fun z hz=>i4 z (by simpa using hz)⟩
   simp only
   rw [i2]
   show _=a-p (Z8 (((k::l).take (_+1)).map Kid.m))
   rw [List.take_succ_cons,jC,Z8,hp.add];unfold Qm;omega
theorem Zjx {p:Mea->Int} {ks:List Kid} {i:Nat} {k:Kid} (h:ks[i]?=some k) (a:Int):QP p (ks.drop i) a=if a<p k.m then (0,a) else ((QP p (ks.drop (i+1)) (a-p k.m)).1+1,(QP p (ks.drop (i+1)) (a-p k.m)).2):=by
 rw [ZLq h,QP]
def ZN0 (g:FuncId) (p:Mea->Int):Prop:=∀ m st,S Tb g [Mea.av m] st=some (.int .i64 (p m),st)
theorem ZiP {g:FuncId} {p:Mea->Int} (hg:ZN0 g p) (hp:Comp p) (n:Nat) (ks:List Kid) (hx:NdOk ⟨n+1,[],some ks⟩) (a:Int) (h0:0<=a) (h1:a<p (Z8 (ks.map Kid.m))) (hb:a<=1000000) (st:St) :
 S Tb ZEW [Nd.av ⟨n+1,[],some ks⟩,.int .i64 a,.func (.func g) [] []] st=some (.tup [.int .i64 (QP p ks a).1,.int .i64 (QP p ks a).2,.int .i64 0],st):=by
 refine Z9 rfl (fun A hA=>?_)
 have hCk:=fun st=>ZQG ⟨n+1,[],some ks⟩ hx st
 have hin:(∀ k∈ks,k.m.Fit 65536)/\ks.length<=4/\n<=15:=by
  rcases hx with q|⟨m,l,q⟩
  ·have:=q.h;simp at this
  ·have e:=q.eq
   simp only [Nd.mk.injEq,true_and,oJ] at e;obtain ⟨e1,e2⟩:=e;subst e2
   have:=q.n15
   exact ⟨fun k hk=>(q.kid k hk).fit,q.hi,by omega⟩
 obtain ⟨hf,hl4,hn15⟩:=hin;obtain ⟨s1,s2,s3,s4⟩:=ZFn hp ks a hf h0 h1;simp only [Nd.av,slV] at hCk ⊢
 repeat' (first|refine ZE ?_|refine ZD ?_|refine ZG rfl ?_|refine ZJ rfl rfl ?_|refine ZV rfl rfl rfl rfl ?_|refine ZB rfl ?_|refine ZC ?_|refine Qb rfl ?_|(refine Zg rfl rfl (fun _=>?_) (fun _=>?_)<;>try (exfalso;omega))|(refine Zi rfl rfl (fun _=>?_) (fun _=>?_)<;>try (exfalso;omega))|(refine Ze rfl rfl (fun _=>?_) (fun _=>?_)<;>try (exfalso;omega))|refine ZF rfl ?_|refine Zk rfl rfl rfl ?_|refine ZA rfl rfl rfl (hCk _) ?_|refine ZH ?_|refine ZP ?_)
 all_goals try contradiction
 all_goals try (exfalso;omega)
 refine Z0 (α:=Nat × Int × List Blk) (fun q=>[(1,.int .i64 q.2.1),(2,.func (.func g) [] []),(23,.lit (ks.map Kid.av)),(24,.int .i64 ks.length),(25,.int .i64 q.1)])
  (fun q=>⟨A,false,.arr 3 0 [.agg [.int .i64 ((n+1:Nat):Int),.str [],.lit (ks.map Kid.av)]]::q.2.2⟩) (fun q=>q.1<=ks.length/\0<=q.2.1/\q.2.1<=a/\q.1<=(QP p ks a).1/\QP p ks a=((QP p (ks.drop q.1) q.2.1).1+q.1,(QP p (ks.drop q.1) q.2.1).2)) (fun q=>ks.length-q.1) (0,a,[]) rfl rfl ⟨Nat.zero_le _,h0,Int.le_refl _,Nat.zero_le _,rfl⟩ ?_
 rintro ⟨i,b,G⟩ ⟨hi,hb0,hba,hle,he⟩
 simp only at hi hb0 hba hle he ⊢
 rcases Nat.lt_or_ge i ks.length with hlt|hge
 ·obtain ⟨k,hk⟩:∃ k,ks[i]?=some k:=⟨ks[i]'hlt,jE _⟩
  have q:0<=((i:Nat):Int)/\ks[((i:Nat):Int).toNat]?=some k:=⟨by omega,by rw [show ((i:Nat):Int).toNat=i by omega];exact hk⟩
  have hgm:=fun st=>hg k.m st
  obtain ⟨f1,f2⟩:=hp.fit k.m _ (hf k (jM hk));have hd:=Zjx (p:=p) hk b;obtain ⟨ka,km⟩:=k
  simp only at hgm f1 f2 hd
  unfold Mea.av at hgm
  generalize hpm:p km=z at *
  simp only [Kid.av] at *
  rcases Int.lt_or_le b z with hz|hz
  ·rw [if_pos hz] at hd
   rw [hd] at he;rw [he]
   have e1:(((0+i:Nat)):Int)=i:=by omega
   simp only [e1]
   repeat' (first|refine Xr (f:=Kid.av) rfl rfl q (fun _=>rfl) ?_|refine ZE ?_|refine ZD ?_|refine ZG rfl ?_|refine ZJ rfl rfl ?_|refine ZB rfl ?_|refine ZC ?_|refine Qf rfl rfl rfl ?_|refine Qx rfl rfl ?_|(refine Zg rfl rfl (fun _=>?_) (fun _=>?_)<;>try (exfalso;omega))|refine ZS rfl ?_|refine Zy rfl rfl rfl ?_|refine JE rfl rfl rfl rfl rfl rfl ?_|refine ZA rfl rfl rfl (hgm _) ?_|refine ZH ?_|refine ZO ?_|refine ZP ?_|refine ZL ?_|refine ZU ?_|refine QF ?_|refine Y0 ?_)
   all_goals try contradiction
   all_goals try (exfalso;omega)
   refine ZX hA (by first|exact .inl rfl|exact .inr rfl) rfl rfl rfl rfl ?_
   rfl
  ·rw [if_neg (by omega)] at hd
   repeat' (first|refine Xr (f:=Kid.av) rfl rfl q (fun _=>rfl) ?_|refine ZE ?_|refine ZD ?_|refine ZG rfl ?_|refine ZJ rfl rfl ?_|refine ZB rfl ?_|refine ZC ?_|refine Qf rfl rfl rfl ?_|refine Qx rfl rfl ?_|(refine Zg rfl rfl (fun _=>?_) (fun _=>?_)<;>try (exfalso;omega))|refine ZS rfl ?_|refine ZF rfl ?_|refine Zm rfl rfl (by omega) ?_|refine QS rfl rfl (by omega) ?_|refine Zy rfl rfl rfl ?_|refine JE rfl rfl rfl rfl rfl rfl ?_|refine ZA rfl rfl rfl (hgm _) ?_|refine ZH ?_|refine ZP ?_|refine Z7 ?_|refine QJ ?_)
   all_goals try contradiction
   all_goals try (exfalso;omega)
   refine ⟨(i+1,b-z,G++[.arr 4 0 [Kid.av ⟨ka,km⟩]]),⟨rfl,rfl⟩,⟨by simp only;omega,by simp only;omega,by simp only;omega,?_,?_⟩,by simp only;omega⟩
   ·simp only;rw [he,hd];simp only;omega
   ·simp only;rw [he,hd];simp only;congr 1;omega
 ·exfalso
  omega
noncomputable def exR:AR:=(wrV (Q6 exS) (JP 8 4)).1
def exRo:Ro:=⟨65538,1,⟨17,17,0⟩⟩
theorem Zro:(wrV (Q6 exS) (JP 8 4)).2.1=exRo:=by
 rw [ZiE];rfl
theorem Zrp:nw (Q6 exS)=3:=by rw [ZiE];rfl
theorem Zs9:AROk exR/\GoodN exR.nodes/\Rt exR.nodes exRo exS:=by
 obtain ⟨b1,b2,b3⟩:=ZAI ZQP (s:=exS) (by decide)
 have ho:=Zai 8 4 (by omega) (by omega)
 obtain ⟨w1,w2⟩:=Zk6 (r:=JP 8 4) (ZHz [] [] [] _) ho ZQP b1 (by rw [b3];decide) (by rw [Zrp];decide)
 rw [show (JP 8 4).nodes=[] from rfl,b2,Zro] at w2
 exact ⟨w1.ok,w1.good,w2⟩
theorem ZtA (a b c d f x y z u v:Int):eqV [(0,0),(1,0),(2,0),(3,0),(4,0)] 0 (.agg [.int .u64 a,.int .i64 b,.int .i64 c,.int .i64 d,.int .i64 f]) (.agg [.int .u64 x,.int .i64 y,.int .i64 z,.int .i64 u,.int .i64 v])=some (decide (a=x/\b=y/\c=z/\d=u/\f=v)):=by
 show (if decide (a=x)=true then (if decide (b=y)=true then (if decide (c=z)=true then (if decide (d=u)=true then (if decide (f=v)=true then some true else some false) else some false) else some false) else some false) else some false)=_
 by_cases h1:a=x<;>by_cases h2:b=y<;>by_cases h3:c=z<;>by_cases h4:d=u<;>by_cases h5:f=v<;>simp [h1,h2,h3,h4,h5]
theorem ZDl {st:St} {la b:Nat} {N:ZQ} (hR:Rd st la (b+5) N) {r:Ro} (hr:RtOk N r):S Tb ZCX [.ptr la (b+5) 0 0 0,r.av] st=some (.int .i64 0,st):=by
 refine Z9 rfl (fun A hA=>?_)
 rcases hr with rfl|⟨h0,x,h1,h2,h3,h4⟩
 ·repeat' (first|refine ZE ?_|refine ZD ?_|refine ZG rfl ?_|refine ZV rfl rfl rfl rfl ?_|refine ZB rfl ?_|refine ZC ?_|refine ZS rfl ?_|refine ZF rfl ?_|refine Zt rfl rfl rfl ?_|refine Q5 rfl rfl rfl rfl ?_|refine Zk rfl rfl rfl ?_|refine ZH ?_|refine ZO ?_|refine ZL ?_|refine ZU ?_)
  all_goals try contradiction
  all_goals refine ZX hA (by first|exact .inl rfl|exact .inr rfl) rfl rfl rfl rfl ?_
  all_goals rfl
 ·have hG:=fun L=>ZTi (hR.push hA (ro:=false) (L:=L)) h1 h2.len
  have hok:NdOk x.copy:=by
   rcases h2 with q|⟨n,ks,q⟩
   ·left;exact ⟨q.h,q.lo,q.hi,q.ks⟩
   ·right;have e:=q.eq;subst e;exact ⟨n,ks,q⟩
  have hMe:=fun st=>ZHr x.copy hok st
  have hm:x.copy.mea=x.mea:=rfl;have hh:x.copy.h=x.h:=rfl;rw [hm,h4] at hMe
  have h0i:((r.at_:Nat):Int)≠0:=by omega
  have hne:¬ ((r.at_:Int)=0/\(r.h:Int)=0/\r.m.b=0/\r.m.r=0/\r.m.l=0):=fun q=>h0i q.1
  obtain ⟨ra,rh,rm⟩:=r
  simp only at h0 h1 h3 h4 hMe h0i hne
  have hcp:x.copy.av=.agg [.int .i64 x.h,.str x.text,.lit (x.ks.map Kid.av)]:=rfl;rw [hcp] at hG hMe
  generalize x.ks=yk at *
  obtain rfl:x.h=rh:=h3
  unfold Ro.av Mea.av at *
  simp only at *
  repeat' (first|refine ZE ?_|refine ZD ?_|refine ZG rfl ?_|refine ZJ rfl rfl ?_|refine ZV rfl rfl rfl rfl ?_|refine Z2 rfl ?_|refine Zf rfl rfl rfl rfl ?_|refine Zp rfl rfl ?_|refine ZB rfl ?_|refine ZC ?_|(refine Zi rfl rfl (fun _=>?_) (fun _=>?_)<;>try (exfalso;omega))|(refine Ze rfl rfl (fun _=>?_) (fun _=>?_)<;>try (exfalso;omega))|refine ZS rfl ?_|refine ZF rfl ?_|refine Zt rfl rfl rfl ?_|refine Q5 rfl rfl rfl rfl ?_|refine Zk rfl rfl rfl ?_|refine QE rfl rfl rfl rfl rfl rfl ?_|refine ZA rfl rfl rfl (hG _) ?_|refine ZA rfl rfl rfl (hMe _) ?_|(refine ZEB rfl rfl (Zn7 _ _ _ _ _ _) (fun _=>?_) (fun _=>?_))|(refine ZEB rfl rfl (ZtA _ _ _ _ _ _ _ _ _ _) (fun _=>?_) (fun _=>?_))|refine ZH ?_|refine ZO ?_|refine ZL ?_|refine ZU ?_)
  all_goals try contradiction
  all_goals try (exfalso;omega)
  all_goals first|exact absurd ‹_› hne|(refine ZX hA (by first|exact .inl rfl|exact .inr rfl) rfl rfl rfl rfl ?_;rfl)|exact absurd (And.intro rfl (And.intro rfl rfl)) ‹_›
theorem ZmP:ZN0 ZDI Mea.b:=fun m st=>by
 refine Z9 rfl (fun A hA=>?_)
 unfold Mea.av
 repeat' (first|refine ZE ?_|refine ZD ?_|refine ZG rfl ?_|refine ZJ rfl rfl ?_|refine ZV rfl rfl rfl rfl ?_|refine ZB rfl ?_|refine ZC ?_|refine Zk rfl rfl rfl ?_|refine ZO ?_|refine ZL ?_)
 refine ZX hA (by first|exact .inl rfl|exact .inr rfl) rfl rfl rfl rfl ?_
 rfl
theorem ZrD (n:Nat) (ks:List Kid) (hx:NdOk ⟨n+1,[],some ks⟩) (a:Int) (h0:0<=a) (h1:a<(Z8 (ks.map Kid.m)).b) (hb:a<=1000000) (st:St) :
 S Tb ZCY [Nd.av ⟨n+1,[],some ks⟩,.int .i64 a] st=some (.tup [.int .i64 (QP Mea.b ks a).1,.int .i64 (QP Mea.b ks a).2,.int .i64 0],st):=by
 refine Z9 rfl (fun A hA=>?_)
 have hC:=fun st=>ZiP ZmP comp_b n ks hx a h0 h1 hb st
 unfold Nd.av at *
 simp only [slV] at *
 repeat' (first|refine ZE ?_|refine ZD ?_|refine ZG rfl ?_|refine ZV rfl rfl rfl rfl ?_|refine Zp rfl rfl ?_|refine ZB rfl ?_|refine ZC ?_|refine Zk rfl rfl rfl ?_|refine ZA rfl rfl rfl (hC _) ?_|refine ZO ?_|refine ZL ?_)
 refine ZX hA (by first|exact .inl rfl|exact .inr rfl) rfl rfl rfl rfl ?_
 rfl
structure Pass (σ:Int->St) (q:Mea->Int) (g:FuncId) (caps:List AV) (N:Nat):Prop where
 comp:Comp q
 len:∀ s,(σ s).ps.length=N
 call:∀ s m L,0<=s->s<=1000000000->m.Fit 65536->∃ v,S Tb g ([Mea.av m]++caps) ⟨(σ s).ps,false,L⟩=some (v,⟨(σ (s+q m)).ps,false,L⟩)
 wk:∀ m,ZZ (Zn ([]++[Mea.av m]++caps))=some ([Mea.av m]++caps)
theorem ZrE {O:Orc} {k:List Fr} {Q:JV} {e:Env} {st:St} {keep:List Nat} {is:List QAbs.PI} {d:Nat} {x b:Opd} {ks:List Kid} {i:Nat} (hx:Zj e x=some (.lit (ks.map Kid.av))) (hb:Zj e b=some (.int .i64 i)) (hi:i<=ks.length)
 (h:Is O is keep k Q ((d,.lit ((ks.take i).map Kid.av))::e) st):Is O (⟨some d,none,false,.slc 4 x none (some b)⟩::is) keep k Q e st:=by
 refine ZC9 hx hb ⟨by omega,by simp;omega⟩ (ZeC _) ?_
 rw [show ((i:Nat):Int).toNat=i by omega,<- List.map_take]
 exact h
theorem ZmQ {σ:Int->St} {q:Mea->Int} {g:FuncId} {caps:List AV} {N:Nat} (hp:Pass σ q g caps N) {ks:List Kid} {L:List Blk} {v0 v3 v10 v12 v14 v16 v17:AV} (s0:Int) {A0:List (Bool × List Blk)} (hA0:A0=(σ s0).ps) {k:List Fr} {Q:JV}
 (hQ:∀ G,Rk (S Tb) k Q .norm [(0,v0),(3,v3),(4,.func (.func g) [] caps),(10,v10),(12,v12),(14,v14),(16,v16),(17,v17),(63,.lit (ks.map Kid.av)),(64,.int .i64 ks.length),(65,.int .i64 ks.length),(66,.bool false)] ⟨(σ (s0+q (Z8 (ks.map Kid.m)))).ps,false,L++G⟩) (hl:ks.length<100) (hs0:0<=s0/\s0<=900000000) (hfit:∀ k∈ks,k.m.Fit 65536) :
 Ru (S Tb) p_seek_walk_18.loop (.blk 2::k) Q [(0,v0),(3,v3),(4,.func (.func g) [] caps),(10,v10),(12,v12),(14,v14),(16,v16),(17,v17),(63,.lit (ks.map Kid.av)),(64,.int .i64 ks.length),(65,.int .i64 0)] ⟨A0,false,L⟩:=by
 subst hA0
 refine Z0 (α:=Nat × List Blk) (fun p=>[(0,v0),(3,v3),(4,.func (.func g) [] caps),(10,v10),(12,v12),(14,v14),(16,v16),(17,v17),(63,.lit (ks.map Kid.av)),(64,.int .i64 ks.length),(65,.int .i64 p.1)])
  (fun p=>⟨(σ (s0+Qm q ks p.1)).ps,false,L++p.2⟩) (fun p=>p.1<=ks.length) (fun p=>ks.length-p.1) (0,[]) rfl (by simp [Qm,Z8,hp.comp.zero]) (Nat.zero_le _) ?_
 rintro ⟨i,G⟩ hi
 simp only at hi ⊢
 rcases Nat.lt_or_ge i ks.length with hlt|hge
 ·obtain ⟨kd,hk⟩:∃ k,ks[i]?=some k:=⟨ks[i]'hlt,jE _⟩
  have qk:0<=((i:Nat):Int)/\ks[((i:Nat):Int).toNat]?=some kd:=⟨by omega,by rw [show ((i:Nat):Int).toNat=i by omega];exact hk⟩
  have hsu:=ZLr hp.comp hk
  have hsf:=hp.comp.fit _ _ (ZDe (l:=(ks.take i).map Kid.m) (fun m hm=>by obtain ⟨z,hz,rfl⟩:=List.mem_map.1 hm;exact hfit z (List.mem_of_mem_take hz)))
  rw [List.length_map,List.length_take,Nat.min_eq_left hi] at hsf
  change 0<=Qm q ks i/\Qm q ks i<=_ at hsf
  obtain ⟨v,hc⟩:=hp.call (s0+Qm q ks i) kd.m (L++G++[.arr 4 0 [kd.av]]) (by omega) (by omega) (hfit kd (jM hk))
  have hwk:=hp.wk kd.m
  have hG:L++G++[.arr 4 0 [kd.av]]=L++(G++[.arr 4 0 [kd.av]]):=List.append_assoc ..
  rw [show s0+Qm q ks i+q kd.m=s0+Qm q ks (i+1) by omega] at hc
  generalize hG3:L++(G++[.arr 4 0 [kd.av]])=L3 at *
  generalize hA1:(σ (s0+Qm q ks i)).ps=A1 at *
  obtain ⟨ka,km⟩:=kd
  unfold Kid.av Mea.av at *
  simp only at *
  repeat' (first|refine Xr (f:=Kid.av) rfl rfl qk (fun _=>rfl) ?_|refine ZA rfl rfl hwk hc ?_|refine ZE ?_|refine ZD ?_|refine ZG rfl ?_|refine ZJ rfl rfl ?_|refine ZB rfl ?_|refine ZC ?_|refine Qf rfl rfl rfl ?_|refine Qx rfl rfl ?_|(refine Zg rfl rfl (fun _=>?_) (fun _=>?_)<;>try (exfalso;omega))|refine ZS rfl ?_|refine Zm rfl rfl (by omega) ?_|refine Zy rfl rfl rfl ?_|refine JE rfl rfl rfl rfl rfl rfl ?_|refine ZH ?_|refine ZP ?_|refine Z7 ?_|refine QJ ?_)
  all_goals try contradiction
  all_goals try (exfalso;omega)
  refine ⟨(i+1,G++[.arr 4 0 [Kid.av ⟨ka,km⟩]]),⟨rfl,?_⟩,by simp only;omega,by simp only;omega⟩
  simp only
  rw [<- hG3] at hG;exact congrArg (St.mk _ false) hG
 ·obtain rfl:i=ks.length:=by omega
  repeat' (first|refine ZE ?_|refine ZD ?_|refine ZB rfl ?_|refine ZC ?_|(refine Zg rfl rfl (fun _=>?_) (fun _=>?_)<;>try (exfalso;omega))|refine ZF rfl ?_|refine Zu ?_|refine Zh ?_|refine Zc rfl ?_|refine Zs ?_)
  all_goals try (exfalso;omega)
  unfold Qm;rw [List.take_length];exact hQ G
theorem ZmR {O:Orc} {k:List Fr} {Q:JV} {e:Env} {st:St} {keep:List Nat} {is:List QAbs.PI} {d:Nat} {α:Type} {f:α->AV} {l:List α} {w:Nat} {x i:Opd} {bs:List Opd} {n:Int} {a:α} (hx:Zj e x=some (.lit (l.map f))) (hi:Zj e i=some (.int .i64 n)) (ha:0<=n/\l[n.toNat]?=some a) (hw:(f a).wide=some w)
 (h:Is O is keep k Q ((d,.lptr (f a) 0)::e) st):Is O (⟨some d,none,false,.w (.hide bs) (.ixS w x i)⟩::is) keep k Q e st:=by
 have hlt:=(List.getElem?_eq_some_iff.1 ha.2).1
 have hn:0<=n/\n<((l.map f).length:Nat):=by rw [List.length_map];omega
 have hv:(l.map f)[n.toNat]?=some (f a):=by rw [jG,ha.2];rfl
 exact Zhx (st':=st) (by simp only [QI,PO.reads,if_true,evalPO,ZI hx,ZI hi,ixSV,Xk,if_pos hn,hv,if_pos hw,oS,Ql,Qa]) h
theorem Zjy {O:Orc} {k:List Fr} {Q:JV} {e:Env} {st:St} {keep:List Nat} {is:List QAbs.PI} {d:Nat} {n:Nat} {a:Opd} {bs:List Opd} {x:AV} {o:Nat} {v:AV} {agg:Bool} (ha:Zj e a=some (.lptr x o)) (hv:Jq x agg o n=some v) (h:Is O is keep k Q ((d,v)::e) st):Is O (⟨some d,none,false,.w (.hide bs) (.ld agg n a)⟩::is) keep k Q e st :=
 Zhx (st':=st) (by simp only [QI,PO.reads,if_true,evalPO,ZI ha,loadP,hv,oS,Ql,Qa]) h
def Zjz (M:Nat) (G:List Blk) (pv:AV) (path:List Nat):Prop:=(path=[]/\pv=.nils)\/∃ j ver,pv=.ref M (j+3) ver 0 path.length/\G[j]?=some (.arr 1 ver (path.map XP))
theorem ZmS {A:List (Bool × List Blk)} {b0 b1 box:Blk} {s:List UInt8} {z:Int} {pv v0 v3 v4 v10 v14 v15 v31:AV} {path:List Nat} {o:Nat} {G:List Blk} {k:List Fr} {Q:JV} (hP:Zjz A.length G pv path) (hl:path.length<100)
 (h:∀ G' pv',Zjz A.length G' pv' (path++[o])->G'[G.length]?=some box->Rk (S Tb) k Q .norm [(0,v0),(3,v3),(4,v4),(10,v10),(12,.ptr A.length 2 0 0 0),(14,v14)] ⟨A,false,b0::b1::.arr 3 0 [.agg [.str s,.int .i64 z,pv']]::G'⟩) :
 Ru (S Tb) ZMd k Q [(0,v0),(3,v3),(4,v4),(10,v10),(12,.ptr A.length 2 0 0 0),(13,.int .u64 o),(14,v14),(15,v15),(31,v31)] ⟨A,false,b0::b1::.arr 3 0 [.agg [.str s,.int .i64 z,pv]]::(G++[box])⟩:=by
 rcases hP with ⟨rfl,rfl⟩|⟨j,ver,rfl,hg⟩
 ·repeat' (first|refine ZD ?_|refine ZG rfl ?_|refine ZJ rfl rfl ?_|refine ZV rfl rfl rfl rfl ?_|refine JJ rfl rfl rfl rfl ?_)
  refine ZDh (vx:=.lit [.int .u64 o]) (ys:=[.int .u64 o]) (bytes:=8) rfl rfl rfl (by simp) (by decide) rfl ?_
  repeat' (first|refine ZJ rfl rfl ?_|refine ZB rfl ?_|refine JD rfl rfl rfl rfl (JN _ (Nat.lt_succ_self _)) rfl ?_)
  refine h (G++[box]++[.arr 1 0 [.int .u64 o]]) _ (.inr ⟨(G++[box]).length,0,?_,List.getElem?_concat_length ..⟩) ?_
  ·rfl
  ·rw [jL (by simp)];exact List.getElem?_concat_length ..
 ·have hj:=(List.getElem?_eq_some_iff.1 hg).1
  have hg2:(b0::b1::Blk.arr 3 0 [.agg [.str s,.int .i64 z,.ref A.length (j+3) ver 0 path.length]]::(G++[box]))[j+3]?=some (.arr 1 ver (path.map XP)):=by
   show (G++[box])[j]?=_
   rw [jL hj];exact hg
  repeat' (first|refine ZD ?_|refine ZG rfl ?_|refine ZJ rfl rfl ?_|refine ZV rfl rfl rfl rfl ?_|refine JJ rfl rfl rfl rfl ?_)
  refine ZCq (es:=path.map XP) (ys:=[.int .u64 o]) rfl rfl hg2 (by rw [List.length_map]) rfl rfl (by simp;omega) (by decide) ?_
  repeat' (first|refine ZJ rfl rfl ?_|refine ZB rfl ?_|refine JD rfl rfl rfl rfl (JN _ (Nat.lt_succ_self _)) rfl ?_)
  refine h ((G++[box]).set j (.arr 1 (ver+1) (path.map XP++[.int .u64 o]))) (.ref A.length (j+3) (ver+1) 0 (path.length+1)) (.inr ⟨j,ver+1,by simp,?_⟩) ?_
  ·rw [List.getElem?_set_self (by simp;omega),List.map_append];rfl
  ·rw [jS (by omega)];exact List.getElem?_concat_length ..
theorem Zof {b lv ix ver q n:Nat} {z:Int} {s:List UInt8} (st:St) (hl:lv<b):Zd Qd b st (.agg [.str s,.int .i64 z,.ref lv ix ver q n])=some (.agg [.str s,.int .i64 z,.ref lv ix ver q n],st):=by
 show (mapSt (keepN (Zd 5 b)) _ _).bind ZLt=_
 simp only [mapSt,keepN,Xs,jB,if_false,Zd,oS,if_pos hl,XQ,ZLt]
theorem ZrF {A:List (Bool × List Blk)} {L:List Blk} {ix ver n:Nat} {s:List UInt8} {z z2:Int} {l:List Nat} (hg:L[ix]?=some (.arr 1 ver (l.map XP))) (hn:n=l.length) :
 Zd Qd A.length ⟨A,false,L⟩ (.tup [.agg [.str s,.int .i64 z,.ref A.length ix ver 0 n],.int .i64 z2])=some (.tup [.agg [.str s,.int .i64 z,.lit (l.map XP)],.int .i64 z2],⟨A,false,L.set ix .dead⟩):=by
 subst hn
 have h1:=ZLc (n:=3) (A:=A) (s:=0) (m:=l.length) hg (by simp) (es':=l.map XP) (by
  rw [List.drop_zero,List.take_of_length_le (by simp)]
  exact ZTB (k:=.u64) (fun n:Nat=>(n:Int)) 2 0 _ l)
 show (mapSt (Zd 5 A.length) _ _).bind ZeY=_
 have h2:Zd 5 A.length ⟨A,false,L⟩ (.agg [.str s,.int .i64 z,.ref A.length ix ver 0 l.length])=some (.agg [.str s,.int .i64 z,.lit (l.map XP)],⟨A,false,L.set ix .dead⟩):=by
  show (mapSt (keepN (Zd 4 A.length)) _ _).bind ZLt=_
  simp only [mapSt,keepN,Xs,jB,if_false,oS];simp only [Zd,oS] at h1 ⊢;simp only [h1,oS,XQ,ZLt]
 simp only [mapSt,h2,oS];rfl
theorem ZsP {e:Env} {A:List (Bool × List Blk)} {st:St} {L:List Blk} {x:Ex} {c4 c5 j4 w4 v4 ix ver n:Nat} {s:List UInt8} {z z2:Int} {l:List Nat} (hA:A=st.A++[(st.ro,st.L)]) (hx:x=.norm\/x=.ret) (h4:J4 e c4=some (.ptr A.length j4 v4 0 0)) (hg4:L[j4]?=some (.arr w4 v4 [.agg [.str s,.int .i64 z,.ref A.length ix ver 0 n]]))
 (hg:L[ix]?=some (.arr 1 ver (l.map XP))) (hn:n=l.length) (h5:J4 e c5=some (.int .i64 z2)):YI false [.c c4 true 3,.s c5] (x,e,⟨A,false,L⟩)=some (.tup [.agg [.str s,.int .i64 z,.lit (l.map XP)],.int .i64 z2],st):=by
 refine ZEV (v:=.tup [.agg [.str s,.int .i64 z,.ref A.length ix ver 0 n],.int .i64 z2]) hA hx ?_ (ZrF hg hn) rfl
 have h1:ZBY ⟨A,false,L⟩ e (.c c4 true 3)=some (.agg [.str s,.int .i64 z,.ref A.length ix ver 0 n]):=by
  simp only [ZBY,QV h4,loadP,St.get_cur,hg4,vis,ZH2,if_true,List.getElem?_cons_zero,oS];rfl
 simp only [Q3,ZET,h1,oS];simp only [ZBY,QV h5,oS,Option.map_some,ZH4]
end Go.Q15
namespace Go.QAbs
section
variable {O:Orc} {k:List Fr} {Q:JV} {e:Env} {A:List (Bool × List Blk)} {L:List Blk} {keep:List Nat} {is:List PI} {d:Nat} {st:St}
theorem Zog {a x b:Opd} {n lv ix v1 i1 o1 v2 i2 o2:Nat} {vx:AV} (ha:Zj e a=some (.ptr lv ix v1 i1 o1)) (hb:Zj e b=some (.ptr lv ix v2 i2 o2)) (hx:Zj e x=some vx) (hi:imm 6 vx=true)
 (h:Is O (⟨none,none,false,.st n a x⟩::is) keep k Q e st):Is O (⟨none,none,false,.w (.plain b) (.st n a x)⟩::is) keep k Q e st:=by
 refine Zk0 ?_ h
 have hs:ZFs (.ptr lv ix v1 i1 o1) (.ptr lv ix v2 i2 o2)=true:=by simp [ZFs]
 simp only [Zl,QI,ZMr,ZI ha,ZI hb,ZI hx,hs,hi,and_self,if_true]
end
end Go.QAbs
namespace Go.Q15
open Go Go.QAbs
set_option maxRecDepth 100000
set_option maxHeartbeats 8000000
structure NextOk (f:FuncId) (ch:List Kid->Int->Nat × Int) (D:Mea->Int->Prop):Prop where
 call:∀ n ks,NdOk ⟨n+1,[],some ks⟩->∀ a,D (Z8 (ks.map Kid.m)) a->∀ st,S Tb f [Nd.av ⟨n+1,[],some ks⟩,.int .i64 a] st=some (.tup [.int .i64 (ch ks a).1,.int .i64 (ch ks a).2,.int .i64 0],st)
 ok:∀ ks a,(∀ k∈ks,k.m.Fit 65536)->D (Z8 (ks.map Kid.m)) a->(ch ks a).1<ks.length/\∀ k,ks[(ch ks a).1]?=some k->D k.m (ch ks a).2
theorem ZiQ:NextOk ZCY (QP Mea.b) (fun m a=>0<=a/\a<m.b/\m.b<=1000000) where
 call n ks hx a ha st:=ZrD n ks hx a ha.1 ha.2.1 (by omega) st
 ok ks a hf ha:=by
  obtain ⟨h1,h2,h3,h4⟩:=ZFn comp_b ks a hf ha.1 ha.2.1
  exact ⟨h1,fun k hk=>⟨h3,h4 k hk,by have:=(hf k (jM hk)).2;omega⟩⟩
def JM (ch:List Kid->Int->Nat × Int) (q:Mea->Int) (N:ZQ):Nat->Nat->Int->(List UInt8 × Int) × List Nat × Int
 | 0,o,a=>(((QQ N o).text,a),[o],0)
 | n+1,o,a =>
  let c:=ch (QQ N o).ks a
  let r:=JM ch q N n (((QQ N o).ks[c.1]?.map Kid.at_).getD 0) c.2
  (r.1,o::r.2.1,Qm q (QQ N o).ks c.1+r.2.2)
structure WkS where
 n:Nat
 o:Nat
 a:Int
 s:Int
 path:List Nat
 pv:AV
 G:List Blk
structure WkInv (N:ZQ) (D:Mea->Int->Prop) (M:Nat) (p:WkS) (ch:List Kid->Int->Nat × Int) (q:Mea->Int) (s0:Int) (R:(List UInt8 × Int) × List Nat × Int):Prop where
 nd:∃ x,lk N p.o=some x/\NdOk x/\x.h=p.n/\D x.mea p.a
 path:Zjz M p.G p.pv p.path
 len:p.path.length+p.n<100
 sb:0<=p.s/\p.s<=1000+300000*p.path.length
 res:R=((JM ch q N p.n p.o p.a).1,p.path++(JM ch q N p.n p.o p.a).2.1,p.s-s0+(JM ch q N p.n p.o p.a).2.2)
theorem Zan {σ:Int->St} {q:Mea->Int} {g f:FuncId} {caps:List AV} {M:Nat} (hp:Pass σ q g caps M) {ch:List Kid->Int->Nat × Int} {D:Mea->Int->Prop} (hf:NextOk f ch D) {N:ZQ} (hN:GoodN N) {la b:Nat} (hR:∀ s,Rd (σ s) la (b+5) N) {r:Ro} (hr:RtOk N r) (h0:r.at_≠0) (a:Int) (ha:D r.m a) (s0:Int) (hs0:0<=s0/\s0<=1000) :
 S Tb ZJs [.ptr la (b+5) 0 0 0,r.av,.int .i64 a,.func (.func f) [] [],.func (.func g) [] caps] (σ s0)=some (.tup [.agg [.str (JM ch q N r.h r.at_ a).1.1,.int .i64 (JM ch q N r.h r.at_ a).1.2,.lit ((JM ch q N r.h r.at_ a).2.1.map XP)],.int .i64 0],σ (s0+(JM ch q N r.h r.at_ a).2.2)):=by
 refine Yo rfl (fun A hA=>?_)
 obtain ⟨x0,x1,x2,x3,x4⟩:∃ x,lk N r.at_=some x/\NdOk x/\x.h=r.h/\x.mea=r.m:=by
  rcases hr with rfl|w
  ·exact absurd rfl h0
  ·exact w.2
 have h13:=hr.h13 hN;have hM:=hp.len s0;obtain ⟨R,hRes⟩:∃ R,R=JM ch q N r.h r.at_ a:=⟨_,rfl⟩;rw [<- hRes];have hA':A=(σ s0).ps:=hA
 have hAM:A.length=M:=by rw [hA'];exact hM
 unfold Ro.av
 repeat' (first|refine Zy rfl rfl rfl ?_|refine ZE ?_|refine ZD ?_|refine ZG rfl ?_|refine ZJ rfl rfl ?_|refine ZV rfl rfl rfl rfl ?_|refine ZB rfl ?_|refine ZC ?_|refine Zt rfl rfl rfl ?_|refine JE rfl rfl rfl rfl rfl rfl ?_|refine ZP ?_)
 rw [hAM,hA']
 refine Z0 (α:=WkS) (fun p=>[(0,.ptr la (b+5) 0 0 0),(3,.func (.func f) [] []),(4,.func (.func g) [] caps),(10,.ptr M 1 0 0 0),(12,.ptr M 2 0 0 0),(13,.int .u64 p.o)])
  (fun p=>⟨(σ p.s).ps,false,.arr 5 0 [r.av]::.arr 3 0 [.agg [.str [],.int .i64 0,.nils]]::.arr 3 0 [.agg [.str [],.int .i64 p.a,p.pv]]::p.G⟩)
  (fun p=>WkInv N D M p ch q s0 R) (fun p=>p.n) ⟨r.h,r.at_,a,s0,[],.nils,[]⟩ rfl rfl ⟨⟨x0,x1,x2,x3,by rw [x4];exact ha⟩,.inl ⟨rfl,rfl⟩,by simp only [List.length_nil];omega,by simp only [List.length_nil];omega,by rw [hRes];simp⟩ ?_
 rintro ⟨n,o,a,s,path,pv,G⟩ hI
 obtain ⟨⟨x,y1,y2,y3,y4⟩,hPa,hln,hsb,hres⟩:=hI
 simp only at y1 y3 y4 hPa hln hsb hres ⊢
 have hG:=fun L=>ZTi ((hR s).push rfl (ro:=false) (L:=L)) y1 y2.len
 have hcp:x.copy.av=.agg [.int .i64 x.h,.str x.text,.lit (x.ks.map Kid.av)]:=rfl;rw [hcp,y3] at hG;have hlA:=hp.len s;obtain ⟨A1,hA1⟩:∃ A1,A1=(σ s).ps:=⟨_,rfl⟩
 have e1:M=A1.length:=by rw [hA1];exact hlA.symm
 have hpl:=fun s'=>hp.len s'
 simp only [show (σ s).A++[((σ s).ro,(σ s).L)]=(σ s).ps from rfl,<- hA1] at hG
 rw [<- hA1];clear hlA;subst e1
 have hpath:=fun (v0 v3 v4 v10 v14 v15 v31:AV) (box b0 b1:Blk) (k:List Fr) (Q:JV)=>ZmS (A:=A1) (b0:=b0) (b1:=b1) (box:=box) (s:=[]) (z:=a) (v0:=v0) (v3:=v3) (v4:=v4) (v10:=v10) (v14:=v14) (v15:=v15) (v31:=v31) (o:=o) (k:=k) (Q:=Q) hPa (by omega)
 have hnd:=J3 y1
 cases n with
 | zero =>
  repeat' (first|refine hpath _ _ _ _ _ _ _ _ _ _ _ _ (fun G' pv' hP' hb=>?_)|refine ZE ?_|refine ZD ?_|refine ZG rfl ?_|refine ZJ rfl rfl ?_|refine Zp rfl rfl ?_|refine ZB rfl ?_|refine ZC ?_|(refine Ze rfl rfl (fun _=>?_) (fun _=>?_)<;>try (exfalso;omega))|refine ZF rfl ?_|refine Zy rfl rfl rfl ?_|refine JE rfl rfl rfl rfl rfl rfl ?_|refine ZA rfl rfl rfl (hG _) ?_|refine ZH ?_|refine ZP ?_)
  all_goals try contradiction
  rcases hP' with ⟨w,_⟩|⟨j,ver,rfl,hg⟩
  ·exact absurd w (by simp)
  have hg3:∀ b0 b1 b2:Blk,(b0::b1::b2::G')[j+3]?=some (.arr 1 ver ((path++[o]).map XP)):=fun _ _ _=>hg
  repeat' (first|refine ZV rfl hb rfl rfl ?_|refine JD rfl rfl rfl rfl (Zof _ (Nat.lt_succ_self _)) rfl ?_|refine ZE ?_|refine ZD ?_|refine ZG rfl ?_|refine ZJ rfl rfl ?_|refine ZV rfl rfl rfl rfl ?_|refine ZB rfl ?_|refine ZC ?_|(refine Zi rfl rfl (fun _=>?_) (fun _=>?_)<;>try (exfalso;omega))|refine ZS rfl ?_|refine JD rfl rfl rfl rfl rfl rfl ?_|refine ZO ?_|refine ZL ?_|refine ZU ?_|refine QF ?_|refine Y0 ?_)
  all_goals try contradiction
  refine (ZsP (st:=σ s) hA1 (.inr rfl) rfl rfl (hg3 _ _ _) rfl rfl).trans ?_;rw [hres];simp only [JM,hnd,Int.add_zero]
  rw [show s0+(s-s0)=s by omega]
 | succ n =>
  obtain ⟨ks,hi⟩:∃ ks,InnerOk x n ks:=by
   rcases y2 with w|⟨m,ks,w⟩
   ·have:=w.h;omega
   ·have e:=w.eq
    have:m=n:=by rw [e] at y3;simpa using y3
    exact ⟨ks,this▸w⟩
  have e:=hi.eq;have hkids:=(hN o x y1).2
  have hfit:∀ k∈ks,k.m.Fit 65536:=fun k hk=>(hi.kid k hk).fit
  subst e;have hks:Nd.ks ⟨n+1,[],some ks⟩=ks:=rfl;rw [hks] at hG;have hD:D (Z8 (ks.map Kid.m)) a:=y4
  have hCl:=fun st=>hf.call n ks y2 a hD st
  obtain ⟨c1,c2⟩:=hf.ok ks a hfit hD;obtain ⟨k,hk⟩:∃ k,ks[(ch ks a).1]?=some k:=⟨_,jE c1⟩;have c3:=c2 k hk
  have hseek:JM ch q N (n+1) o a=((JM ch q N n k.at_ (ch ks a).2).1,o::(JM ch q N n k.at_ (ch ks a).2).2.1,Qm q ks (ch ks a).1+(JM ch q N n k.at_ (ch ks a).2).2.2):=by
   rw [JM,hnd];simp only [hks,hk,Option.map_some,Option.getD_some]
  have hi2:=hi.hi
  have qk:0<=(((ch ks a).1:Nat):Int)/\ks[(((ch ks a).1:Nat):Int).toNat]?=some k:=⟨by omega,by rw [show (((ch ks a).1:Nat):Int).toNat=(ch ks a).1 by omega];exact hk⟩
  have hsf:=hp.comp.fit _ _ (ZDe (l:=(ks.take (ch ks a).1).map Kid.m) (fun m hm=>by obtain ⟨z,hz,rfl⟩:=List.mem_map.1 hm;exact hfit z (List.mem_of_mem_take hz)))
  rw [List.length_map,List.length_take,Nat.min_eq_left (Nat.le_of_lt c1)] at hsf
  change 0<=Qm q ks (ch ks a).1/\Qm q ks (ch ks a).1<=_ at hsf
  have hsumK:q (Z8 ((ks.take (ch ks a).1).map Kid.m))=Qm q ks (ch ks a).1:=rfl
  generalize (ch ks a).1=ci at *
  generalize (ch ks a).2=cr at *
  unfold Nd.av at hCl;simp only [slV] at hCl
  have hlt:(ks.take ci).length=ci:=by simp;omega
  repeat' (first|refine hpath _ _ _ _ _ _ _ _ _ _ _ _ (fun G' pv' hP' hb=>?_)|refine ZE ?_|refine ZD ?_|refine ZG rfl ?_|refine ZJ rfl rfl ?_|refine Zp rfl rfl ?_|refine ZB rfl ?_|refine ZC ?_|(refine Ze rfl rfl (fun _=>?_) (fun _=>?_)<;>try (exfalso;omega))|refine ZF rfl ?_|refine Zy rfl rfl rfl ?_|refine JE rfl rfl rfl rfl rfl rfl ?_|refine ZA rfl rfl rfl (hG _) ?_|refine ZH ?_|refine ZP ?_)
  all_goals try contradiction
  repeat' (first|refine ZV rfl hb rfl rfl ?_|refine ZrE rfl rfl (Nat.le_of_lt c1) ?_|refine ZMo rfl ?_|refine ZE ?_|refine ZD ?_|refine ZG rfl ?_|refine ZJ rfl rfl ?_|refine ZV rfl rfl rfl rfl ?_|refine Zp rfl rfl ?_|refine ZB rfl ?_|refine ZC ?_|(refine Zi rfl rfl (fun _=>?_) (fun _=>?_)<;>try (exfalso;omega))|(refine Ze rfl rfl (fun _=>?_) (fun _=>?_)<;>try (exfalso;omega))|refine ZF rfl ?_|refine ZA rfl rfl rfl (hCl _) ?_|refine ZH ?_|refine ZP ?_)
  all_goals try contradiction
  all_goals try (exfalso;omega)
  refine ZmQ hp s hA1 (fun G2=>?_) (by omega) (by omega) (fun z hz=>hfit z (List.mem_of_mem_take hz))
  rw [hsumK];obtain ⟨A2,hA2⟩:∃ A2,A2=(σ (s+Qm q ks ci)).ps:=⟨_,rfl⟩
  have e2:A1.length=A2.length:=by rw [hA2];exact (hpl _).symm
  rw [<- hA2,e2];rw [e2] at hP';have hb2:=hb.symm▸jL (m:=G2) (List.getElem?_eq_some_iff.1 hb).1
  have hb3:∀ b0 b1 b2:Blk,(b0::b1::b2::G'++G2)[G.length+1+1+1]?=_:=fun _ _ _=>hb2
  rcases hP' with ⟨w,_⟩|⟨j,ver,rfl,hg⟩
  ·exact absurd w (by simp)
  repeat' (first|refine ZFh rfl rfl rfl (hb3 _ _ _) rfl rfl ?_|refine ZmR (f:=Kid.av) rfl rfl qk rfl ?_|refine Zjy rfl rfl ?_|refine Zog rfl rfl rfl rfl ?_|refine JD rfl rfl rfl rfl rfl rfl ?_|refine ZD ?_|refine ZG rfl ?_|refine ZJ rfl rfl ?_|refine ZB rfl ?_|refine ZC ?_|refine Z7 ?_|refine QJ ?_)
  all_goals try contradiction
  obtain ⟨_,y,z1,z2,z3⟩:=hkids k (jM hk);rw [hA2]
  refine ⟨⟨n,k.at_,cr,s+Qm q ks ci,path++[o],.ref (σ (s+Qm q ks ci)).ps.length (j+3) ver 0 (path++[o]).length,G'++G2⟩,⟨rfl,rfl⟩,⟨⟨y,z1,(hN _ y z1).1,by simp only at z2 ⊢;omega,by rw [z3];exact c3⟩,.inr ⟨j,ver,rfl,?_⟩,by simp only [lL,List.length_singleton];omega,by simp only [lL,List.length_singleton];omega,?_⟩,Nat.lt_succ_self _⟩
  ·show (G'++G2)[j]?=_
   rw [jL (List.getElem?_eq_some_iff.1 hg).1];exact hg
  ·rw [hres,hseek]
   simp only [List.append_assoc,List.singleton_append]
   congr 2
   omega
theorem Zao {N:ZQ} {n:Nat}:∀ {ks:List Kid},(∀ k∈ks,JK (QO N n k.at_)=k.m)->JK (ks.flatMap fun k=>QO N n k.at_)=Z8 (ks.map Kid.m):=by
 intro ks
 induction ks with
 | nil=>intro _;rfl
 | cons k l ih =>
  intro h
  rw [List.flatMap_cons,ZEP,h k (by simp),ih (fun z hz=>h z (List.mem_cons_of_mem _ hz)),jC,Z8]
theorem NdOk.ksFit {x:Nd} (h:NdOk x):∀ k∈x.ks,k.m.Fit 65536:=by
 rcases h with q|⟨n,ks,q⟩
 ·rw [q.ks];intro k hk;simp at hk
 ·have e:=q.eq;subst e;exact fun k hk=>(q.kid k hk).fit
theorem ZTF {p q:Mea->Int} (hp:Comp p) (hq:Comp q) {N:ZQ} (hN:GoodN N):∀ (n o:Nat) (x:Nd) (a:Int),lk N o=some x->x.h=n->0<=a->a<p x.mea ->
 ∃ pre leaf post,QO N n o=pre++leaf++post/\(JM (QP p) q N n o a).1=(leaf,a-p (JK pre))/\0<=a-p (JK pre)/\a-p (JK pre)<p (JK leaf)/\(JM (QP p) q N n o a).2.2=q (JK pre):=by
 intro n
 induction n with
 | zero =>
  intro o x a hx hh h0 h1
  have hm:x.mea=JK x.text:=by unfold Nd.mea;rw [if_pos hh]
  have e:p (JK [])=0:=by rw [Zhu];exact hp.zero
  have e2:q (JK [])=0:=by rw [Zhu];exact hq.zero
  refine ⟨[],x.text,[],?_,?_,by rw [e];omega,by rw [e,<- hm];omega,by rw [e2];rfl⟩
  ·rw [QO,hx];simp
  ·rw [JM,J3 hx,e];simp
 | succ n ih =>
  intro o x a hx hh h0 h1;obtain ⟨hok,hkids⟩:=hN o x hx
  have hm:x.mea=Z8 (x.ks.map Kid.m):=by unfold Nd.mea;rw [if_neg (by omega)]
  rw [hm] at h1;obtain ⟨c1,c2,c3,c4⟩:=ZFn hp x.ks a hok.ksFit h0 h1;obtain ⟨k,hk⟩:∃ k,x.ks[(QP p x.ks a).1]?=some k:=⟨_,jE c1⟩;have c5:=c4 k hk;obtain ⟨_,y,y1,y2,y3⟩:=hkids k (jM hk)
  have hmk:∀ k∈x.ks,JK (QO N n k.at_)=k.m:=fun k hk=>by
   obtain ⟨_,y,y1,y2,y3⟩:=hkids k hk
   rw [ZA1 hN n k.at_ y y1 (by omega),y3]
  obtain ⟨pre,leaf,post,t1,t2,t3,t4,t5⟩:=ih k.at_ y (QP p x.ks a).2 y1 (by omega) c3 (by rw [y3];exact c5)
  have hseek:JM (QP p) q N (n+1) o a=((JM (QP p) q N n k.at_ (QP p x.ks a).2).1,o::(JM (QP p) q N n k.at_ (QP p x.ks a).2).2.1,Qm q x.ks (QP p x.ks a).1+(JM (QP p) q N n k.at_ (QP p x.ks a).2).2.2):=by
   rw [JM,J3 hx];simp only [hk,Option.map_some,Option.getD_some]
  rw [hseek,c2] at *
  generalize hci:(QP p x.ks a).1=ci at *
  have hsplit:x.ks=x.ks.take ci++k::x.ks.drop (ci+1):=by
   have:=List.take_append_drop ci x.ks
   rw [ZLq hk] at this;exact this.symm
  have hpm:JK ((x.ks.take ci).flatMap fun k=>QO N n k.at_)=Z8 ((x.ks.take ci).map Kid.m):=Zao (fun z hz=>hmk z (List.mem_of_mem_take hz))
  have e3:p (JK ((x.ks.take ci).flatMap (fun k=>QO N n k.at_)++pre))=Qm p x.ks ci+p (JK pre):=by
   rw [ZEP,hp.add,hpm];rfl
  have e4:q (JK ((x.ks.take ci).flatMap (fun k=>QO N n k.at_)++pre))=Qm q x.ks ci+q (JK pre):=by
   rw [ZEP,hq.add,hpm];rfl
  refine ⟨(x.ks.take ci).flatMap (fun k=>QO N n k.at_)++pre,leaf,post++(x.ks.drop (ci+1)).flatMap (fun k=>QO N n k.at_),?_,?_,?_,?_,?_⟩
  ·rw [QO,hx]
   simp only [Option.map_some,Option.getD_some];rw [hsplit,List.flatMap_append,List.flatMap_cons,t1]
   have e:((x.ks.take ci++k::x.ks.drop (ci+1)).take ci)=x.ks.take ci:=by rw [<- hsplit]
   have e':((x.ks.take ci++k::x.ks.drop (ci+1)).drop (ci+1))=x.ks.drop (ci+1):=by rw [<- hsplit]
   rw [e,e'];simp only [List.append_assoc]
  ·simp only
   rw [t2,e3]
   congr 1
   omega
  ·rw [e3];omega
  ·rw [e3];omega
  ·simp only
   rw [t5,e4]
structure CLv where
 n:Nat
 o:Nat
 f:Int
 t:Int
deriving DecidableEq
def ZA3 (N:ZQ) (o:Nat) (b:Int):Nat:=(QP Mea.b (QQ N o).ks b).1
def X6 (N:ZQ) (o:Nat) (b:Int):Int:=Qm Mea.b (QQ N o).ks (ZA3 N o b)
def Zap (N:ZQ) (o:Nat) (b:Int):Nat:=(((QQ N o).ks[ZA3 N o b]?).map Kid.at_).getD 0
def ZLP (N:ZQ) (o:Nat) (b:Int):Int:=(((QQ N o).ks[ZA3 N o b]?).map fun k=>k.m.b).getD 0
def CLv.down (N:ZQ) (l:CLv) (a:Int):CLv:=⟨l.n-1,Zap N l.o (a-l.f),l.f+X6 N l.o (a-l.f),l.f+X6 N l.o (a-l.f)+ZLP N l.o (a-l.f)⟩
def QN (N:ZQ) (a:Int):Nat->CLv->List CLv
 | 0,l=>[l]
 | n+1,l=>l::QN N a n (l.down N a)
structure CLvOk (N:ZQ) (s:List UInt8) (l:CLv):Prop where
 nd:∃ x,lk N l.o=some x/\x.h=l.n/\x.mea.b=l.t-l.f
 tx:∃ pre post,s=pre++QO N l.n l.o++post/\(pre.length:Int)=l.f
theorem Zj0 (s:List UInt8):(JK s).b=s.length:=rfl
theorem CLvOk.len {N:ZQ} (hN:GoodN N) {s:List UInt8} {l:CLv} (h:CLvOk N s l):((QO N l.n l.o).length:Int)=l.t-l.f/\0<=l.f/\l.t<=s.length:=by
 obtain ⟨⟨x,h1,h2,h3⟩,pre,post,h4,h5⟩:=h;have h6:=ZA1 hN l.n l.o x h1 h2
 have h7:((QO N l.n l.o).length:Int)=l.t-l.f:=by rw [<- Zj0,h6];exact h3
 have h8:=congrArg List.length h4;simp only [lL] at h8
 exact ⟨h7,by omega,by omega⟩
theorem CLvOk.down {N:ZQ} (hN:GoodN N) {s:List UInt8} {l:CLv} {n:Nat} (h:CLvOk N s l) (hn:l.n=n+1) {a:Int} (h0:l.f<=a) (h1:a<l.t) :
 CLvOk N s (l.down N a)/\(l.down N a).f<=a/\a<(l.down N a).t/\l.f<=(l.down N a).f/\(l.down N a).t<=l.t/\∃ k,(QQ N l.o).ks[ZA3 N l.o (a-l.f)]?=some k/\Zap N l.o (a-l.f)=k.at_/\ZLP N l.o (a-l.f)=k.m.b:=by
 obtain ⟨⟨x,x1,x2,x3⟩,pre,post,x4,x5⟩:=h;obtain ⟨hok,hkids⟩:=hN l.o x x1
 have hm:x.mea=Z8 (x.ks.map Kid.m):=by unfold Nd.mea;rw [if_neg (by omega)]
 have hnd:=J3 x1;rw [hm] at x3
 obtain ⟨c1,c2,c3,c4⟩:=ZFn comp_b x.ks (a-l.f) hok.ksFit (by omega) (by omega)
 obtain ⟨k,hk⟩:∃ k,x.ks[(QP Mea.b x.ks (a-l.f)).1]?=some k:=⟨_,jE c1⟩;have c5:=c4 k hk;obtain ⟨_,y,y1,y2,y3⟩:=hkids k (jM hk)
 have eI:ZA3 N l.o (a-l.f)=(QP Mea.b x.ks (a-l.f)).1:=by unfold ZA3;rw [hnd]
 have eO:Zap N l.o (a-l.f)=k.at_:=by unfold Zap;rw [eI,hnd,hk];rfl
 have eB:ZLP N l.o (a-l.f)=k.m.b:=by unfold ZLP;rw [eI,hnd,hk];rfl
 have eF:X6 N l.o (a-l.f)=Qm Mea.b x.ks (QP Mea.b x.ks (a-l.f)).1:=by unfold X6;rw [eI,hnd]
 generalize hci:(QP Mea.b x.ks (a-l.f)).1=ci at *
 have hsplit:x.ks=x.ks.take ci++k::x.ks.drop (ci+1):=by
  have:=List.take_append_drop ci x.ks
  rw [ZLq hk] at this;exact this.symm
 have hmk:∀ k∈x.ks,JK (QO N n k.at_)=k.m:=fun k hk=>by
  obtain ⟨_,y,y1,y2,y3⟩:=hkids k hk
  rw [ZA1 hN n k.at_ y y1 (by omega),y3]
 have hpm:JK ((x.ks.take ci).flatMap fun k=>QO N n k.at_)=Z8 ((x.ks.take ci).map Kid.m):=Zao (fun z hz=>hmk z (List.mem_of_mem_take hz))
 have hpl:(((x.ks.take ci).flatMap fun k=>QO N n k.at_).length:Int)=Qm Mea.b x.ks ci:=by rw [<- Zj0,hpm];rfl
 have hpm2:JK ((x.ks.drop (ci+1)).flatMap fun k=>QO N n k.at_)=Z8 ((x.ks.drop (ci+1)).map Kid.m):=Zao (fun z hz=>hmk z (List.mem_of_mem_drop hz))
 have hpl2:(((x.ks.drop (ci+1)).flatMap fun k=>QO N n k.at_).length:Int)=(Z8 ((x.ks.drop (ci+1)).map Kid.m)).b:=by rw [<- Zj0,hpm2]
 have hsum:(Z8 (x.ks.map Kid.m)).b=Qm Mea.b x.ks ci+k.m.b+(Z8 ((x.ks.drop (ci+1)).map Kid.m)).b:=by
  have e1:=congrArg (fun l=>(Z8 (l.map Kid.m)).b) hsplit
  simp only [List.map_append,jC,ZAH,Z8] at e1;have e2:=comp_b.add;rw [e1,e2,e2];unfold Qm;omega
 refine ⟨⟨⟨y,?_,?_,?_⟩,pre++(x.ks.take ci).flatMap (fun k=>QO N n k.at_),(x.ks.drop (ci+1)).flatMap (fun k=>QO N n k.at_)++post,?_,?_⟩,?_,?_,?_,?_,k,?_,eO,eB⟩
 ·show lk N (Zap _ _ _)=_;rw [eO];exact y1
 ·show _=l.n-1;omega
 ·show _=l.f+X6 N l.o (a-l.f)+ZLP N l.o (a-l.f)-(l.f+X6 N l.o (a-l.f));rw [eB,y3];omega
 ·show s=_++QO N (l.n-1) (Zap _ _ _)++_
  rw [x4,eO,hn,QO,x1];simp only [Option.map_some,Option.getD_some,Nat.add_sub_cancel]
  have e:=congrArg (fun l=>l.flatMap fun k=>QO N n k.at_) hsplit
  simp only [List.flatMap_append,List.flatMap_cons] at e;rw [e];simp only [List.append_assoc]
 ·show _=l.f+X6 N l.o (a-l.f)
  rw [lL,eF];omega
 ·show l.f+X6 N l.o (a-l.f)<=a;rw [eF];omega
 ·show a<l.f+X6 N l.o (a-l.f)+ZLP N l.o (a-l.f);rw [eF,eB];omega
 ·show l.f<=l.f+X6 N l.o (a-l.f);rw [eF];omega
 ·show l.f+X6 N l.o (a-l.f)+ZLP N l.o (a-l.f)<=l.t;rw [eF,eB];omega
 ·rw [eI,hnd];exact hk
theorem ZCz (N:ZQ) (a:Int):∀ (n:Nat) (l:CLv),(QN N a n l).length=n+1
 | 0,_=>rfl
 | n+1,l=>by rw [QN,List.length_cons,ZCz N a n]
theorem Zk9 (N:ZQ) (a:Int) (n:Nat) (l:CLv):(QN N a n l)[0]?=some l:=by cases n<;>rfl
theorem Zaq (N:ZQ) (a:Int):∀ (n:Nat) (l:CLv) (i:Nat) (x:CLv),i<n->(QN N a n l)[i]?=some x->(QN N a n l)[i+1]?=some (x.down N a)
 | n+1,l,0,x,_,h=>by
  rw [QN] at h ⊢;simp only [List.getElem?_cons_zero,oJ] at h;subst h;rw [List.getElem?_cons_succ,Zk9]
 | n+1,l,i+1,x,hi,h=>by
  rw [QN] at h ⊢;rw [List.getElem?_cons_succ] at h ⊢
  exact Zaq N a n _ i x (by omega) h
theorem ZAi {N:ZQ} (hN:GoodN N) {s:List UInt8} {a:Int}:∀ (n:Nat) (l:CLv),l.n=n->CLvOk N s l->l.f<=a->a<l.t->∀ i x,(QN N a n l)[i]?=some x->CLvOk N s x/\x.n+i=n/\x.f<=a/\a<x.t/\l.f<=x.f/\x.t<=l.t
 | 0,l,hn,h,h0,h1,i,x,hx=>by
  match i,hx with
  | 0,hx =>
   simp only [QN,List.getElem?_cons_zero,oJ] at hx;subst hx
   exact ⟨h,by omega,h0,h1,by omega,by omega⟩
  | i+1,hx=>simp [QN] at hx
 | n+1,l,hn,h,h0,h1,i,x,hx=>by
  match i,hx with
  | 0,hx =>
   simp only [QN,List.getElem?_cons_zero,oJ] at hx;subst hx
   exact ⟨h,by omega,h0,h1,by omega,by omega⟩
  | i+1,hx =>
   rw [QN,List.getElem?_cons_succ] at hx;obtain ⟨d1,d2,d3,d4,d5,_⟩:=h.down hN hn h0 h1
   obtain ⟨e1,e2,e3,e4,e5,e6⟩:=ZAi hN n _ (show (l.down N a).n=n by show l.n-1=n;omega) d1 d2 d3 i x hx
   exact ⟨e1,by omega,e3,e4,by omega,by omega⟩
def cmL (N:ZQ) (p a:Int):Nat->CLv->Nat
 | 0,_=>1
 | n+1,l=>1+if l.down N p=l.down N a then cmL N p a n (l.down N a) else 0
theorem Zar (N:ZQ) (p a:Int):∀ (n:Nat) (l:CLv),1<=cmL N p a n l/\cmL N p a n l<=n+1
 | 0,l=>by simp [cmL]
 | n+1,l=>by
  rw [cmL]
  have:=Zar N p a n (l.down N a)
  split<;>omega
theorem ZiR (N:ZQ) (a:Int):∀ (n:Nat) (l:CLv),cmL N a a n l=n+1
 | 0,l=>rfl
 | n+1,l=>by rw [cmL,if_pos rfl,ZiR N a n];omega
theorem Zas (N:ZQ) (p a:Int):∀ (n:Nat) (l:CLv),(QN N p n l).take (cmL N p a n l)=(QN N a n l).take (cmL N p a n l)
 | 0,l=>rfl
 | n+1,l=>by
  rw [cmL,QN,QN]
  split
  ·rename_i e
   rw [Nat.add_comm,List.take_succ_cons,List.take_succ_cons,e,Zas N p a n]
  ·rfl
theorem ZQX {ks:List Kid} (hf:∀ k∈ks,0<=k.m.b):∀ {i:Nat} {k:Kid} {b:Int},ks[i]?=some k->Qm Mea.b ks i<=b->b<Qm Mea.b ks i+k.m.b->(QP Mea.b ks b).1=i:=by
 induction ks with
 | nil=>intro i k b h;simp at h
 | cons z l ih =>
  intro i k b h h0 h1
  cases i with
  | zero =>
   simp only [List.getElem?_cons_zero,oJ] at h;subst h
   have:Qm Mea.b (z::l) 0=0:=rfl
   rw [QP,if_pos (by omega)]
  | succ i =>
   rw [List.getElem?_cons_succ] at h
   have e:Qm Mea.b (z::l) (i+1)=z.m.b+Qm Mea.b l i:=by
    unfold Qm;rw [List.take_succ_cons,jC,Z8,comp_b.add]
   have h0':0<=Qm Mea.b l i:=by
    have key:∀ (l:List Kid),(∀ k∈l,0<=k.m.b)->0<=(Z8 (l.map Kid.m)).b:=by
     intro l
     induction l with
     | nil=>intro _;exact Int.le_of_eq comp_b.zero.symm
     | cons y m ih2 =>
      intro hq;rw [jC,Z8,comp_b.add]
      have:=ih2 (fun q hq2=>hq q (List.mem_cons_of_mem _ hq2))
      have:=hq y (by simp)
      omega
    exact key _ (fun q hq=>hf q (List.mem_cons_of_mem _ (List.mem_of_mem_take hq)))
   rw [e] at h0 h1
   rw [QP,if_neg (by omega)]
   simp only
   rw [ih (fun q hq=>hf q (List.mem_cons_of_mem _ hq)) h (by omega) (by omega)]
theorem CLvOk.fit {N:ZQ} (hN:GoodN N) {s:List UInt8} {l:CLv} (h:CLvOk N s l):∀ k∈(QQ N l.o).ks,0<=k.m.b:=by
 obtain ⟨⟨x,x1,x2,x3⟩,_⟩:=h;rw [J3 x1]
 exact fun k hk=>(((hN l.o x x1).1.ksFit) k hk).1
theorem CLvOk.same {N:ZQ} (hN:GoodN N) {s:List UInt8} {l:CLv} {n:Nat} (h:CLvOk N s l) (hn:l.n=n+1) {p a:Int} (h0:l.f<=p) (h1:p<l.t) (ha0:(l.down N p).f<=a) (ha1:a<(l.down N p).t):l.down N p=l.down N a:=by
 obtain ⟨_,_,_,_,_,k,k1,k2,k3⟩:=h.down hN hn h0 h1;have q0:l.f+X6 N l.o (p-l.f)<=a:=ha0;have q1:a<l.f+X6 N l.o (p-l.f)+ZLP N l.o (p-l.f):=ha1;rw [k3] at q1
 have e:ZA3 N l.o (a-l.f)=ZA3 N l.o (p-l.f):=ZQX (h.fit hN) k1 (by show X6 N l.o (p-l.f)<=_;omega) (by show _<X6 N l.o (p-l.f)+_;omega)
 have eF:X6 N l.o (a-l.f)=X6 N l.o (p-l.f):=by unfold X6;rw [e]
 have eO:Zap N l.o (a-l.f)=Zap N l.o (p-l.f):=by unfold Zap;rw [e]
 have eB:ZLP N l.o (a-l.f)=ZLP N l.o (p-l.f):=by unfold ZLP;rw [e]
 unfold CLv.down;rw [eF,eO,eB]
theorem ZlA {N:ZQ} (hN:GoodN N) {s:List UInt8} {p a:Int}:∀ (n:Nat) (l:CLv),l.n=n->CLvOk N s l->l.f<=p->p<l.t->l.f<=a->a<l.t->∀ i x,(QN N p n l)[i]?=some x->cmL N p a n l<=i->¬ (x.f<=a/\a<x.t)
 | 0,l,_,_,_,_,_,_,i,x,hx,hi=>by
  match i,hx,hi with
  | 0,_,hi=>simp [cmL] at hi
  | i+1,hx,_=>simp [QN] at hx
 | n+1,l,hn,h,p0,p1,a0,a1,i,x,hx,hi=>by
  rw [cmL] at hi
  match i,hx,hi with
  | 0,_,hi=>omega
  | i+1,hx,hi =>
   rw [QN,List.getElem?_cons_succ] at hx;obtain ⟨d1,d2,d3,d4,d5,_⟩:=h.down hN hn p0 p1
   have dn:(l.down N p).n=n:=by show l.n-1=n;omega
   by_cases e:l.down N p=l.down N a
   ·rw [if_pos e] at hi
    obtain ⟨_,b2,b3,_⟩:=h.down hN hn a0 a1;rw [e] at hx d1 d2 d3 dn
    exact ZlA hN n _ dn d1 d2 d3 b2 b3 i x hx (by omega)
   ·intro hq
    obtain ⟨_,_,_,_,e5,e6⟩:=ZAi hN n _ dn d1 d2 d3 i x hx
    exact e (h.same hN hn p0 p1 (by omega) (by omega))
def szN (N:ZQ):Nat->Nat->Nat
 | 0,_=>1
 | n+1,o=>1+((QQ N o).ks.map fun k=>szN N n k.at_).sum
def ZCr (N:ZQ) (a:Int):Nat->CLv->Nat
 | 0,_=>1
 | n+1,l=>1+(((QQ N l.o).ks.take (ZA3 N l.o (a-l.f))).map fun k=>szN N n k.at_).sum+ZCr N a n (l.down N a)
end Go.Q15
namespace Go.QAbs
theorem Zge {A:List (Bool × List Blk)} {L T:List Blk} {lv ix:Nat} {b c:Blk} (hg:St.get ⟨A,false,L⟩ lv ix=some c):St.upd ⟨A,false,L++T⟩ lv ix b=⟨(St.upd ⟨A,false,L⟩ lv ix b).A,false,(St.upd ⟨A,false,L⟩ lv ix b).L++T⟩:=by
 unfold St.upd
 by_cases h:lv=A.length
 ·simp only [if_pos h]
  have hix:ix<L.length:=by
   rw [St.get] at hg;simp only [if_pos h] at hg;exact ZDA hg
  rw [List.set_append_left _ _ hix]
 ·simp only [if_neg h]
theorem Zgf {A:List (Bool × List Blk)} {L:List Blk} {lv ix:Nat} {b:Blk}:(St.upd ⟨A,false,L⟩ lv ix b).ro=false:=by
 unfold St.upd
 split<;>rfl
theorem XE {A:List (Bool × List Blk)} {L T:List Blk} {lv ix:Nat} {c:Blk} (hg:St.get ⟨A,false,L⟩ lv ix=some c):St.get ⟨A,false,L++T⟩ lv ix=some c:=by
 rw [St.get] at hg ⊢
 simp only at hg ⊢
 by_cases h:lv=A.length
 ·rw [if_pos h] at hg ⊢
  rw [jL (ZDA hg)];exact hg
 ·rw [if_neg h] at hg ⊢;exact hg
theorem Zj1 {A:List (Bool × List Blk)} {L T:List Blk} {lv:Nat} (h:St.wr ⟨A,false,L⟩ lv):St.wr ⟨A,false,L++T⟩ lv:=h
theorem ZlB:∀ {ks:List (Nat × Nat)} {st:St} {bs:List Blk},(Zx st ks bs).ro=st.ro
 | [],_,_=>rfl
 | _::_,_,[]=>rfl
 | k::ks,st,b::bs=>by
  rw [Zx,ZlB];unfold St.upd
  split<;>rfl
theorem Zoh:∀ {ks:List (Nat × Nat)} {st:St} {bs:List Blk},(Zx st ks bs).L.length=st.L.length
 | [],_,_=>rfl
 | _::_,_,[]=>rfl
 | k::ks,st,b::bs=>by
  rw [Zx,Zoh];unfold St.upd
  split<;>simp
theorem ZiS {A:List (Bool × List Blk)} {L:List Blk} {ks:List (Nat × Nat)} {bs:List Blk}:(⟨(Zx ⟨A,false,L⟩ ks bs).A,false,(Zx ⟨A,false,L⟩ ks bs).L⟩:St)=Zx ⟨A,false,L⟩ ks bs:=by
 have:(Zx ⟨A,false,L⟩ ks bs).ro=false:=ZlB
 cases h:Zx ⟨A,false,L⟩ ks bs with
 | mk a r l=>rw [h] at this;simp only at this;rw [this]
section
variable {O:Orc} {k:List Fr} {Q:JV} {e:Env} {A A0:List (Bool × List Blk)} {L L0 T:List Blk} {keep:List Nat} {is:List PI} {d:Nat} {ks:List (Nat × Nat)} {b0 bs:List Blk}
theorem Zoi (H:Cl ⟨A0,false,L0⟩ ks b0) (hst:(⟨A,false,L⟩:St)=Zx ⟨A0,false,L0⟩ ks bs) (hl:bs.length=ks.length) (hn:bs.all noH=true) {j lv ix:Nat} {b:Blk} (hj:ks[j]?=some (lv,ix)) (hb:bs[j]?=some b) (T:List Blk):St.get ⟨A,false,L++T⟩ lv ix=some b :=
 XE (by rw [hst];exact (H.put hl hn).get j lv ix b hj hb)
theorem Zrq (H:Cl ⟨A0,false,L0⟩ ks b0) (hst:(⟨A,false,L⟩:St)=Zx ⟨A0,false,L0⟩ ks bs) (hl:bs.length=ks.length) (hn:bs.all noH=true) {lv ix:Nat} {b:Blk} (hj:(lv,ix)∉ks) (hb:St.get ⟨A0,false,L0⟩ lv ix=some b) (T:List Blk):St.get ⟨A,false,L++T⟩ lv ix=some b :=
 XE (by rw [hst,H.out hl hn hj];exact hb)
theorem ZQY (hst:(⟨A,false,L⟩:St)=Zx ⟨A0,false,L0⟩ ks bs):A.length=A0.length/\L.length=L0.length:=by
 have h1:A.length=(Zx ⟨A0,false,L0⟩ ks bs).A.length:=by rw [<- hst]
 have h2:L.length=(Zx ⟨A0,false,L0⟩ ks bs).L.length:=by rw [<- hst]
 exact ⟨h1.trans (ZDd _ _ _),h2.trans Zoh⟩
theorem Zj2 {n:Nat} {a x:Opd} {j lv ix ver i o w:Nat} {es:List AV} {v v' y:AV} (H:Cl ⟨A0,false,L0⟩ ks b0) (hst:(⟨A,false,L⟩:St)=Zx ⟨A0,false,L0⟩ ks bs) (hl:bs.length=ks.length) (hn:bs.all noH=true) (hj:ks[j]?=some (lv,ix)) (hb:bs[j]?=some (.arr w ver es))
 (ha:Zj e a=some (.ptr lv ix ver i o)) (hx:Zj e x=some v) (hy:es[i]?=some y) (hs:Zd Qd (lv+1) ⟨A,false,L++T⟩ v=some (v,⟨A,false,L++T⟩)) (hv:(JR w y o n v).bind YN=some v')
 (h:∀ A2 L2,(⟨A2,false,L2⟩:St)=Zx ⟨A0,false,L0⟩ ks (bs.set j (.arr w ver (es.set i v')))->A2.length=A.length->L2.length=L.length->Is O is keep k Q e ⟨A2,false,L2++T⟩):Is O (⟨none,none,false,.st n a x⟩::is) keep k Q e ⟨A,false,L++T⟩:=by
 have hP:=H.put hl hn;have hg:=hP.get j lv ix _ hj hb;have hw:=hP.wr (lv,ix) (jM hj);rw [<- hst] at hg hw;refine Znt ha hx (Zj1 hw) (XE hg) hy hs hv ?_;rw [Zge hg]
 have e1:(⟨(St.upd ⟨A,false,L⟩ lv ix (.arr w ver (es.set i v'))).A,false,(St.upd ⟨A,false,L⟩ lv ix (.arr w ver (es.set i v'))).L⟩:St)=St.upd ⟨A,false,L⟩ lv ix (.arr w ver (es.set i v')):=by
  have:=Zgf (A:=A) (L:=L) (lv:=lv) (ix:=ix) (b:=.arr w ver (es.set i v'))
  cases hq:St.upd ⟨A,false,L⟩ lv ix (.arr w ver (es.set i v')) with
  | mk a r l=>rw [hq] at this;simp only at this;rw [this]
 have e2:(⟨(St.upd ⟨A,false,L⟩ lv ix (.arr w ver (es.set i v'))).A,false,(St.upd ⟨A,false,L⟩ lv ix (.arr w ver (es.set i v'))).L⟩:St)=Zx ⟨A0,false,L0⟩ ks (bs.set j (.arr w ver (es.set i v'))):=by
  rw [e1,hst,ZAb H.nd hl hj]
 refine h _ _ e2 ?_ ?_
 ·rw [(ZQY e2).1,(ZQY hst).1]
 ·rw [(ZQY e2).2,(ZQY hst).2]
theorem ZrG {s x:Opd} {j lv ix ver w bytes m:Nat} {es ys:List AV} {vx:AV} (H:Cl ⟨A0,false,L0⟩ ks b0) (hst:(⟨A,false,L⟩:St)=Zx ⟨A0,false,L0⟩ ks bs) (hl:bs.length=ks.length) (hn:bs.all noH=true) (hj:ks[j]?=some (lv,ix)) (hb:bs[j]?=some (.arr w ver es)) (hm:m<=es.length)
 (hs:Zj e s=some (.ref lv ix ver 0 m)) (hx:Zj e x=some vx) (hy:elems ⟨A,false,L++T⟩ vx=some ys) (hw:JH w ys=true) (hsl:mapSt (Zd Qd (lv+1)) ⟨A,false,L++T⟩ ys=some (ys,⟨A,false,L++T⟩)) (hlen:m+ys.length<4294967296) (hby:bytes<=4096)
 (h:∀ A2 L2,(⟨A2,false,L2⟩:St)=Zx ⟨A0,false,L0⟩ ks (bs.set j (.arr w (ver+1) (es.take m++ys)))->A2.length=A.length->L2.length=L.length->Is O is keep k Q ((d,.ref lv ix (ver+1) 0 (m+ys.length))::e) ⟨A2,false,L2++T⟩) :
 Is O (⟨some d,none,false,.app w bytes s x⟩::is) keep k Q e ⟨A,false,L++T⟩:=by
 have hP:=H.put hl hn;have hg:=hP.get j lv ix _ hj hb;have hwr:=hP.wr (lv,ix) (jM hj);rw [<- hst] at hg hwr
 have e1:(⟨(St.upd ⟨A,false,L⟩ lv ix (.arr w (ver+1) (es.take m++ys))).A,false,(St.upd ⟨A,false,L⟩ lv ix (.arr w (ver+1) (es.take m++ys))).L⟩:St)=St.upd ⟨A,false,L⟩ lv ix (.arr w (ver+1) (es.take m++ys)):=by
  have:=Zgf (A:=A) (L:=L) (lv:=lv) (ix:=ix) (b:=.arr w (ver+1) (es.take m++ys))
  cases hq:St.upd ⟨A,false,L⟩ lv ix (.arr w (ver+1) (es.take m++ys)) with
  | mk a r l=>rw [hq] at this;simp only at this;rw [this]
 have e2:(⟨(St.upd ⟨A,false,L⟩ lv ix (.arr w (ver+1) (es.take m++ys))).A,false,(St.upd ⟨A,false,L⟩ lv ix (.arr w (ver+1) (es.take m++ys))).L⟩:St)=Zx ⟨A0,false,L0⟩ ks (bs.set j (.arr w (ver+1) (es.take m++ys))):=by
  rw [e1,hst,ZAb H.nd hl hj]
 refine Z6 (v:=.ref lv ix (ver+1) 0 (m+ys.length)) (st':=St.upd ⟨A,false,L++T⟩ lv ix (.arr w (ver+1) (es.take m++ys))) ?_ ?_
 ·simp only [Zl,evalPO,ZI hs,ZI hx,hy,oS,Jd,hw,if_true,hsl,Zea,XE (T:=T) hg,ZMq,true_and,if_pos (show 0+m<=es.length/\m+ys.length<4294967296/\bytes<=4096 by omega),List.drop_zero]
  rw [St.put_upd (Zj1 hwr) (XE hg)];rfl
 ·rw [Zge hg]
  refine h _ _ e2 ?_ ?_
  ·rw [(ZQY e2).1,(ZQY hst).1]
  ·rw [(ZQY e2).2,(ZQY hst).2]
end
end Go.QAbs
namespace Go.Q15
open Go Go.QAbs
set_option maxRecDepth 100000
set_option maxHeartbeats 8000000
theorem Zoj (m:Mea) (st:St):S Tb ZA9 [m.av] st=some (.tup [],st):=by
 refine Z9 rfl (fun A hA=>?_)
 unfold Mea.av
 repeat' (first|refine ZD ?_|refine ZB rfl ?_|refine Zk rfl rfl rfl ?_|refine ZL ?_)
 refine ZX hA (by first|exact .inl rfl|exact .inr rfl) rfl rfl rfl rfl ?_
 rfl
theorem ZmT (st:St):Pass (fun _=>st) Mea.b ZA9 [] st.ps.length :=
 ⟨comp_b,fun _=>rfl,fun s m L _ _ _=>⟨_,Zoj m _⟩,fun m=>rfl⟩
abbrev ZLQ (N:ZQ) (r:Ro) (a:Int):(List UInt8 × Int) × List Nat × Int:=JM (QP Mea.b) Mea.b N r.h r.at_ a
theorem RtOk.nz {N:ZQ} {r:Ro} (h:RtOk N r) (hb:0<r.m.b):r.at_≠0/\∃ x,lk N r.at_=some x/\NdOk x/\x.h=r.h/\x.mea=r.m:=by
 rcases h with rfl|w
 ·simp [Ro.zero,Mea.zero] at hb
 ·exact w
theorem ZsQ {st:St} {la b:Nat} {N:ZQ} (hN:GoodN N) (hR:Rd st la (b+5) N) {r:Ro} (hr:RtOk N r) (a:Int) (h0:0<=a) (h1:a<r.m.b) (hb:r.m.b<=1000000) :
 S Tb ZJq [.ptr la (b+5) 0 0 0,r.av,.int .i64 a] st=some (.tup [.str (ZLQ N r a).1.1,.int .i64 (ZLQ N r a).1.2,.lit ((ZLQ N r a).2.1.map XP),.int .i64 0],st):=by
 refine Z9 rfl (fun A hA=>?_)
 have hC:=fun L=>ZDl (hR.push hA (ro:=false) (L:=L)) hr
 have hW:=fun L=>Zan (ZmT ⟨A,false,L⟩) ZiQ hN (fun _=>hR.push hA (ro:=false) (L:=L)) hr (hr.nz (by omega)).1 a ⟨h0,h1,hb⟩ 0 ⟨by decide,by decide⟩
 unfold ZLQ
 generalize JM (QP Mea.b) Mea.b N r.h r.at_ a=R at *
 unfold Ro.av at *
 repeat' (first|refine ZE ?_|refine ZD ?_|refine ZG rfl ?_|refine ZJ rfl rfl ?_|refine ZV rfl rfl rfl rfl ?_|refine Z2 rfl ?_|refine Zf rfl rfl rfl rfl ?_|refine Zp rfl rfl ?_|refine ZB rfl ?_|refine ZC ?_|(refine Zg rfl rfl (fun _=>?_) (fun _=>?_)<;>try (exfalso;omega))|(refine JQ rfl rfl (fun _=>?_) (fun _=>?_)<;>try (exfalso;omega))|(refine Ze rfl rfl (fun _=>?_) (fun _=>?_)<;>try (exfalso;omega))|refine ZF rfl ?_|refine Zk rfl rfl rfl ?_|refine QE rfl rfl rfl rfl rfl rfl ?_|refine ZA rfl rfl rfl (hC _) ?_|refine ZA rfl rfl rfl (hW _) ?_|refine ZH ?_|refine ZO ?_|refine ZL ?_)
 all_goals try contradiction
 all_goals try (exfalso;omega)
 refine ZX hA (by first|exact .inl rfl|exact .inr rfl) rfl rfl rfl rfl ?_
 rfl
theorem ZsR {st:St} {la b:Nat} {N:ZQ} (hN:GoodN N) (hR:Rd st la (b+5) N) {r:Ro} (hr:RtOk N r) (a:Int) (h0:0<=a) (h1:a<r.m.b) (hb:r.m.b<=1000000) {c:UInt8} (hc:0<=(ZLQ N r a).1.2/\(ZLQ N r a).1.2<(ZLQ N r a).1.1.length/\(ZLQ N r a).1.1[(ZLQ N r a).1.2.toNat]?=some c) :
 S Tb ZEG [.ptr la (b+5) 0 0 0,r.av,.int .i64 a] st=some (.tup [.int .u8 c.toNat,.int .i64 0],st):=by
 refine Z9 rfl (fun A hA=>?_)
 have hL:=fun L=>ZsQ hN (hR.push hA (ro:=false) (L:=L)) hr a h0 h1 hb
 generalize ZLQ N r a=R at *
 obtain ⟨c1,c2,c3⟩:=hc
 unfold Ro.av at *
 repeat' (first|refine ZE ?_|refine ZD ?_|refine ZG rfl ?_|refine ZV rfl rfl rfl rfl ?_|refine Z2 rfl ?_|refine Zf rfl rfl rfl rfl ?_|refine Zp rfl rfl ?_|refine ZB rfl ?_|refine ZC ?_|refine Qg rfl ?_|(refine Zg rfl rfl (fun _=>?_) (fun _=>?_)<;>try (exfalso;omega))|(refine JQ rfl rfl (fun _=>?_) (fun _=>?_)<;>try (exfalso;omega))|(refine Ze rfl rfl (fun _=>?_) (fun _=>?_)<;>try (exfalso;omega))|refine ZF rfl ?_|refine Zk rfl rfl rfl ?_|refine ZA rfl rfl rfl (hL _) ?_|refine Yl rfl rfl ⟨c1,c2⟩ c3 ?_|refine ZH ?_|refine ZO ?_|refine ZL ?_)
 all_goals try contradiction
 all_goals try (exfalso;omega)
 refine ZX hA (by first|exact .inl rfl|exact .inr rfl) rfl rfl rfl rfl ?_
 rfl
theorem Zj3 {N:ZQ} (hN:GoodN N) {r:Ro} {s:List UInt8} (h:Rt N r s) {a:Int} (h0:0<=a) (h1:a<s.length) :
 ∃ pre leaf post,s=pre++leaf++post/\(ZLQ N r a).1=(leaf,a-pre.length)/\(pre.length:Int)<=a/\a-pre.length<leaf.length:=by
 have hb:=(h.b hN).2
 obtain ⟨hz,x,x1,x2,x3,x4⟩:=h.rt.nz (by omega)
 have hs:ZFk N r=s:=h.tx;unfold ZFk at hs;rw [if_neg hz] at hs
 obtain ⟨pre,leaf,post,t1,t2,t3,t4,t5⟩:=ZTF comp_b comp_b hN r.h r.at_ x a x1 x3 h0 (by rw [x4];omega)
 have e:∀ l:List UInt8,(JK l).b=l.length:=fun l=>rfl
 rw [e] at t2 t3 t4;rw [e] at t4
 exact ⟨pre,leaf,post,by rw [<- hs,t1],t2,by omega,t4⟩
theorem ZsU {st:St} {la b:Nat} {N:ZQ} (hN:GoodN N) (hR:Rd st la (b+5) N) {r:Ro} {s:List UInt8} (h:Rt N r s) {i:Nat} {c:UInt8} (hi:s[i]?=some c) (hs:s.length<=100000) :
 S Tb ZEG [.ptr la (b+5) 0 0 0,r.av,.int .i64 i] st=some (.tup [.int .u8 c.toNat,.int .i64 0],st):=by
 have hil:=(List.getElem?_eq_some_iff.1 hi).1;have hmb:=(h.b hN).2
 obtain ⟨pre,leaf,post,t1,t2,t3,t4⟩:=Zj3 hN h (a:=(i:Int)) (by omega) (by omega)
 refine ZsR hN hR h.rt (i:Int) (by omega) (by omega) (by omega) ?_
 rw [t2]
 refine ⟨by simp only;omega,by simp only;omega,?_⟩
 simp only
 rw [t1,List.append_assoc,List.getElem?_append_right (by omega),jL (by omega)] at hi
 rw [show ((i:Int)-pre.length).toNat=i-pre.length by omega]
 exact hi
theorem Zgg {st:St} {la b:Nat} {N:ZQ} (hN:GoodN N) (hR:Rd st la (b+5) N) {r:Ro} {s:List UInt8} (h:Rt N r s) (hs:s.length<=100000) :
 S Tb Ym [.ptr la (b+5) 0 0 0,r.av,.int .i64 s.length] st=some (.tup [.bool true,.int .i64 0],st):=by
 have hm:=h.m hN
 have hmb:r.m.b=s.length:=by rw [hm];rfl
 refine Z9 rfl (fun A hA=>?_)
 have hC:=fun L=>ZDl (hR.push hA (ro:=false) (L:=L)) h.rt
 rw [<- hmb]
 unfold Ro.av at *
 repeat' (first|refine ZE ?_|refine ZD ?_|refine ZG rfl ?_|refine ZJ rfl rfl ?_|refine ZV rfl rfl rfl rfl ?_|refine Z2 rfl ?_|refine Zf rfl rfl rfl rfl ?_|refine ZB rfl ?_|refine ZC ?_|(refine Zg rfl rfl (fun _=>?_) (fun _=>?_)<;>try (exfalso;omega))|(refine QD rfl rfl (fun _=>?_) (fun _=>?_)<;>try (exfalso;omega))|(refine Zi rfl rfl (fun _=>?_) (fun _=>?_)<;>try (exfalso;omega))|(refine Ze rfl rfl (fun _=>?_) (fun _=>?_)<;>try (exfalso;omega))|refine ZS rfl ?_|refine ZF rfl ?_|refine Zk rfl rfl rfl ?_|refine ZA rfl rfl rfl (hC _) ?_|refine ZH ?_|refine ZO ?_|refine ZL ?_|refine ZU ?_)
 all_goals try contradiction
 all_goals try (exfalso;omega)
 refine ZX hA (by first|exact .inl rfl|exact .inr rfl) rfl rfl rfl rfl ?_
 rfl
theorem Zj4 {st:St} {la b:Nat} {N:ZQ} (hN:GoodN N) (hR:Rd st la (b+5) N) {r:Ro} {s:List UInt8} (h:Rt N r s) {i:Nat} {c:UInt8} (hi:s[i]?=some c) (hs:s.length<=100000) :
 S Tb Ym [.ptr la (b+5) 0 0 0,r.av,.int .i64 i] st=some (.tup [.bool (ZAc c),.int .i64 0],st):=by
 have hm:=h.m hN
 have hmb:r.m.b=s.length:=by rw [hm];rfl
 have hil:=(List.getElem?_eq_some_iff.1 hi).1
 have hbb:ZAc c=(decide (((c.toNat:Nat):Int)<128) || decide (191<((c.toNat:Nat):Int))):=by
  unfold ZAc
  apply Bool.eq_iff_iff.2
  simp
  omega
 refine Z9 rfl (fun A hA=>?_)
 have hC:=fun L=>ZDl (hR.push hA (ro:=false) (L:=L)) h.rt
 have hB:=fun L=>ZsU hN (hR.push hA (ro:=false) (L:=L)) h hi hs
 rw [hbb]
 by_cases q1:((c.toNat:Nat):Int)<128
 ·rw [decide_eq_true q1,Bool.true_or]
  unfold Ro.av at *
  repeat' (first|refine ZE ?_|refine ZD ?_|refine ZG rfl ?_|refine ZJ rfl rfl ?_|refine ZV rfl rfl rfl rfl ?_|refine Z2 rfl ?_|refine Q9 rfl rfl ?_|refine Zf rfl rfl rfl rfl ?_|refine Zp rfl rfl ?_|refine ZB rfl ?_|refine ZC ?_|(refine Zg rfl rfl (fun _=>?_) (fun _=>?_)<;>try (exfalso;omega))|(refine QD rfl rfl (fun _=>?_) (fun _=>?_)<;>try (exfalso;omega))|(refine Zi rfl rfl (fun _=>?_) (fun _=>?_)<;>try (exfalso;omega))|(refine Ze rfl rfl (fun _=>?_) (fun _=>?_)<;>try (exfalso;omega))|refine ZF rfl ?_|refine Zk rfl rfl rfl ?_|refine ZA rfl rfl rfl (hC _) ?_|refine ZA rfl rfl rfl (hB _) ?_|refine ZH ?_|refine ZO ?_|refine ZL ?_)
  all_goals try contradiction
  all_goals try (exfalso;omega)
  refine ZX hA (by first|exact .inl rfl|exact .inr rfl) rfl rfl rfl rfl ?_
  rfl
 ·by_cases q2:191<((c.toNat:Nat):Int)
  ·rw [decide_eq_true q2,Bool.or_true]
   unfold Ro.av at *
   repeat' (first|refine ZE ?_|refine ZD ?_|refine ZG rfl ?_|refine ZJ rfl rfl ?_|refine ZV rfl rfl rfl rfl ?_|refine Z2 rfl ?_|refine Zf rfl rfl rfl rfl ?_|refine Zp rfl rfl ?_|refine ZB rfl ?_|refine ZC ?_|(refine Zg rfl rfl (fun _=>?_) (fun _=>?_)<;>try (exfalso;omega))|(refine QD rfl rfl (fun _=>?_) (fun _=>?_)<;>try (exfalso;omega))|(refine Zi rfl rfl (fun _=>?_) (fun _=>?_)<;>try (exfalso;omega))|(refine Ze rfl rfl (fun _=>?_) (fun _=>?_)<;>try (exfalso;omega))|refine ZF rfl ?_|refine Zk rfl rfl rfl ?_|refine ZA rfl rfl rfl (hC _) ?_|refine ZA rfl rfl rfl (hB _) ?_|refine ZH ?_|refine ZO ?_|refine ZL ?_)
   all_goals try contradiction
   all_goals try (exfalso;omega)
   refine ZX hA (by first|exact .inl rfl|exact .inr rfl) rfl rfl rfl rfl ?_
   rfl
  ·rw [decide_eq_false q1,decide_eq_false q2,Bool.or_false]
   unfold Ro.av at *
   repeat' (first|refine ZE ?_|refine ZD ?_|refine ZG rfl ?_|refine ZJ rfl rfl ?_|refine ZV rfl rfl rfl rfl ?_|refine Z2 rfl ?_|refine Zf rfl rfl rfl rfl ?_|refine Zp rfl rfl ?_|refine ZB rfl ?_|refine ZC ?_|(refine Zg rfl rfl (fun _=>?_) (fun _=>?_)<;>try (exfalso;omega))|(refine QD rfl rfl (fun _=>?_) (fun _=>?_)<;>try (exfalso;omega))|(refine Zi rfl rfl (fun _=>?_) (fun _=>?_)<;>try (exfalso;omega))|(refine Ze rfl rfl (fun _=>?_) (fun _=>?_)<;>try (exfalso;omega))|refine ZF rfl ?_|refine Zk rfl rfl rfl ?_|refine ZA rfl rfl rfl (hC _) ?_|refine ZA rfl rfl rfl (hB _) ?_|refine ZH ?_|refine ZO ?_|refine ZL ?_)
   all_goals try contradiction
   all_goals try (exfalso;omega)
   refine ZX hA (by first|exact .inl rfl|exact .inr rfl) rfl rfl rfl rfl ?_
   rfl
section
variable {N:ZQ} {r:Ro} {s:List UInt8} {la b:Nat}
end
end Go.Q15
