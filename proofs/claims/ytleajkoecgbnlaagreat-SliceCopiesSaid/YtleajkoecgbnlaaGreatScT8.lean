/- A part of the proof: RH, RI, RJ, RK, M52, RL, S4, S5, S6, YX, W7, RN, RO, W8, RP, SA, SC, RS, RQ, RT, RU, RV, M18, PO, RW, RX, SO, RY, SPa, SPb, SPc, W9, SPd. No condition. -/
import Derived.Test.YtleajkoecgbnlaaGreatScT7
set_option linter.unusedVariables false
set_option linter.unusedSimpArgs false
namespace Go.Q15
open Go Go.QAbs
set_option maxRecDepth 100000
def Ext (N M:ZO):Prop:=∀ o x,lk N o=some x->lk M o=some x
theorem Ext.refl (N:ZO):Ext N N:=fun _ _ h=>h
theorem Ext.trans {N M K:ZO} (h:Ext N M) (g:Ext M K):Ext N K:=fun o x q=>g o x (h o x q)
theorem Val.ext {N M:ZO} (hs:Ext N M) {t:Tr} (hv:Val N t):Val M t:=by
 induction hv with
 | kept h0 hx hok hh hm hk=>exact .kept h0 (hs _ _ hx) hok hh hm hk
 | leaf h1 h2 hk=>exact .leaf h1 h2 hk
 | inner hh h2 h4 hl hb hv ih=>exact .inner hh h2 h4 hl hb ih
theorem ZIu {N M:ZO} (hN:GoodN N) (hs:Ext N M):∀ n o x,lk N o=some x->x.h=n->Qc M n o=Qc N n o:=by
 intro n
 induction n with
 | zero=>intro o x hx hh;rw [Qc,Qc,hx,hs _ _ hx]
 | succ n ih =>
  intro o x hx hh;rw [Qc,Qc,hx,hs _ _ hx];simp only [Option.map_some,Option.getD_some];have hk:=(hN o x hx).2
  have key:∀ l:List Kid,(∀ k∈l,k∈x.ks)->(l.flatMap fun k=>Qc M n k.at_)=l.flatMap fun k=>Qc N n k.at_:=by
   intro l
   induction l with
   | nil=>intro _;rfl
   | cons k l ih2 =>
    intro h
    obtain ⟨_,y,y1,y2,_⟩:=hk k (h k (by simp))
    rw [List.flatMap_cons,List.flatMap_cons,ih k.at_ y y1 (by omega),ih2 (fun q hq=>h q (by simp [hq]))]
  exact key _ fun _ h=>h
theorem ZUx {r:AR} (ho:AROk r) (hn:0<r.n) (x:Nd):Ext r.nodes (r.add x).nodes:=fun o y h=>by
 rw [ZFa ho hn,if_neg]
 ·exact h
 ·intro q;rw [q,ho.new hn] at h;simp at h
def ZQr (N:ZO) (x:Nd):Prop:=∀ k∈x.ks,∃ y,lk N k.at_=some y/\NdOk y/\y.h+1=x.h/\y.mea=k.m
theorem Zn7 {r:AR} (ho:AROk r) (hn:0<r.n) (hg:GoodN r.nodes) {x:Nd} (hx:NdOk x) (hk:ZQr r.nodes x) (h0:∀ k∈x.ks,k.at_≠0):GoodN (r.add x).nodes:=by
 intro o y h;have hE:=ZUx ho hn x;rw [ZFa ho hn] at h
 split at h
 ·simp only [oJ] at h
  subst h
  refine ⟨hx.copy,fun k hkk=>?_⟩
  have hkk':k∈x.ks:=hkk;obtain ⟨z,z1,z2,z3,z4⟩:=hk k hkk';exact ⟨h0 k hkk',z,hE _ _ z1,z3,z4⟩
 ·obtain ⟨h1,h2⟩:=hg o y h
  refine ⟨h1,fun k hkk=>?_⟩
  obtain ⟨g0,z,z1,z2,z3⟩:=h2 k hkk;exact ⟨g0,z,hE _ _ z1,z2,z3⟩
theorem AROk.hnd {r:AR} (h:AROk r) {o:Nat} {x:Nd} (hx:lk r.nodes o=some x):ZB3 o/\o≠0:=by
 obtain ⟨s,g,h1,h2,h3,h4⟩:=h.key o x hx;obtain ⟨g',g1,g2,g3⟩:=h.gen s h2;rw [h4] at g1;simp only [oJ] at g1
 have:=h.n16
 have:=h.most
 unfold ZB3;omega
def ZN0 (ρ:Nat->Ro) (k h:Nat):Nat->Ro:=fun i=>if i=k then (ρ i).wr h else ρ i
inductive RunOk:List It->AR->(Nat->Ro)->AR->(Nat->Ro)->List Nat->Prop
 | nil {r ρ}:RunOk [] r ρ r ρ []
 | cons {it its r ρ r' ρ' hs} (hn:0<r.n) (hx:NdOk (Q3 ρ it.c)) (hk:ZQr r.nodes (Q3 ρ it.c)) (h:RunOk its (r.add (Q3 ρ it.c)) (ZN0 ρ it.rx r.next) r' ρ' hs):RunOk (it::its) r ρ r' ρ' (r.next::hs)
theorem RunOk.append {i1 i2:List It} {r r1 r2:AR} {ρ ρ1 ρ2:Nat->Ro} {h1 h2:List Nat} (h:RunOk i1 r ρ r1 ρ1 h1) (g:RunOk i2 r1 ρ1 r2 ρ2 h2):RunOk (i1++i2) r ρ r2 ρ2 (h1++h2):=by
 induction h with
 | nil=>exact g
 | cons hn hx hk h ih=>exact .cons hn hx hk (ih g)
namespace Tr
mutual
def wr:Tr->AR->AR × Ro × List Nat
 | .mk o h m s k,r =>
  if o≠0 then (r,⟨o,h,m⟩,[])
  else if h=0 then (r.add ⟨0,s,none⟩,⟨r.next,0,JY s⟩,[r.next])
  else ((wrO k r).1.add ⟨h,[],some (wrO k r).2.1⟩,⟨(wrO k r).1.next,h,QJ ((wrO k r).2.1.map Kid.m)⟩,(wrO k r).2.2++[(wrO k r).1.next])
def wrO:Option (List Tr)->AR->AR × List Kid × List Nat
 | none,r=>(r,[],[])
 | some l,r=>wrL l r
def wrL:List Tr->AR->AR × List Kid × List Nat
 | [],r=>(r,[],[])
 | t::l,r=>((wrL l (t.wr r).1).1,(t.wr r).2.1.kid::(wrL l (t.wr r).1).2.1,(t.wr r).2.2++(wrL l (t.wr r).1).2.2)
end
end Tr
structure WrB (r:AR) (c:Nat) (r':AR) (hs:List Nat):Prop where
 ok:AROk r'
 good:GoodN r'.nodes
 ext:Ext r.nodes r'.nodes
 n:r'.n+c=r.n
 len:hs.length=c
 new:∀ h∈hs,lk r.nodes h=none
 all:∀ h x,lk r'.nodes h=some x->lk r.nodes h=some x\/h∈hs
 has:∀ h∈hs,∃ x,lk r'.nodes h=some x
 nodup:hs.Nodup
 frees:r'.frees=r.frees
 stale:r'.stale=r.stale
 slots:r'.slots=r.slots
 allocs:r'.allocs=r.allocs+c
 nl:r'.nodes.length=r.nodes.length+c
theorem WrB.refl {r:AR} (ho:AROk r) (hg:GoodN r.nodes):WrB r 0 r [] :=
 ⟨ho,hg,.refl _,by simp,rfl,fun h q=>by simp at q,fun h x q=>.inl q,fun h q=>by simp at q,by simp,rfl,rfl,rfl,by simp,by simp⟩
theorem WrB.trans {r r1 r2:AR} {c d:Nat} {h1 h2:List Nat} (h:WrB r c r1 h1) (g:WrB r1 d r2 h2):WrB r (c+d) r2 (h1++h2):=by
 refine ⟨g.ok,g.good,h.ext.trans g.ext,by have:=h.n;have:=g.n;omega,by rw [lL,h.len,g.len],fun o ho=>?_,fun o x ho=>?_,fun o ho=>?_,?_,g.frees.trans h.frees,g.stale.trans h.stale,g.slots.trans h.slots,by rw [g.allocs,h.allocs];omega,by rw [g.nl,h.nl];omega⟩
 ·rcases List.mem_append.1 ho with q|q
  ·exact h.new o q
  ·cases hk:lk r.nodes o with
   | none=>rfl
   | some x=>have:=g.new o q;rw [h.ext _ _ hk] at this;simp at this
 ·rcases g.all o x ho with q|q
  ·rcases h.all o x q with w|w
   ·exact .inl w
   ·exact .inr (by simp [w])
  ·exact .inr (by simp [q])
 ·rcases List.mem_append.1 ho with q|q
  ·obtain ⟨x,hx⟩:=h.has o q
   exact ⟨x,g.ext _ _ hx⟩
  ·exact g.has o q
 ·rw [List.nodup_append]
  refine ⟨h.nodup,g.nodup,fun x hx y hy e=>?_⟩
  subst e;obtain ⟨z,hz⟩:=h.has x hx;rw [g.new x hy] at hz
  simp at hz
theorem WrB.one {r:AR} (ho:AROk r) (hn:0<r.n) (hg:GoodN r.nodes) {x:Nd} (hx:NdOk x) (hk:ZQr r.nodes x) (h0:∀ k∈x.ks,k.at_≠0):WrB r 1 (r.add x) [r.next]:=by
 refine ⟨ho.add hn x,Zn7 ho hn hg hx hk h0,ZUx ho hn x,?_,rfl,fun o q=>?_,fun o y q=>?_,fun o q=>?_,by simp,rfl,rfl,rfl,rfl,by simp [AR.add,AR.alloc]⟩
 ·show r.n-1+1=r.n;omega
 ·simp only [List.mem_singleton] at q;subst q;exact ho.new hn
 ·rw [ZFa ho hn] at q
  split at q
  ·rename_i e;exact .inr (by simp [e])
  ·exact .inl q
 ·simp only [List.mem_singleton] at q
  exact ⟨x.copy,by rw [ZFa ho hn,if_pos q]⟩
end Go.Q15
namespace Go.Q15
open Go Go.QAbs
set_option maxRecDepth 100000
structure WrOk (N:ZO) (t:Tr) (r':AR) (ro:Ro):Prop where
 rm:ro.m=t.mea
 rh:ro.h=t.h
 live:∃ y,lk r'.nodes ro.at_=some y/\NdOk y/\y.h=t.h/\y.mea=t.mea
 txt:Qc r'.nodes t.h ro.at_=t.txt N
def Exec (N:ZO) (t:Tr):Prop:=∀ (r:AR),AROk r->GoodN r.nodes->Ext N r.nodes->t.cnt<=r.n->∀ (rx:Nat) (its:List It) (R:List (Nat × Ro)) (ρ:Nat->Ro),AddT t rx its R->(∀ p∈R,ρ p.1=p.2)->(R.map Prod.fst).Nodup ->
 ∃ ρ',RunOk its r ρ (t.wr r).1 ρ' (t.wr r).2.2/\ρ' rx=(t.wr r).2.1/\(∀ k,k∉R.map Prod.fst->ρ' k=ρ k)/\WrB r t.cnt (t.wr r).1 (t.wr r).2.2/\WrOk N t (t.wr r).1 (t.wr r).2.1
structure WrLs (N:ZO) (l:List Tr) (h:Nat) (r':AR) (ks:List Kid):Prop where
 len:ks.length=l.length
 m:ks.map Kid.m=l.map Tr.mea
 ok:∀ k∈ks,KidOk h k/\k.at_≠0/\∃ y,lk r'.nodes k.at_=some y/\NdOk y/\y.h=h/\y.mea=k.m
 txt:(ks.flatMap fun k=>Qc r'.nodes h k.at_)=Tr.txtL N l
theorem Zsm {N:ZO} (hN:GoodN N) {h:Nat}:∀ (l:List Tr),(∀ u∈l,Val N u/\u.h=h/\Big u)->(∀ u∈l,Exec N u)->∀ (r:AR),AROk r->GoodN r.nodes->Ext N r.nodes->Tr.cntL l<=r.n->∀ (rs:List Nat) (its:List It) (R:List (Nat × Ro)) (ρ:Nat->Ro),AddL l rs its R->(∀ p∈R,ρ p.1=p.2)->(R.map Prod.fst).Nodup ->
 ∃ ρ',RunOk its r ρ (Tr.wrL l r).1 ρ' (Tr.wrL l r).2.2/\(rs.map fun k=>(ρ' k).kid)=(Tr.wrL l r).2.1/\(∀ k,k∉R.map Prod.fst->ρ' k=ρ k)/\WrB r (Tr.cntL l) (Tr.wrL l r).1 (Tr.wrL l r).2.2/\WrLs N l h (Tr.wrL l r).1 (Tr.wrL l r).2.1:=by
 intro l
 induction l with
 | nil =>
  intro _ _ r ho hg hE hc rs its R ρ ha hR hnd
  cases ha
  exact ⟨ρ,.nil,rfl,fun _ _=>rfl,.refl ho hg,⟨rfl,rfl,fun k hk=>by simp [Tr.wrL] at hk,rfl⟩⟩
 | cons t l ih =>
  intro hv hx r ho hg hE hc rs its R ρ ha hR hnd
  cases ha with
  | @cons _ _ rx rs i1 i2 R1 R2 ht hl =>
   rw [Tr.cntL] at hc;rw [List.map_append,List.nodup_append] at hnd;obtain ⟨nd1,nd2,nd3⟩:=hnd
   obtain ⟨ρ1,a1,a2,a3,a4,a5⟩:=hx t (by simp) r ho hg hE (by omega) rx i1 R1 ρ ht (fun p hp=>hR p (by simp [hp])) nd1
   have hn1:=a4.n
   have hd:∀ p∈R2,p.1∉R1.map Prod.fst:=fun p hp q=>nd3 _ q _ (List.mem_map.2 ⟨p,hp,rfl⟩) rfl
   obtain ⟨ρ2,b1,b2,b3,b4,b5⟩:=ih (fun u hu=>hv u (by simp [hu])) (fun u hu=>hx u (by simp [hu])) _ a4.ok a4.good (hE.trans a4.ext) (by omega) rs i2 R2 ρ1 hl (fun p hp=>by rw [a3 _ (hd p hp)];exact hR p (by simp [hp])) nd2
   obtain ⟨rr,hrr,_,_⟩:=ht.root
   have hrx:rx∉R2.map Prod.fst:=fun q=>nd3 rx (List.mem_map.2 ⟨_,hrr,rfl⟩) rx q rfl
   obtain ⟨v1,v2,v3⟩:=hv t (by simp)
   refine ⟨ρ2,a1.append b1,?_,?_,?_,?_⟩
   ·rw [jC,b3 rx hrx,a2,b2];rfl
   ·intro k hk
    rw [List.map_append,List.mem_append,not_or] at hk;rw [b3 k hk.2,a3 k hk.1]
   ·rw [Tr.cntL];exact a4.trans b4
   ·obtain ⟨y,y1,y2,y3,y4⟩:=a5.live
    have hh:=a4.ok.hnd y1;have hkm:((t.wr r).2.1.kid).m=t.mea:=a5.rm;have hka:((t.wr r).2.1.kid).at_=(t.wr r).2.1.at_:=rfl
    refine ⟨by show _+1=_;rw [b5.len];rfl,?_,?_,?_⟩
    ·show ((t.wr r).2.1.kid).m::_=_
     rw [hkm,b5.m];rfl
    ·intro k hk
     rcases List.mem_cons.1 hk with rfl|q
     ·refine ⟨?_,hh.2,y,b4.ext _ _ y1,y2,by rw [y3,v2],by rw [y4];exact hkm.symm⟩
      have hs:=v1.size hN v3;have hb:=v1.mea_ok.1
      have:=y2.kid (a:=(t.wr r).2.1.at_) (by rw [y3,y4,hb];exact hs) hh.1
      rw [y3,v2,y4,<- a5.rm] at this;exact this
     ·exact b5.ok k q
    ·show Qc (Tr.wrL l (t.wr r).1).1.nodes h (t.wr r).2.1.at_++((Tr.wrL l (t.wr r).1).2.1.flatMap fun k=>Qc (Tr.wrL l (t.wr r).1).1.nodes h k.at_)=_
     rw [b5.txt,Tr.txtL,<- a5.txt,v2]
     congr 1
     exact ZIu a4.good b4.ext h _ y y1 (by rw [y3,v2])
theorem exec_ok {N:ZO} (hN:GoodN N) {t:Tr} (hv:Val N t):t.bytes<=65536->Exec N t:=by
 induction hv with
 | @kept o h m k x h0 hx hok hh hm hk =>
  intro _ r ho hg hE hc rx its R ρ ha hR hnd
  have e:(Tr.mk o h m [] k).wr r=(r,⟨o,h,m⟩,[]):=by rw [Tr.wr,if_pos h0]
  have ec:(Tr.mk o h m [] k).cnt=0:=by rw [Tr.cnt,Tr.cntO_getD,hk,if_neg h0];rfl
  rw [e,ec]
  cases ha with
  | kept _ =>
   refine ⟨ρ,.nil,hR (rx,⟨o,h,m⟩) (by simp),fun _ _=>rfl,.refl ho hg,⟨(ZNz h0).symm,rfl,⟨x,hE _ _ hx,hok,hh,by rw [ZNz h0];exact hm⟩,?_⟩⟩
   show Qc r.nodes h o=_
   rw [ZIu hN hE h o x hx hh,Tr.txt,if_neg h0,Tr.txtO_getD,hk]
   simp [Tr.txtL]
  | leaf=>exact absurd rfl h0
  | inner=>exact absurd rfl h0
 | @leaf s k h1 h2 hk =>
  intro _ r ho hg hE hc rx its R ρ ha hR hnd
  have e:(Tr.mk 0 0 .zero s k).wr r=(r.add ⟨0,s,none⟩,⟨r.next,0,JY s⟩,[r.next]):=by rw [Tr.wr];simp
  have ec:(Tr.mk 0 0 .zero s k).cnt=1:=by rw [Tr.cnt,Tr.cntO_getD,hk];rfl
  rw [ec] at hc;rw [e,ec];have hx:NdOk ⟨0,s,none⟩:=.inl ⟨rfl,h1,h2,rfl⟩
  cases ha with
  | kept h0=>exact absurd rfl h0
  | leaf =>
   have hρ:ρ rx=⟨0,0,JY s⟩:=hR (rx,⟨0,0,JY s⟩) (by simp)
   refine ⟨ZN0 ρ rx r.next,.cons (by omega) hx (fun k hk=>by simp [Q3,Nd.ks] at hk) .nil,?_,fun k hk=>?_,.one ho (by omega) hg hx (fun k hk=>by simp [Nd.ks] at hk) (fun k hk=>by simp [Nd.ks] at hk),⟨(ZNy s k).symm,rfl,⟨(⟨0,s,none⟩:Nd).copy,?_,hx.copy,rfl,?_⟩,?_⟩⟩
   ·simp only [ZN0,if_true,hρ];rfl
   ·simp only [jC,List.map_nil,List.mem_singleton] at hk
    simp only [ZN0,if_neg hk]
   ·rw [ZFa ho (by omega),if_pos rfl]
   ·rw [ZNy];rfl
   ·show Qc _ 0 r.next=_
    rw [Qc,ZFa ho (by omega),if_pos rfl,Tr.txt,if_pos rfl,Tr.txtO_getD,hk]
    simp [Tr.txtL,Nd.copy]
 | @inner h l hh h2 h4 hl hb hv ih =>
  intro hb2 r ho hg hE hc rx its R ρ ha hR hnd
  have eb:(Tr.mk 0 (h+1) .zero [] (some l)).bytes=Tr.bytesL l:=by rw [Tr.bytes,Tr.bytesO];simp [Mea.zero]
  have hbs:∀ u∈l,u.bytes<=65536:=fun u hu=>by
   obtain ⟨i,hi,rfl⟩:=List.getElem_of_mem hu
   have h3:Tr.bytesL l=Tr.bytesL (l.take i)+(l[i].bytes+Tr.bytesL (l.drop (i+1))):=by
    conv=>lhs;rw [<- List.take_append_drop (i+1) l,Zc (jE hi),Tr.bytesL_append,Tr.bytesL_append]
    simp [Tr.bytesL];omega
   have n1:=Tr.bytesL_nonneg (l:=l.take i) (fun t ht=>by have:=(hv t (List.mem_of_mem_take ht)).pos.2;omega)
   have n2:=Tr.bytesL_nonneg (l:=l.drop (i+1)) (fun t ht=>by have:=(hv t (List.mem_of_mem_drop ht)).pos.2;omega)
   omega
  have ec:(Tr.mk 0 (h+1) .zero [] (some l)).cnt=Tr.cntL l+1:=by rw [Tr.cnt,Tr.cntO];simp;omega
  rw [ec] at hc
  have hbl:(QJ (l.map Tr.mea)).b=Tr.bytesL l:=Zjh l fun u hu=>(hv u hu).mea_ok.1
  have e:(Tr.mk 0 (h+1) .zero [] (some l)).wr r=((Tr.wrL l r).1.add ⟨h+1,[],some (Tr.wrL l r).2.1⟩,⟨(Tr.wrL l r).1.next,h+1,QJ ((Tr.wrL l r).2.1.map Kid.m)⟩,(Tr.wrL l r).2.2++[(Tr.wrL l r).1.next]):=by
   rw [Tr.wr];simp [Tr.wrO]
  rw [e,ec]
  cases ha with
  | kept h0=>exact absurd rfl h0
  | @inner _ _ _ rs i1 R1 hal hn1 hx1 =>
   obtain ⟨ρ1,a1,a2,a3,a4,a5⟩:=Zsm hN l (fun u hu=>⟨hv u hu,hl u hu,fun q=>hb u hu (by rw [<- hl u hu];exact q)⟩) (fun u hu=>ih u hu (hbs u hu)) r ho hg hE (by omega) rs i1 R1 ρ hal (fun p hp=>hR p (by simp [hp])) hn1
   have hρ:ρ1 rx=⟨0,h+1,QJ (l.map Tr.mea)⟩:=by rw [a3 rx hx1];exact hR (rx,⟨0,h+1,QJ (l.map Tr.mea)⟩) (by simp)
   have hn:0<(Tr.wrL l r).1.n:=by have:=a4.n;omega
   generalize hks:(Tr.wrL l r).2.1=ks at *
   generalize (Tr.wrL l r).1=r1 at *
   have hx:NdOk ⟨h+1,[],some ks⟩:=.inr ⟨h,ks,rfl,by omega,by have:=a5.len;omega,by have:=a5.len;omega,fun k hk=>(a5.ok k hk).1,by rw [a5.m,hbl];omega⟩
   have hki:ZQr r1.nodes ⟨h+1,[],some ks⟩:=fun k hk=>by
    obtain ⟨_,_,y,y1,y2,y3,y4⟩:=a5.ok k hk
    exact ⟨y,y1,y2,by show y.h+1=h+1;omega,y4⟩
   have hnd2:Q3 ρ1 (.inn (h+1) rs)=⟨h+1,[],some ks⟩:=by rw [Q3,a2]
   have hrun:RunOk [⟨rx,.inn (h+1) rs⟩] r1 ρ1 (r1.add ⟨h+1,[],some ks⟩) (ZN0 ρ1 rx r1.next) [r1.next]:=by
    have:=RunOk.cons (it:=⟨rx,.inn (h+1) rs⟩) (ρ:=ρ1) hn (by rw [hnd2];exact hx) (by rw [hnd2];exact hki) .nil
    rw [hnd2] at this;exact this
   refine ⟨ZN0 ρ1 rx r1.next,a1.append hrun,?_,fun k hk=>?_,a4.trans (.one a4.ok hn a4.good hx hki (fun k hk=>(a5.ok k hk).2.1)),⟨?_,rfl,⟨(⟨h+1,[],some ks⟩:Nd).copy,?_,hx.copy,rfl,?_⟩,?_⟩⟩
   ·simp only [ZN0,if_true,hρ,Ro.wr,a5.m]
   ·rw [List.map_append,List.mem_append,not_or] at hk
    have:k≠rx:=fun q=>hk.2 (by simp [q])
    simp only [ZN0,if_neg this];exact a3 k hk.1
   ·rw [Zf1]
    show QJ (ks.map Kid.m)=_
    rw [a5.m]
   ·rw [ZFa a4.ok hn,if_pos rfl]
   ·rw [Zf1,<- a5.m];rfl
   ·show Qc _ (h+1) r1.next=_
    rw [Qc,ZFa a4.ok hn,if_pos rfl,Tr.txt,if_pos rfl,Tr.txtO,<- a5.txt]
    show (ks.flatMap fun k=>Qc (r1.add _).nodes h k.at_)=_
    have key:∀ m:List Kid,(∀ k∈m,k∈ks)->(m.flatMap fun k=>Qc (r1.add ⟨h+1,[],some ks⟩).nodes h k.at_)=m.flatMap fun k=>Qc r1.nodes h k.at_:=by
     intro m
     induction m with
     | nil=>intro _;rfl
     | cons k m ih2 =>
      intro q
      obtain ⟨_,_,y,y1,y2,y3,y4⟩:=a5.ok k (q k (by simp))
      rw [List.flatMap_cons,List.flatMap_cons,ZIu a4.good (ZUx a4.ok hn _) h k.at_ y y1 y3,ih2 (fun w hw=>q w (by simp [hw]))]
    exact key ks fun _ h=>h
set_option maxHeartbeats 8000000
theorem ClsOk.get {n ip:Nat} {F:List (Nat × Blk)} {cs:List AV} {is:List It} (h:ClsOk n ip F cs is):∀ {j:Nat} {it:It},is[j]?=some it->∃ c,cs[j]?=some c/\ClOk n ip F c it:=by
 induction h with
 | nil=>intro j it hj;simp at hj
 | cons hc ht ih =>
  intro j it hj
  cases j with
  | zero =>
   simp only [List.getElem?_cons_zero,oJ] at hj;subst hj;exact ⟨_,rfl,hc⟩
  | succ j=>exact ih hj
def TdOk (st:St) (n tx ver j:Nat) (cls:List AV) (td:AV):Prop:=(cls=[]/\td=.nils)\/(cls≠[]/\td=.ref n tx ver j (cls.length-j)/\st.get n tx=some (.arr 1 ver cls))
structure PenS (st:St) (n ip tx ver la b:Nat) (cls:List AV) (its:List It) (F:List (Nat × Blk)) (keys:List Nat) (rx:Nat) (ρ:Nat->Ro) (j:Nat):Prop where
 wr:st.wr n
 pen:∃ td,st.get n ip=some (.arr 3 0 [.agg [.ptr la (b+5) 0 0 0,td,.ptr n rx 0 0 0]])/\TdOk st n tx ver j cls td
 cl:ClsOk n ip F cls its
 fx:∀ p∈F,st.get n p.1=some p.2
 rts:∀ k∈keys,st.get n k=some (.arr 5 0 [(ρ k).av])
 key:∀ it∈its,it.rx∈keys/\∀ k∈Zji it.c,k∈keys
 rk:rx∈keys
 s1:∀ k∈keys,k≠ip/\k≠tx
 s2:tx≠ip
 s3:∀ p∈F,p.1∉keys/\p.1≠ip/\p.1≠tx
 ar:∀ i,i=ip\/(cls≠[]/\i=tx)\/i∈keys\/(∃ p∈F,i=p.1)->¬ (n=la/\b<=i/\i<=b+5)
 len:cls.length<1000000
 jl:j<=cls.length
theorem Zr6 {st:St} {n ip tx ver la b:Nat} {cls:List AV} {its:List It} {F:List (Nat × Blk)} {keys:List Nat} {rx:Nat} {ρ:Nat->Ro} {j:Nat} (h:PenS st n ip tx ver la b cls its F keys rx ρ j) (hj:j=cls.length):S Tb ZA8 [.ptr n ip 0 0 0] st=some (.tup [(ρ rx).av,.int .i64 0],st):=by
 obtain ⟨td,h1,h2⟩:=h.pen;have h3:=h.rts rx h.rk
 refine QI rfl (fun A hA=>?_)
 have g1:=fun L=>ZX hA (ro:=false) (L:=L) h1
 have g3:=fun L=>ZX hA (ro:=false) (L:=L) h3
 unfold Ro.av at g3 ⊢
 rcases h2 with ⟨_,rfl⟩|⟨_,rfl,_⟩
 all_goals repeat' (first|refine ZE ?_|refine ZD ?_|refine ZG rfl ?_|refine ZQ rfl rfl ?_|refine ZB rfl ?_|refine ZC ?_|refine Z8 rfl rfl ?_|refine Qr rfl ?_|refine J4 rfl ?_|(refine Qd rfl rfl (fun _=>?_) (fun _=>?_)<;>try (exfalso;omega))|refine ZH rfl ?_|refine JN rfl rfl rfl rfl ?_|refine Zh rfl rfl rfl ?_|refine Zw rfl rfl rfl rfl rfl rfl ?_|refine QA rfl (g1 _) rfl rfl ?_|refine QA rfl (g3 _) rfl rfl ?_|refine ZI ?_|refine ZP ?_|refine ZJ ?_)
 all_goals try (exfalso;omega)
 all_goals refine Xm hA (by first|exact .inl rfl|exact .inr rfl) rfl rfl rfl rfl rfl ?_
 all_goals rfl
def ZFc (st:St) (n ip tx ver la b:Nat) (len:Nat) (rx:Nat) (r':AR) (k:Nat) (ro:Ro) (j:Nat):St :=
 ((Qk st la b r').upd n k (.arr 5 0 [ro.av])).upd n ip (.arr 3 0 [.agg [.ptr la (b+5) 0 0 0,.ref n tx ver (j+1) (len-j-1),.ptr n rx 0 0 0]])
theorem PenS.step {st:St} {n ip tx ver la b:Nat} {cls:List AV} {its:List It} {F:List (Nat × Blk)} {keys:List Nat} {rx:Nat} {ρ:Nat->Ro} {j:Nat} (h:PenS st n ip tx ver la b cls its F keys rx ρ j) {r:AR} (hA:Has st la b r) (ho:AROk r) (hn:0<r.n) {it:It} (hj:its[j]?=some it)
 (hx:NdOk (Q3 ρ it.c)) (hk:ZQr r.nodes (Q3 ρ it.c)) :
 S Tb XQ [.ptr n ip 0 0 0] st=some (.tup [.int .u64 r.next,.bool (decide (cls.length=j+1)),.int .i64 0],ZFc st n ip tx ver la b cls.length rx (r.add (Q3 ρ it.c)) it.rx ((ρ it.rx).wr r.next) j) /\
 PenS (ZFc st n ip tx ver la b cls.length rx (r.add (Q3 ρ it.c)) it.rx ((ρ it.rx).wr r.next) j) n ip tx ver la b cls its F keys rx (ZN0 ρ it.rx r.next) (j+1) /\
 Has (ZFc st n ip tx ver la b cls.length rx (r.add (Q3 ρ it.c)) it.rx ((ρ it.rx).wr r.next) j) la b (r.add (Q3 ρ it.c)):=by
 obtain ⟨td,h1,h2⟩:=h.pen;obtain ⟨cl,c1,c2⟩:=h.cl.get hj;have hjl:=(List.getElem?_eq_some_iff.1 c1).1;have hm:=jM hj;obtain ⟨k1,k2⟩:=h.key it hm;have hrx:=h.rts it.rx k1;have hrp:=h.s1 it.rx k1
 have hne:cls≠[]:=fun q=>by rw [q] at c1;simp at c1
 rcases h2 with ⟨q,_⟩|⟨_,rfl,h3⟩
 ·exact absurd q hne
 have hS:=Zr5 (it:=it) (ρ:=ρ) (b0:=0) (b1:=0) (b2:=0) (cv:=.nils) h3 c1 c2 h.len h1 h.fx (fun k hk=>h.rts k (k2 k hk)) hrx hA ho hn hx hk h.wr (fun i hi=>h.ar i (by
  rcases hi with rfl|rfl|rfl|q
  ·exact .inr (.inr (.inl k1))
  ·exact .inl rfl
  ·exact .inr (.inl ⟨hne,rfl⟩)
  ·exact .inr (.inr (.inr q)))) ⟨hrp.1,hrp.2,h.s2⟩
 have a1:∀ i,¬ (n=la/\b<=i/\i<=b+5)->(Qk st la b (r.add (Q3 ρ it.c))).get n i=st.get n i:=fun i hi=>hA.out _ hi
 have g1:∀ l' i',((Qk st la b (r.add (Q3 ρ it.c))).upd n it.rx (.arr 5 0 [((ρ it.rx).wr r.next).av])).get l' i'=if l'=n/\i'=it.rx then some (.arr 5 0 [((ρ it.rx).wr r.next).av]) else (Qk st la b (r.add (Q3 ρ it.c))).get l' i' :=
  fun l' i'=>St.get_upd ((a1 _ (h.ar _ (.inr (.inr (.inl k1))))).trans hrx) rfl
 have hp0:((Qk st la b (r.add (Q3 ρ it.c))).upd n it.rx (.arr 5 0 [((ρ it.rx).wr r.next).av])).get n ip=_:=(g1 n ip).trans ((if_neg (fun q=>hrp.1 q.2.symm)).trans ((a1 _ (h.ar _ (.inl rfl))).trans h1))
 have g2:∀ l' i',(ZFc st n ip tx ver la b cls.length rx (r.add (Q3 ρ it.c)) it.rx ((ρ it.rx).wr r.next) j).get l' i'=if l'=n/\i'=ip then some (.arr 3 0 [.agg [.ptr la (b+5) 0 0 0,.ref n tx ver (j+1) (cls.length-j-1),.ptr n rx 0 0 0]]) else if l'=n/\i'=it.rx then some (.arr 5 0 [((ρ it.rx).wr r.next).av]) else (Qk st la b (r.add (Q3 ρ it.c))).get l' i':=fun l' i'=>by
  rw [ZFc,St.get_upd hp0 rfl,g1]
 have hw1:(Qk st la b (r.add (Q3 ρ it.c))).wr n:=ZNg hA.cl.wr h.wr;have hwl:(Qk st la b (r.add (Q3 ρ it.c))).wr la:=(hA.put _).wr
 have hw2:∀ {l:Nat},(Qk st la b (r.add (Q3 ρ it.c))).wr l->(ZFc st n ip tx ver la b cls.length rx (r.add (Q3 ρ it.c)) it.rx ((ρ it.rx).wr r.next) j).wr l:=fun w=>St.wr_upd (St.wr_upd hw1 hw1) (St.wr_upd hw1 w)
 refine ⟨hS,⟨hw2 hw1,⟨_,by rw [g2,if_pos ⟨rfl,rfl⟩,Nat.sub_sub],.inr ⟨hne,rfl,?_⟩⟩,h.cl,fun p hp=>?_,fun k hk=>?_,h.key,h.rk,h.s1,h.s2,h.s3,h.ar,h.len,hjl⟩,?_⟩
 ·rw [g2,if_neg (fun q=>h.s2 q.2),if_neg (fun q=>hrp.2 q.2.symm),a1 _ (h.ar _ (.inr (.inl ⟨hne,rfl⟩)))];exact h3
 ·obtain ⟨q1,q2,q3⟩:=h.s3 p hp
  rw [g2,if_neg (fun q=>q2 q.2),if_neg (fun q=>q1 (by rw [q.2];exact k1)),a1 _ (h.ar _ (.inr (.inr (.inr ⟨p,hp,rfl⟩))))];exact h.fx p hp
 ·obtain ⟨q1,q2⟩:=h.s1 k hk
  rw [g2,if_neg (fun q=>q1 q.2)]
  unfold ZN0
  by_cases e:k=it.rx
  ·subst e;rw [if_pos ⟨rfl,rfl⟩,if_pos rfl]
  ·rw [if_neg (fun q=>e q.2),if_neg e,a1 _ (h.ar _ (.inr (.inr (.inl hk))))];exact h.rts k hk
 ·have hP:=hA.put (r.add (Q3 ρ it.c))
  have n1:∀ i,b<=i->i<=b+5->¬ (la=n/\i=ip)/\¬ (la=n/\i=it.rx):=fun i i1 i2=>⟨fun q=>h.ar ip (.inl rfl) ⟨q.1.symm,by omega,by omega⟩,fun q=>h.ar it.rx (.inr (.inr (.inl k1))) ⟨q.1.symm,by omega,by omega⟩⟩
  have gg:∀ i,b<=i->i<=b+5->(ZFc st n ip tx ver la b cls.length rx (r.add (Q3 ρ it.c)) it.rx ((ρ it.rx).wr r.next) j).get la i=(Qk st la b (r.add (Q3 ρ it.c))).get la i:=fun i i1 i2=>by
   rw [g2,if_neg (n1 i i1 i2).1,if_neg (n1 i i1 i2).2]
  exact ⟨hw2 hwl,(gg _ (by omega) (by omega)).trans hP.h0,(gg _ (by omega) (by omega)).trans hP.h1,(gg _ (by omega) (by omega)).trans hP.h2,(gg _ (by omega) (by omega)).trans hP.h3,(gg _ (by omega) (by omega)).trans hP.h4,(gg _ (by omega) (by omega)).trans hP.h5⟩
theorem ZEO {A:List (Bool × List Blk)} {ro:Bool} {L:List Blk} {lv ix:Nat} {b:Blk} (T:List Blk) (h:St.get ⟨A,ro,L⟩ lv ix=some b):St.get ⟨A,ro,L++T⟩ lv ix=some b:=by
 unfold St.get at h ⊢
 simp only at h ⊢
 split
 ·rename_i q
  rw [if_pos q] at h;have h2:=(ZB2 h).1;rw [jL (List.getElem?_eq_some_iff.1 h2).1];exact h
 ·rename_i q
  rw [if_neg q] at h;exact h
theorem HasR.app {A:List (Bool × List Blk)} {ro:Bool} {L:List Blk} {la b:Nat} {r:AR} (h:HasR ⟨A,ro,L⟩ la b r) (T:List Blk):HasR ⟨A,ro,L++T⟩ la b r :=
 ⟨ZEO T h.h0,ZEO T h.h1,ZEO T h.h2,ZEO T h.h3,ZEO T h.h4,ZEO T h.h5⟩
mutual
theorem AddT.keys:∀ {t:Tr} {rx:Nat} {its:List It} {R:List (Nat × Ro)},AddT t rx its R->rx∈R.map Prod.fst/\∀ it∈its,it.rx∈R.map Prod.fst/\∀ k∈Zji it.c,k∈R.map Prod.fst
 | _,_,_,_,.kept h0=>⟨by simp,fun it h=>by simp at h⟩
 | _,_,_,_,.leaf=>⟨by simp,fun it h=>by simp only [List.mem_singleton] at h;subst h;exact ⟨by simp,fun k hk=>by simp [Zji] at hk⟩⟩
 | _,_,_,_,.inner hl hn hx=>by
  obtain ⟨h1,h2⟩:=AddL.keys hl
  refine ⟨by simp,fun it h=>?_⟩
  rcases List.mem_append.1 h with q|q
  ·obtain ⟨a1,a2⟩:=h2 it q
   exact ⟨by rw [List.map_append];exact List.mem_append_left _ a1,fun k hk=>by rw [List.map_append];exact List.mem_append_left _ (a2 k hk)⟩
  ·simp only [List.mem_singleton] at q
   subst q
   exact ⟨by simp,fun k hk=>by rw [List.map_append];exact List.mem_append_left _ (h1 k hk)⟩
theorem AddL.keys:∀ {l:List Tr} {rs:List Nat} {its:List It} {R:List (Nat × Ro)},AddL l rs its R->(∀ r∈rs,r∈R.map Prod.fst)/\∀ it∈its,it.rx∈R.map Prod.fst/\∀ k∈Zji it.c,k∈R.map Prod.fst
 | _,_,_,_,.nil=>⟨fun r h=>by simp at h,fun it h=>by simp at h⟩
 | _,_,_,_,.cons ht hl=>by
  obtain ⟨a1,a2⟩:=ht.keys;obtain ⟨b1,b2⟩:=hl.keys
  refine ⟨fun r h=>?_,fun it h=>?_⟩
  ·rw [List.map_append]
   rcases List.mem_cons.1 h with rfl|q
   ·exact List.mem_append_left _ a1
   ·exact List.mem_append_right _ (b1 r q)
  ·rw [List.map_append]
   rcases List.mem_append.1 h with q|q
   ·exact ⟨List.mem_append_left _ (a2 it q).1,fun k hk=>List.mem_append_left _ ((a2 it q).2 k hk)⟩
   ·exact ⟨List.mem_append_right _ (b2 it q).1,fun k hk=>List.mem_append_right _ ((b2 it q).2 k hk)⟩
end
def Zr7 (R:List (Nat × Ro)) (k:Nat):Ro:=((R.find? fun p=>p.1 == k).map Prod.snd).getD .zero
theorem Zf2:∀ {R:List (Nat × Ro)},(R.map Prod.fst).Nodup->∀ p∈R,Zr7 R p.1=p.2
 | [],_,p,hp=>by simp at hp
 | q::R,hn,p,hp=>by
  rw [jC,List.nodup_cons] at hn;unfold Zr7;rw [List.find?_cons]
  rcases List.mem_cons.1 hp with rfl|w
  ·simp
  ·have:q.1≠p.1:=fun e=>hn.1 (by rw [e];exact List.mem_map.2 ⟨p,w,rfl⟩)
   rw [show (q.1 == p.1)=false by simp [this]]
   exact Zf2 hn.2 p w
def PI (t:Tr) (its:List It) (rx:Nat) (ρ:Nat->Ro):Prop:=(IsEmpty t/\its=[]/\ρ rx=.zero)\/(∃ N,Val N t)/\∃ R,AddT t rx its R/\(∀ p∈R,ρ p.1=p.2)/\(R.map Prod.fst).Nodup
def nw (t:Tr):Nat:=if t.old=0/\t.h=0/\t.text=[] then 0 else t.cnt
theorem ZFd {N:ZO} {t:Tr} (hv:Val N t):nw t=t.cnt:=by
 unfold nw
 cases hv with
 | kept h0=>rw [if_neg];simp [Tr.old,h0]
 | leaf h1=>rw [if_neg];rintro ⟨_,_,q⟩;simp only [Tr.text] at q;rw [q] at h1;simp at h1
 | inner=>rw [if_neg];simp [Tr.h]
structure Begun (A:List (Bool × List Blk)) (L L2:List Blk) (la b:Nat) (t:Tr) (tx ver:Nat) (cs:List AV) (its:List It) (F:List (Nat × Blk)) (keys:List Nat) (rx:Nat) (ρ:Nat->Ro):Prop where
 ps:PenS ⟨A,false,L2⟩ A.length (L.length+1) tx ver la b cs its F keys rx ρ 0
 len:L.length+2<=L2.length
 old:∀ i,i<L.length->L2[i]?=L[i]?
 klo:∀ k∈keys,L.length+2<=k
 flo:∀ p∈F,L.length+2<=p.1
 tlo:cs≠[]->L.length+2<=tx
 pi:PI t its rx ρ
theorem Zlx {N:ZO} {A:List (Bool × List Blk)} {L:List Blk} {la b:Nat} {r:AR} (hA:HasR ⟨A,false,L⟩ la b r) (hN:r.n<=r.blk.length) (h16:r.states.length<=16384) (h6:r.n<65536) {t:Tr} (hv:Val r.nodes t) (hb:t.bytes<=65536) (hn:t.cnt<=r.n) :
 ∃ L2 tx ver cs its F keys rx ρ,S Tb Y6 [.ptr la (b+5) 0 0 0,t.av] ⟨A,false,L⟩=some (.tup [.ptr A.length (L.length+1) 0 0 0,.int .i64 0],⟨A,false,L2⟩)/\Begun A L L2 la b t tx ver cs its F keys rx ρ:=by
 have hCk:=fun T=>ZQj (hA.app T).rd hv hb
 have hNw:=fun st=>ZrT hv (by omega) st
 have hSt:=fun T=>Zfz (hA.app T) hN h16 h6
 unfold AR.statsAV at hSt;obtain ⟨T,hT⟩:∃ T:List Blk,T=[.arr 7 0 [t.av],.arr 3 0 [.agg [.ptr la (b+5) 0 0 0,.nils,.nilptr]]]:=⟨_,rfl⟩
 have hTl:T.length=2:=by rw [hT];rfl
 have hip:(L++T)[L.length+1]?=some (.arr 3 0 [.agg [.ptr la (b+5) 0 0 0,.nils,.nilptr]]):=by rw [Qt,hT];rfl
 have hP:Pen A (L++T) (L.length+1) (.ptr la (b+5) 0 0 0) .nils []:=⟨⟨_,hip⟩,.inl ⟨rfl,rfl⟩⟩
 obtain ⟨L1,td1,rx,its,cs,R,F,hS,ha⟩:=Zsl hv hb hP (by simp;omega)
 obtain ⟨⟨rp,p1⟩,p2⟩:=ha.pen;rw [lE] at p2;have hl1:=ha.frm.len;rw [lL,hTl] at hl1;have hlt1:L.length+1<L1.length:=(List.getElem?_eq_some_iff.1 p1).1
 have hkl:∀ k∈R.map Prod.fst,L.length+2<=k:=fun k hk=>by
  obtain ⟨p,hp,rfl⟩:=List.mem_map.1 hk
  have:=ha.rlo p hp
  rwa [lL,hTl] at this
 have hfl:∀ p∈F,L.length+2<=p.1:=fun p hp=>by
  have:=ha.flo p hp
  rwa [lL,hTl] at this
 have hg:∀ i,i≠L.length+1->∀ B,(L1.set (L.length+1) B)[i]?=L1[i]?:=fun i hi B=>jS (fun q=>hi q.symm)
 obtain ⟨q1,q2⟩:=ha.tr.keys
 have hbl:la=A.length->b+5<L.length:=fun e=>by
  have:=hA.h5
  subst e;rw [St.get_cur] at this;exact (List.getElem?_eq_some_iff.1 (ZB2 this).1).1
 -- where the list lies
 obtain ⟨tx,ver,t1,t2,t3⟩:∃ tx ver,(cs=[]/\td1=.nils/\tx=L.length\/cs≠[]/\td1=.ref A.length tx ver 0 cs.length/\L1[tx]?=some (.arr 1 ver cs)/\L.length+2<=tx/\YL (L.length+1) td1 tx)/\tx≠L.length+1/\(∀ k,L.length+2<=k->¬ YL (L.length+1) td1 k->k≠tx):=by
  rcases p2 with ⟨e1,e2⟩|⟨tx,ver,e1,e2,e3,e4⟩
  ·exact ⟨L.length,0,.inl ⟨e2,e1,rfl⟩,by omega,fun k hk _=>by omega⟩
  ·have hX:YL (L.length+1) td1 tx:=.inr ⟨_,_,_,_,e1⟩
   refine ⟨tx,ver,.inr ⟨e4,e1,e2,?_,hX⟩,e3,fun k hk hn q=>hn (by rw [q];exact hX)⟩
   rcases ha.frm.own tx hX with w|w
   ·rcases w with w|⟨_,_,_,_,w⟩
    ·exact absurd w e3
    ·simp at w
   ·rwa [lL,hTl] at w
 refine ⟨L1.set (L.length+1) (.arr 3 0 [.agg [.ptr la (b+5) 0 0 0,td1,.ptr A.length rx 0 0 0]]),tx,ver,cs,its,F,R.map Prod.fst,rx,Zr7 R,Xw rfl ?_,⟨⟨by simp [St.wr],⟨td1,by rw [St.get_cur,List.getElem?_set_self hlt1];rfl,?_⟩,ha.cl,?_,?_,q2,q1,?_,t2,?_,?_,?_,Nat.zero_le _⟩,by rw [List.length_set];omega,?_,hkl,hfl,fun hc=>(by
  rcases t1 with ⟨w,_⟩|⟨_,_,_,w,_⟩
  ·exact absurd w hc
  ·exact w),.inr ⟨⟨_,hv⟩,R,ha.tr,Zf2 ha.nd,ha.nd⟩⟩⟩
 ·have e0:(⟨A,false,L⟩:St)=⟨A,false,L++[]⟩:=by rw [lN]
  rw [e0];rw [hT] at hS
  repeat' (first|refine Yl rfl (Z3 _) (QD _) rfl rfl ?_|refine Yl rfl rfl rfl rfl rfl ?_|refine ZAG rfl rfl rfl (Zm _) ?_|refine ZE ?_|refine ZD ?_|refine ZG rfl ?_|refine ZQ rfl rfl ?_|refine ZB rfl ?_|refine ZC ?_|refine ZVn (agg:=false) rfl rfl ?_|refine Z8 rfl rfl ?_|(refine Qd rfl rfl (fun _=>?_) (fun _=>?_)<;>try (exfalso;omega))|(refine Zj rfl rfl (fun _=>?_) (fun _=>?_)<;>try (exfalso;omega))|refine ZH rfl ?_|refine Zq rfl rfl rfl ?_|refine ZA rfl rfl (by first|rfl|(simp only [lE,lN,lC,Za,ZV,ZW];first|done|rfl)) (hCk _) ?_|refine ZA rfl rfl (by first|rfl|(simp only [lE,lN,lC,Za,ZV,ZW];first|done|rfl)) (hNw _) ?_|refine ZA rfl rfl (by first|rfl|(simp only [lE,lN,lC,Za,ZV,ZW];first|done|rfl)) (hSt _) ?_|refine ZA rfl rfl (by first|rfl|(simp only [lE,lN,lC,Za,ZV,ZW];first|done|rfl)) (hS) ?_|refine ZI ?_)
  all_goals try (exfalso;omega)
  refine JH p1 rfl rfl rfl ?_ rfl ?_
  ·simp only [ZY,QG,if_pos (Nat.lt_succ_self _)]
  repeat' (first|refine ZE ?_|refine ZD ?_|refine ZG rfl ?_|refine ZB rfl ?_|refine ZC ?_|refine ZP ?_|refine ZJ ?_)
  refine (YE (.inr rfl) rfl rfl rfl rfl).trans ?_;rfl
 ·rcases t1 with ⟨e1,e2,e3⟩|⟨e0,e1,e2,e3⟩
  ·exact .inl ⟨e1,e2⟩
  ·exact .inr ⟨e0,e1,by rw [St.get_cur,hg _ t2,e2];rfl⟩
 ·intro p hp
  obtain ⟨f1,f2⟩:=ha.fx p hp;obtain ⟨w,v,es,f3,f4⟩:=ha.fw p hp
  have:p.1≠L.length+1:=fun q=>f2 (.inl q)
  rw [St.get_cur,hg _ this,f1,f3];rfl
 ·intro k hk
  obtain ⟨p,hp,rfl⟩:=List.mem_map.1 hk;obtain ⟨f1,f2⟩:=ha.rts.get hp
  have:p.1≠L.length+1:=fun q=>f2 (.inl q)
  rw [St.get_cur,hg _ this,f1,Zf2 ha.nd p hp];rfl
 ·intro k hk
  have h1:=hkl k hk;obtain ⟨p,hp,rfl⟩:=List.mem_map.1 hk
  exact ⟨by omega,t3 _ h1 (ha.rts.get hp).2⟩
 ·intro p hp
  obtain ⟨f1,f2⟩:=ha.fx p hp;obtain ⟨w,v,es,f3,f4⟩:=ha.fw p hp;have h1:=hfl p hp
  refine ⟨fun q=>?_,by omega,t3 _ h1 f2⟩
  obtain ⟨u,hu,e⟩:=List.mem_map.1 q;have f5:=(ha.rts.get hu).1;rw [e,f1,f3] at f5;simp only [oJ,Blk.arr.injEq] at f5;exact f4 f5.1
 ·intro i hi ⟨e1,e2,e3⟩
  have:=hbl e1.symm
  rcases hi with rfl|⟨c1,rfl⟩|q|⟨p,hp,rfl⟩
  ·omega
  ·rcases t1 with ⟨w,_⟩|⟨_,_,_,w,_⟩
   ·exact c1 w
   ·omega
  ·have:=hkl i q;omega
  ·have:=hfl p hp;omega
 ·have h1:=ha.cl.len
  have h2:=ha.tr.cnt;omega
 ·intro i hi
  rw [hg i (by omega),ha.frm.old i (by rw [lL];omega) (fun q=>?_),jL hi]
  rcases q with q|⟨_,_,_,_,q⟩
  ·omega
  ·simp at q
theorem Zf3 {A:List (Bool × List Blk)} {ro:Bool} {L:List Blk} {i:Nat} {b:Blk} (h:L[i]?=some b) (hv:vis (some b)=some b):St.get ⟨A,ro,L⟩ A.length i=some b:=by rw [St.get_cur,h,hv]
theorem Zly {t:Tr} (ht:IsEmpty t) (st:St):S Tb ZAZ [t.av] st=some (.int .i64 (0:Nat),st) :=
 ZQq (c:=1) ht.ks (fun st=>ZCu t ht st) st
theorem Zh1 {A:List (Bool × List Blk)} {L:List Blk} {la b:Nat} {r:AR} (hA:HasR ⟨A,false,L⟩ la b r) (hN:r.n<=r.blk.length) (h16:r.states.length<=16384) (h6:r.n<65536) {t:Tr} (ht:IsEmpty t) :
 ∃ L2 tx ver cs its F keys rx ρ,S Tb Y6 [.ptr la (b+5) 0 0 0,t.av] ⟨A,false,L⟩=some (.tup [.ptr A.length (L.length+1) 0 0 0,.int .i64 0],⟨A,false,L2⟩)/\Begun A L L2 la b t tx ver cs its F keys rx ρ:=by
 have hCk:=fun T=>ZRP (st:=⟨A,false,L++T⟩) (lv:=la) (ix:=b+5) ht
 have hNw:=fun st=>Zly ht st
 have hSt:=fun T=>Zfz (hA.app T) hN h16 h6
 unfold AR.statsAV at hSt
 have hbl:la=A.length->b+5<L.length:=fun e=>by
  have:=hA.h5
  subst e;rw [St.get_cur] at this;exact (List.getElem?_eq_some_iff.1 (ZB2 this).1).1
 obtain ⟨T,hT⟩:∃ T:List Blk,T=[.arr 7 0 [t.av],.arr 3 0 [.agg [.ptr la (b+5) 0 0 0,.nils,.nilptr]]]:=⟨_,rfl⟩
 have hadd:S Tb Qn [.ptr A.length (L.length+1) 0 0 0,t.av] ⟨A,false,L++T⟩=some (.ptr A.length ((L++T).length+1) 0 0 0,⟨A,false,(L++T)++[.arr 7 0 [t.av],.arr 5 0 [Ro.zero.av]]⟩):=by
  refine Xw rfl ?_
  have e0:(⟨A,false,L++T⟩:St)=⟨A,false,(L++T)++[]⟩:=by rw [lN]
  rw [e0];generalize L++T=L0;obtain ⟨o,h,m,s,k⟩:=t;obtain ⟨h1,h2,h3,h4,h5⟩:=ht;simp only [Tr.old,Tr.h,Tr.m,Tr.text,Tr.ks] at h1 h2 h3 h4 h5;subst h1 h2 h3 h4
  obtain ⟨ka,hka,hka2⟩:∃ ka,Tr.avO k=ka/\(ka=.nils\/ka=.lit []):=by
   cases k with
   | none=>exact ⟨_,rfl,.inl rfl⟩
   | some l=>have:l=[]:=h5;subst this;exact ⟨_,rfl,.inr rfl⟩
  simp only [Tr.av,Mea.zero,hka] at *
  rcases hka2 with rfl|rfl
  all_goals repeat' (first|refine Yl rfl rfl rfl rfl rfl ?_|refine ZAG rfl rfl rfl rfl ?_|refine ZE ?_|refine ZD ?_|refine ZG rfl ?_|refine ZQ rfl rfl ?_|refine QM rfl ?_|refine Zs rfl rfl rfl rfl ?_|refine ZB rfl ?_|refine ZC ?_|refine ZEi rfl rfl ?_|refine J4 rfl ?_|(refine Zn rfl rfl (fun _=>?_) (fun _=>?_)<;>try (exfalso;omega))|(refine Zj rfl rfl (fun _=>?_) (fun _=>?_)<;>try (exfalso;omega))|(refine Y3 rfl rfl (fun _=>?_) (fun _=>?_)<;>try contradiction)|refine ZU rfl ?_|refine Zq rfl rfl rfl ?_|refine ZI ?_|refine ZP ?_|refine ZL ?_|refine ZJ ?_|refine Z1 ?_)
  all_goals try contradiction
  all_goals try (exfalso;omega)
  all_goals refine (YE (.inr rfl) rfl rfl rfl rfl).trans ?_
  all_goals rfl
 have hTl:T.length=2:=by rw [hT];rfl
 have hl2:(L++T).length=L.length+2:=by rw [lL,hTl]
 rw [hl2] at hadd
 have p1:((L++T)++[Blk.arr 7 0 [t.av],Blk.arr 5 0 [Ro.zero.av]])[L.length+1]?=some (.arr 3 0 [.agg [.ptr la (b+5) 0 0 0,.nils,.nilptr]]):=by
  rw [List.append_assoc,Qt,hT];rfl
 refine ⟨((L++T)++[Blk.arr 7 0 [t.av],Blk.arr 5 0 [Ro.zero.av]]).set (L.length+1) (Blk.arr 3 0 [.agg [.ptr la (b+5) 0 0 0,.nils,.ptr A.length (L.length+3) 0 0 0]]),L.length,0,[],[],[],[L.length+3],L.length+3,fun _=>.zero,Xw rfl ?_,⟨⟨by simp [St.wr],⟨.nils,?_,.inl ⟨rfl,rfl⟩⟩,.nil,fun p hp=>by simp at hp,fun k hk=>?_,fun it hi=>by simp at hi,by simp,fun k hk=>?_,by omega,fun p hp=>by simp at hp,fun i hi=>?_,by simp,Nat.zero_le _⟩,by simp,fun i hi=>?_,fun k hk=>?_,fun p hp=>by simp at hp,fun hc=>absurd rfl hc,.inl ⟨ht,rfl,rfl⟩⟩⟩
 ·have e0:(⟨A,false,L⟩:St)=⟨A,false,L++[]⟩:=by rw [lN]
  rw [e0];rw [hT] at hadd p1 ⊢
  repeat' (first|refine Yl rfl (Z3 _) (QD _) rfl rfl ?_|refine Yl rfl rfl rfl rfl rfl ?_|refine ZAG rfl rfl rfl (Zm _) ?_|refine ZE ?_|refine ZD ?_|refine ZG rfl ?_|refine ZQ rfl rfl ?_|refine ZB rfl ?_|refine ZC ?_|refine ZVn (agg:=false) rfl rfl ?_|refine Z8 rfl rfl ?_|(refine Qd rfl rfl (fun _=>?_) (fun _=>?_)<;>try (exfalso;omega))|(refine Zj rfl rfl (fun _=>?_) (fun _=>?_)<;>try (exfalso;omega))|refine ZH rfl ?_|refine Zq rfl rfl rfl ?_|refine ZA rfl rfl (by first|rfl|(simp only [lE,lN,lC,Za,ZV,ZW];first|done|rfl)) (hCk _) ?_|refine ZA rfl rfl (by first|rfl|(simp only [lE,lN,lC,Za,ZV,ZW];first|done|rfl)) (hNw _) ?_|refine ZA rfl rfl (by first|rfl|(simp only [lE,lN,lC,Za,ZV,ZW];first|done|rfl)) (hSt _) ?_|refine ZA rfl rfl (by first|rfl|(simp only [lE,lN,lC,Za,ZV,ZW];first|done|rfl)) (hadd) ?_|refine ZI ?_)
  all_goals try (exfalso;omega)
  refine JH p1 rfl rfl rfl ?_ rfl ?_
  ·simp only [ZY,QG,if_pos (Nat.lt_succ_self _)]
  repeat' (first|refine ZE ?_|refine ZD ?_|refine ZG rfl ?_|refine ZB rfl ?_|refine ZC ?_|refine ZP ?_|refine ZJ ?_)
  refine (YE (.inr rfl) rfl rfl rfl rfl).trans ?_;rfl
 ·exact Zf3 (List.getElem?_set_self (by simp)) rfl
 ·simp only [List.mem_singleton] at hk
  subst hk;refine Zf3 ?_ rfl
  rw [jS (by omega),show L.length+3=(L++T).length+1 by rw [hl2],Qt];rfl
 ·simp only [List.mem_singleton] at hk
  omega
 ·rintro ⟨e1,e2,e3⟩
  have:=hbl e1.symm
  rcases hi with rfl|⟨c1,rfl⟩|q|⟨p,hp,rfl⟩
  ·omega
  ·exact c1 rfl
  ·simp only [List.mem_singleton] at q;omega
  ·simp at hp
 ·rw [jS (by omega),List.append_assoc,jL hi]
 ·simp only [List.mem_singleton] at hk
  omega
end Go.Q15
namespace Go.Q15
open Go Go.QAbs
set_option maxRecDepth 100000
set_option maxHeartbeats 8000000
theorem Zlz {b lv ix:Nat} (st:St) (h:lv<b):ZY QG b st (.map lv ix)=some (.map lv ix,st):=by
 simp only [ZY,QG,if_pos h]
def YK (l:List Nat):List (AV × AV):=l.map fun (h:Nat)=>(AV.int .u64 h,AV.bool true)
theorem Zh2 (o:Nat):∀ l:List Nat,ZAr (.int .u64 o) (YK l)=some (if o∈l then some (.bool true) else none)
 | []=>rfl
 | p::l=>by
  rw [YK,jC,ZAr]
  show (Option.bind (if IntKind.u64=IntKind.u64 then some ((o:Int) == (p:Int)) else none) fun b=>if b=true then some (some (AV.bool true)) else ZAr (.int .u64 o) (YK l))=_
  rw [if_pos rfl,oS,Zh2 o l]
  by_cases q:o=p
  ·subst q;simp
  ·rw [if_neg (by simp;omega)]
   simp [q]
theorem ZUy (o:Nat):∀ l:List Nat,o∉l->ZFy (.int .u64 o) (.bool true) (YK l)=some (YK (l++[o]))
 | [],_=>rfl
 | p::l,h=>by
  simp only [List.mem_cons,not_or] at h;rw [YK,jC,ZFy]
  show (Option.bind (if IntKind.u64=IntKind.u64 then some ((o:Int) == (p:Int)) else none) fun b=>if b=true then some ((AV.int .u64 o,AV.bool true)::YK l) else (ZFy (.int .u64 o) (.bool true) (YK l)).map ((AV.int .u64 p,AV.bool true)::·))=_
  rw [if_pos rfl,oS,if_neg (by simp;omega),ZUy o l h.2]
  rfl
theorem ZIv {st:St} {lv mx:Nat} {l:List Nat} (hg:st.get lv mx=some (.map (YK l))) (o:Nat):lookV st 0 (.bool false) false (.int .u64 o) (.map lv mx)=some (.bool (decide (o∈l))):=by
 simp only [lookV,ZgO,hg,ZOA,oS,Yh,if_true,Zh2]
 by_cases q:o∈l
 ·simp [q,Zch]
 ·simp [q,Zch]
def Z9 (h:Nat):AV:=.int .u64 h
section
variable {O:Orc} {k:List Fr} {Q:Jw} {e:Env} {A:List (Bool × List Blk)} {L:List Blk} {keep:List Nat} {is:List QAbs.PI} {d:Nat}
theorem Zqy {st:St} {s x:Opd} {lv jx ver w bytes:Nat} {es ys:List AV} (hA:A=st.A++[(st.ro,st.L)]) (hwr:st.wr lv) (hg:st.get lv jx=some (.arr w ver es)) (hs:Zb e s=some (.ref lv jx ver 0 es.length)) (hx:Zb e x=some (.lit ys))
 (hw:Q5 w ys=true) (hsl:mapSt (ZY QG (lv+1)) ⟨A,false,L⟩ ys=some (ys,⟨A,false,L⟩)) (hl:es.length+ys.length<4294967296) (hb:bytes<=4096)
 (h:∀ A',A'=(st.upd lv jx (.arr w (ver+1) (es++ys))).A++[((st.upd lv jx (.arr w (ver+1) (es++ys))).ro,(st.upd lv jx (.arr w (ver+1) (es++ys))).L)]->Is O is keep k Q ((d,.ref lv jx (ver+1) 0 (es.length+ys.length))::e) ⟨A',false,L⟩) :
 Is O (⟨some d,none,false,.app w bytes s x⟩::is) keep k Q e ⟨A,false,L⟩:=by
 have hlv:=St.get_le hg;refine Z4 (v:=.ref lv jx (ver+1) 0 (es.length+ys.length)) (st':=St.upd ⟨A,false,L⟩ lv jx (.arr w (ver+1) (es++ys))) ?_ ?_
 ·have hg':=ZX hA (ro:=false) (L:=L) hg
  have hw':=Y4 hA hlv hwr (ro:=false) (L:=L)
  simp only [Zg,evalPO,ZF hs,ZF hx,elems,oS,JS,hw,if_true,hsl,Zdi,hg',ZJv,true_and,if_pos (show 0+es.length<=es.length/\es.length+ys.length<4294967296/\bytes<=4096 by omega),List.drop_zero]
  rw [List.take_of_length_le (by omega),St.put_upd hw' hg']
  rfl
 ·rw [Jf hA hlv]
  exact h _ rfl
end
namespace Tr
mutual
def kwT:Tr->List Nat->List Nat
 | .mk o _ _ _ k,out=>kwO k (if o≠0/\o∉out then out++[o] else out)
def kwO:Option (List Tr)->List Nat->List Nat
 | none,out=>out
 | some l,out=>kwL l out
def kwL:List Tr->List Nat->List Nat
 | [],out=>out
 | t::l,out=>kwL l (kwT t out)
end
mutual
def siz:Tr->Nat
 | .mk _ _ _ _ k=>1+sizO k
def sizO:Option (List Tr)->Nat
 | none=>0
 | some l=>sizL l
def sizL:List Tr->Nat
 | []=>0
 | t::l=>siz t+sizL l
end
theorem kwL_append:∀ (a b:List Tr) (out:List Nat),kwL (a++b) out=kwL b (kwL a out)
 | [],b,out=>rfl
 | t::a,b,out=>by rw [lC,kwL,kwL,kwL_append a b]
theorem sizL_append:∀ a b,sizL (a++b)=sizL a+sizL b
 | [],b=>by simp [sizL]
 | t::a,b=>by rw [lC,sizL,sizL,sizL_append a b];omega
theorem kwO_getD (k:Option (List Tr)) (out:List Nat):kwO k out=kwL (k.getD []) out:=by cases k<;>rfl
theorem sizO_getD (k:Option (List Tr)):sizO k=sizL (k.getD []):=by cases k<;>rfl
theorem kwT_len (t:Tr):∀ out,(kwT t out).length<=out.length+t.siz:=by
 induction t using Tr.ind with
 | step o h m s k ih =>
  intro out;rw [kwT,siz,kwO_getD,sizO_getD]
  have key:∀ (l:List Tr),(∀ t∈l,∀ out,(kwT t out).length<=out.length+t.siz)->∀ out,(kwL l out).length<=out.length+sizL l:=by
   intro l
   induction l with
   | nil=>intro _ out;simp [kwL,sizL]
   | cons a l ih2 =>
    intro hl out;rw [kwL,sizL]
    have h1:=ih2 (fun t ht=>hl t (by simp [ht])) (kwT a out)
    have h2:=hl a (by simp) out
    omega
  have:=key (k.getD []) ih (if o≠0/\o∉out then out++[o] else out)
  split at this
  ·rename_i q;rw [if_pos q];rw [lL,List.length_singleton] at this;omega
  ·rename_i q;rw [if_neg q];omega
theorem kwL_len:∀ (l:List Tr) (out:List Nat),(kwL l out).length<=out.length+sizL l
 | [],out=>by simp [kwL,sizL]
 | t::l,out=>by
  rw [kwL,sizL];have h1:=kwL_len l (kwT t out);have h2:=kwT_len t out;omega
end Tr
structure KS (st:St) (lv mb mx ob ox wb ver:Nat) (out:List Nat):Prop where
 wr:st.wr lv
 hm:st.get lv mb=some (.arr 1 0 [.map lv mx])
 hmx:st.get lv mx=some (.map (YK out))
 ho:st.get lv ob=some (.arr 1 0 [.ref lv ox ver 0 out.length])
 hox:st.get lv ox=some (.arr 1 ver (out.map Z9))
 hw:st.get lv wb=some (.arr 1 0 [.func (.func Yb) [] [.ptr lv mb 0 0 0,.ptr lv ob 0 0 0,.ptr lv wb 0 0 0]])
 n1:mx≠ox
 n2:mx≠ob
 n3:ox≠ob
 n4:mb≠mx/\mb≠ox/\mb≠ob
 n5:wb≠mx/\wb≠ox/\wb≠ob
def Jb (st:St) (lv mx ob ox ver:Nat) (out:List Nat):St:=((st.upd lv mx (.map (YK out))).upd lv ox (.arr 1 ver (out.map Z9))).upd lv ob (.arr 1 0 [.ref lv ox ver 0 out.length])
theorem KS.get {st:St} {lv mb mx ob ox wb ver:Nat} {out:List Nat} (h:KS st lv mb mx ob ox wb ver out) (v:Nat) (t:List Nat) (l' i':Nat) :
 (Jb st lv mx ob ox v t).get l' i'=if l'=lv/\i'=ob then some (.arr 1 0 [.ref lv ox v 0 t.length]) else if l'=lv/\i'=ox then some (.arr 1 v (t.map Z9)) else if l'=lv/\i'=mx then some (.map (YK t)) else st.get l' i':=by
 have g1:∀ l' i',(st.upd lv mx (.map (YK t))).get l' i'=if l'=lv/\i'=mx then some (.map (YK t)) else st.get l' i':=fun l' i'=>St.get_upd h.hmx rfl
 have b1:(st.upd lv mx (.map (YK t))).get lv ox=some (.arr 1 ver (out.map Z9)):=by rw [g1,if_neg (fun q=>h.n1 q.2.symm)];exact h.hox
 have g2:∀ l' i',((st.upd lv mx (.map (YK t))).upd lv ox (.arr 1 v (t.map Z9))).get l' i'=if l'=lv/\i'=ox then some (.arr 1 v (t.map Z9)) else (st.upd lv mx (.map (YK t))).get l' i':=fun l' i'=>St.get_upd b1 rfl
 have b2:((st.upd lv mx (.map (YK t))).upd lv ox (.arr 1 v (t.map Z9))).get lv ob=some (.arr 1 0 [.ref lv ox ver 0 out.length]):=by rw [g2,if_neg (fun q=>h.n3 q.2.symm),g1,if_neg (fun q=>h.n2 q.2.symm)];exact h.ho
 rw [Jb,St.get_upd b2 rfl,g2,g1]
theorem KS.put {st:St} {lv mb mx ob ox wb ver:Nat} {out:List Nat} (h:KS st lv mb mx ob ox wb ver out) (v:Nat) (t:List Nat):KS (Jb st lv mx ob ox v t) lv mb mx ob ox wb v t:=by
 refine ⟨St.wr_upd (St.wr_upd (St.wr_upd h.wr h.wr) (St.wr_upd h.wr h.wr)) (St.wr_upd (St.wr_upd h.wr h.wr) (St.wr_upd h.wr h.wr)),?_,?_,?_,?_,?_,h.n1,h.n2,h.n3,h.n4,h.n5⟩
 ·rw [h.get,if_neg (fun q=>h.n4.2.2 q.2),if_neg (fun q=>h.n4.2.1 q.2),if_neg (fun q=>h.n4.1 q.2)];exact h.hm
 ·rw [h.get,if_neg (fun q=>h.n2 q.2),if_neg (fun q=>h.n1 q.2),if_pos ⟨rfl,rfl⟩]
 ·rw [h.get,if_pos ⟨rfl,rfl⟩]
 ·rw [h.get,if_neg (fun q=>h.n3 q.2),if_pos ⟨rfl,rfl⟩]
 ·rw [h.get,if_neg (fun q=>h.n5.2.2 q.2),if_neg (fun q=>h.n5.2.1 q.2),if_neg (fun q=>h.n5.1 q.2)];exact h.hw
theorem KS.same {st:St} {lv mb mx ob ox wb ver:Nat} {out:List Nat} (h:KS st lv mb mx ob ox wb ver out):Jb st lv mx ob ox ver out=st:=by
 rw [Jb,upd_same h.hmx,upd_same h.hox,upd_same h.ho]
theorem Zl0 {st:St} {lv mx ob ox v1 v2:Nat} {s t:List Nat} (h1:mx≠ox) (h2:mx≠ob) (h3:ox≠ob):Jb (Jb st lv mx ob ox v1 s) lv mx ob ox v2 t=Jb st lv mx ob ox v2 t:=by
 unfold Jb;generalize Blk.map (YK s)=a1;generalize Blk.map (YK t)=a2;generalize Blk.arr 1 v1 (s.map Z9)=b1;generalize Blk.arr 1 v2 (t.map Z9)=b2;generalize Blk.arr 1 0 [AV.ref lv ox v1 0 s.length]=c1;generalize Blk.arr 1 0 [AV.ref lv ox v2 0 t.length]=c2
 rw [ZNq (st:=(st.upd lv mx a1).upd lv ox b1) (fun q=>h2 q.symm),ZNq (st:=st.upd lv mx a1) (fun q=>h1 q.symm),ZNp,ZNq (st:=(st.upd lv mx a2).upd lv ox b1) (fun q=>h3 q.symm),ZNp,ZNp]
theorem Zjj {st:St} {A:List (Bool × List Blk)} {ro:Bool} {L:List Blk} (hA:A=st.A++[(st.ro,st.L)]) {lv mx ob ox ver:Nat} {t:List Nat} (hl:lv<=st.A.length) :
 Jb ⟨A,ro,L⟩ lv mx ob ox ver t=⟨(Jb st lv mx ob ox ver t).A++[((Jb st lv mx ob ox ver t).ro,(Jb st lv mx ob ox ver t).L)],ro,L⟩:=by
 unfold Jb;rw [Jf hA hl]
 have e2:=fun (b:Blk)=>Jf (st:=st.upd lv mx (.map (YK t))) (A:=(st.upd lv mx (.map (YK t))).A++[((st.upd lv mx (.map (YK t))).ro,(st.upd lv mx (.map (YK t))).L)]) (ro:=ro) (L:=L) (lv:=lv) (ix:=ox) (b:=b) rfl (by rw [St.upd_A];exact hl)
 rw [e2]
 exact Jf rfl (by rw [St.upd_A,St.upd_A];exact hl)
theorem KS.push {st:St} {A:List (Bool × List Blk)} {ro:Bool} {L:List Blk} (hA:A=st.A++[(st.ro,st.L)]) {lv mb mx ob ox wb ver:Nat} {out:List Nat} (h:KS st lv mb mx ob ox wb ver out):KS ⟨A,ro,L⟩ lv mb mx ob ox wb ver out :=
 ⟨Y4 hA (St.get_le h.hm) h.wr,ZX hA h.hm,ZX hA h.hmx,ZX hA h.ho,ZX hA h.hox,ZX hA h.hw,h.n1,h.n2,h.n3,h.n4,h.n5⟩
theorem Zqz (st:St) (lv mx ob ox ver:Nat) (out:List Nat):(Jb st lv mx ob ox ver out).A.length=st.A.length:=by
 unfold Jb;rw [St.upd_A,St.upd_A,St.upd_A]
theorem Zq0 (t:Tr):t.Pos->∀ {st:St} {lv mb mx ob ox wb ver:Nat} {out:List Nat},KS st lv mb mx ob ox wb ver out->out.length+t.siz<4294967296 ->
 Sp Tb Yb [t.av,.ptr lv mb 0 0 0,.ptr lv ob 0 0 0,.ptr lv wb 0 0 0] st fun v st'=>v=.tup []/\∃ ver',st'=Jb st lv mx ob ox ver' (t.kwT out):=by
 induction t using Tr.ind with
 | step o h m s k ih =>
  intro hp st lv mb mx ob ox wb ver out hs hl
  cases hp with
  | mk h0 h4 hk2 =>
  have e1:(Tr.mk o h m s k).kwT out=Tr.kwL (k.getD []) (if o≠0/\o∉out then out++[o] else out):=by rw [Tr.kwT,Tr.kwO_getD]
  have e2:(Tr.mk o h m s k).siz=1+Tr.sizL (k.getD []):=by rw [Tr.siz,Tr.sizO_getD]
  rw [e1];rw [e2] at hl;refine ZnU rfl ?_;obtain ⟨A,hA⟩:∃ A,A=st.A++[(st.ro,st.L)]:=⟨_,rfl⟩;rw [<- hA];have hlv:=St.get_le hs.hm
  have hav:(Tr.mk o h m s k).av=.agg [.int .u64 o,.int .i64 h,.int .i64 m.b,.int .i64 m.r,.int .i64 m.l,.str s,slV Tr.av k]:=by rw [Tr.av,Tr.avO_sl]
  -- the loop over the children
  have key:∀ (ver1:Nat) (out1:List Nat) (A1:List (Bool × List Blk)),A1=(Jb st lv mx ob ox ver1 out1).A++[((Jb st lv mx ob ox ver1 out1).ro,(Jb st lv mx ob ox ver1 out1).L)]->out1.length<=out.length+1->∀ e:Env,e=[(3,.ptr lv wb 0 0 0),(4,.ptr A.length 0 0 0 0)]\/e=[(1,.ptr lv mb 0 0 0),(2,.ptr lv ob 0 0 0),(3,.ptr lv wb 0 0 0),(4,.ptr A.length 0 0 0 0),(16,.bool false)] ->
   Ru (S Tb) (.seq ZFt (.block 0 (.loop ZBZ))) [] (fun x e st''=>∃ v st',Jd false ([]:List RV) (x,e,st'')=some (v,st')/\v=.tup []/\∃ ver',st'=Jb st lv mx ob ox ver' (Tr.kwL (k.getD []) out1)) e ⟨A1,false,[.arr 7 0 [(Tr.mk o h m s k).av]]⟩:=by
   intro ver1 out1 A1 hA1 hl1 e he
   have hAl:A.length=A1.length:=by rw [hA,hA1];simp [Zqz]
   rw [hAl] at he;rw [hav]
   cases k with
   | none =>
    simp only [slV]
    rcases he with rfl|rfl
    all_goals repeat' (first|refine ZE ?_|refine ZD ?_|refine ZG rfl ?_|refine ZQ rfl rfl ?_|refine ZS rfl rfl rfl rfl ?_|refine ZB rfl ?_|refine ZC ?_|refine J4 rfl ?_|(refine Zi rfl rfl (fun _=>?_) (fun _=>?_)<;>try (exfalso;omega))|refine ZH rfl ?_|refine YF ?_|refine Zv ?_|refine ZL ?_|refine ZJ ?_|refine Zf ?_|refine Zd rfl ?_)
    all_goals try (exfalso;omega)
    all_goals exact ⟨_,_,Ze hA1 (.inl rfl) rfl rfl rfl rfl rfl,rfl,ver1,rfl⟩
   | some l =>
    simp only [Option.getD] at h4 hk2 ih hl ⊢;simp only [slV]
    have hloop:Ru (S Tb) (.loop ZBZ) [.blk 0] (fun x e st''=>∃ v st',Jd false ([]:List RV) (x,e,st'')=some (v,st')/\v=.tup []/\∃ ver',st'=Jb st lv mx ob ox ver' (Tr.kwL l out1)) [(3,.ptr lv wb 0 0 0),(26,.lit (l.map Tr.av)),(27,.int .i64 l.length),(28,.int .i64 0)] ⟨A1,false,[.arr 7 0 [.agg [.int .u64 o,.int .i64 h,.int .i64 m.b,.int .i64 m.r,.int .i64 m.l,.str s,.lit (l.map Tr.av)]]]⟩:=by
     refine Zx (α:=Nat × List Blk × Nat) (fun p=>[(3,.ptr lv wb 0 0 0),(26,.lit (l.map Tr.av)),(27,.int .i64 l.length),(28,.int .i64 p.1)])
      (fun p=>⟨(Jb st lv mx ob ox p.2.2 (Tr.kwL (l.take p.1) out1)).A++[((Jb st lv mx ob ox p.2.2 (Tr.kwL (l.take p.1) out1)).ro,(Jb st lv mx ob ox p.2.2 (Tr.kwL (l.take p.1) out1)).L)],false,.arr 7 0 [.agg [.int .u64 o,.int .i64 h,.int .i64 m.b,.int .i64 m.r,.int .i64 m.l,.str s,.lit (l.map Tr.av)]]::p.2.1⟩)
      (fun p=>p.1<=l.length) (fun p=>l.length-p.1) (0,[],ver1) rfl ?_ (by simp) ?_
     ·simp only [List.take_zero,Tr.kwL,<- hA1]
     rintro ⟨i,G,ver2⟩ hi
     simp only at hi ⊢
     have hk3:=hs.put ver2 (Tr.kwL (l.take i) out1)
     have hpp:∀ v3 t3,Jb (Jb st lv mx ob ox ver2 (Tr.kwL (l.take i) out1)) lv mx ob ox v3 t3=Jb st lv mx ob ox v3 t3:=fun v3 t3=>Zl0 hs.n1 hs.n2 hs.n3
     generalize hs1:Jb st lv mx ob ox ver2 (Tr.kwL (l.take i) out1)=st1 at *
     obtain ⟨A2,hA2⟩:∃ A2,A2=st1.A++[(st1.ro,st1.L)]:=⟨_,rfl⟩;rw [<- hA2]
     have hgw:=fun L=>ZX hA2 (ro:=false) (L:=L) hk3.hw
     repeat' (first|refine ZE ?_|refine ZD ?_|refine ZB rfl ?_|refine ZC ?_|(refine Zi rfl rfl (fun _=>?_) (fun _=>?_)<;>try (exfalso;omega))|refine ZU rfl ?_|refine ZH rfl ?_|refine Zt rfl rfl rfl ?_|refine Jx rfl rfl (by omega) Z3 (fun _ _=>?_)|refine QQ rfl (Zm _) ?_|refine JV rfl rfl rfl (QN _ _ _) (Qo _ _) rfl ?_|refine ZI ?_|refine Zv ?_|refine ZL ?_|refine ZJ ?_|refine Zf ?_|refine Zd rfl ?_|refine Zo ?_)
     ·rename_i u hu
      have hu2:l[i]?=some u:=hu;have hum:=jM hu2;have hle:lv<=st1.A.length:=St.get_le hk3.hm
      have hsum:Tr.sizL l=Tr.sizL (l.take i)+(u.siz+Tr.sizL (l.drop (i+1))):=by
       conv=>lhs;rw [<- List.take_append_drop (i+1) l,Zc hu2,Tr.sizL_append,Tr.sizL_append]
       simp [Tr.sizL];omega
      have hlen:=Tr.kwL_len (l.take i) out1
      have ihu:=fun L=>ih u hum (hk2 u hum) (hk3.push hA2 (ro:=false) (L:=L)) (by omega)
      have hkw:Tr.kwL (l.take (i+1)) out1=u.kwT (Tr.kwL (l.take i) out1):=by
       rw [Zc hu2,Tr.kwL_append];rfl
      refine QA rfl (hgw _) rfl rfl ?_
      repeat' (refine Qe rfl rfl (Zm _) ?_)
      refine ZUt rfl rfl (wk4 _ _ _ _ rfl rfl rfl) (ihu _) ?_
      rintro v st' ⟨rfl,v3,rfl⟩
      rw [Zjj hA2 hle,hpp,<- hkw]
      repeat' (first|refine ZD ?_|refine ZG rfl ?_|refine ZB rfl ?_|refine ZC ?_|refine Zl rfl rfl (by omega) ?_|refine Z1 ?_|refine QB ?_)
      exact ⟨(i+1,_,v3),⟨rfl,rfl⟩,by simp only;omega,by simp only;omega⟩
     ·have hi':i=l.length:=by omega
      subst hi'
      rw [List.take_length] at *
      exact ⟨_,_,Ze hA2 (.inl rfl) rfl rfl rfl rfl rfl,rfl,ver2,hs1.symm⟩
    rcases he with rfl|rfl
    all_goals repeat' (first|exact hloop|refine ZE ?_|refine ZD ?_|refine ZG rfl ?_|refine ZQ rfl rfl ?_|refine ZS rfl rfl rfl rfl ?_|refine ZB rfl ?_|refine ZC ?_|refine QH rfl ?_|refine ZL ?_)
  have hg1:=fun L=>ZX hA (ro:=false) (L:=L) hs.hm
  have hg2:=fun L=>ZX hA (ro:=false) (L:=L) hs.hmx
  have hlk:=fun L=>ZIv (hg2 L) o
  have hkey0:=key ver out A (by rw [hs.same];exact hA) (by omega) _ (.inr rfl)
  have hwide:=Z3 (Tr.mk o h m s k);have hforce:=QD (Tr.mk o h m s k);rw [hav] at hwide hforce
  by_cases ho:o=0
  ·subst ho
   rw [if_neg (by simp)]
   rw [hav] at hkey0 ⊢
   repeat' (first|refine Zt rfl hwide hforce ?_|exact hkey0|refine ZE ?_|refine ZD ?_|refine ZG rfl ?_|refine ZQ rfl rfl ?_|refine ZS rfl rfl rfl rfl ?_|refine J3 rfl rfl ?_|refine Zs rfl rfl rfl rfl ?_|refine ZB rfl ?_|refine ZC ?_|(refine Zj rfl rfl (fun _=>?_) (fun _=>?_)<;>try (exfalso;omega))|refine ZH rfl ?_|refine ZI ?_)
   all_goals contradiction
  ·by_cases hm:o∈out
   ·rw [if_neg (by simp [hm])]
    rw [hav] at hkey0 ⊢;rw [decide_eq_true hm] at hlk
    repeat' (first|refine Zt rfl hwide hforce ?_|exact hkey0|refine ZE ?_|refine ZD ?_|refine ZG rfl ?_|refine ZQ rfl rfl ?_|refine ZS rfl rfl rfl rfl ?_|refine QM rfl ?_|refine Zs rfl rfl rfl rfl ?_|refine ZB rfl ?_|refine ZC ?_|(refine Zj rfl rfl (fun _=>?_) (fun _=>?_)<;>try (exfalso;omega))|refine ZH rfl ?_|refine JO rfl rfl ?_|refine QA rfl (hg1 _) rfl rfl ?_|refine ZAl rfl rfl (hlk _) ?_|refine ZI ?_)
    all_goals contradiction
   ·rw [if_pos ⟨ho,hm⟩]
    have hkey:=key (ver+1) (out++[o]);rw [hav] at hkey ⊢;rw [decide_eq_false hm] at hlk
    repeat' (first|refine Zt rfl hwide hforce ?_|refine ZE ?_|refine ZD ?_|refine ZG rfl ?_|refine ZQ rfl rfl ?_|refine ZS rfl rfl rfl rfl ?_|refine QM rfl ?_|refine Zs rfl rfl rfl rfl ?_|refine ZB rfl ?_|refine ZC ?_|(refine Zj rfl rfl (fun _=>?_) (fun _=>?_)<;>try (exfalso;omega))|refine ZU rfl ?_|refine JO rfl rfl ?_|refine QA rfl (hg1 _) rfl rfl ?_|refine ZAl rfl rfl (hlk _) ?_)
    all_goals try contradiction
    refine Zhv hA rfl rfl rfl hs.wr hs.hmx rfl (ZUy o out hm) (fun A' hA'=>?_)
    have q1:∀ l' i',(st.upd lv mx (.map (YK (out++[o])))).get l' i'=if l'=lv/\i'=mx then some (.map (YK (out++[o]))) else st.get l' i':=fun l' i'=>St.get_upd hs.hmx rfl
    have ka:(st.upd lv mx (.map (YK (out++[o])))).get lv ob=some (.arr 1 0 [.ref lv ox ver 0 out.length]):=by rw [q1,if_neg (fun q=>hs.n2 q.2.symm)];exact hs.ho
    have kb:(st.upd lv mx (.map (YK (out++[o])))).get lv ox=some (.arr 1 ver (out.map Z9)):=by rw [q1,if_neg (fun q=>hs.n1 q.2.symm)];exact hs.hox
    have hw1:=St.wr_upd (b:=.map (YK (out++[o]))) (ix:=mx) hs.wr hs.wr
    have hAl:A.length=A'.length:=by rw [hA,hA'];simp [St.upd_A]
    rw [hAl] at hkey ⊢
    have hput:Jb st lv mx ob ox (ver+1) (out++[o])=((st.upd lv mx (.map (YK (out++[o])))).upd lv ox (.arr 1 (ver+1) (out.map Z9++[.int .u64 o]))).upd lv ob (.arr 1 0 [.ref lv ox (ver+1) 0 (out.length+1)]):=by
     unfold Jb;rw [List.map_append,lL];rfl
    rw [hput] at hkey;clear hput q1
    generalize st.upd lv mx (.map (YK (out++[o])))=st1 at *
    have hg3:=fun L=>ZX hA' (ro:=false) (L:=L) ka
    repeat' (first|refine ZD ?_|refine ZQ rfl rfl ?_|refine ZS rfl rfl rfl rfl ?_|refine ZB rfl ?_|refine ZC ?_|refine QZ rfl rfl rfl rfl ?_|refine QA rfl (hg3 _) rfl rfl ?_)
    refine Zqy hA' hw1 kb (by rw [List.length_map];rfl) rfl rfl rfl (by simp;omega) (by decide) (fun A2 hA2=>?_)
    have q2:∀ l' i',(st1.upd lv ox (.arr 1 (ver+1) (out.map Z9++[.int .u64 o]))).get l' i'=if l'=lv/\i'=ox then some (.arr 1 (ver+1) (out.map Z9++[.int .u64 o])) else st1.get l' i':=fun l' i'=>St.get_upd kb rfl
    have kc:(st1.upd lv ox (.arr 1 (ver+1) (out.map Z9++[.int .u64 o]))).get lv ob=some (.arr 1 0 [.ref lv ox ver 0 out.length]):=by rw [q2,if_neg (fun q=>hs.n3 q.2.symm)];exact ka
    have hw2:=St.wr_upd (b:=.arr 1 (ver+1) (out.map Z9++[.int .u64 o])) (ix:=ox) hw1 hw1
    have hAl2:A'.length=A2.length:=by rw [hA',hA2];simp [St.upd_A]
    rw [hAl2] at hkey ⊢
    generalize st1.upd lv ox (.arr 1 (ver+1) (out.map Z9++[.int .u64 o]))=st2 at *
    refine ZG7 hA2 rfl rfl hw2 kc rfl (Q8 _ (Nat.lt_succ_self _)) rfl (fun A3 hA3=>?_)
    have hAl3:A2.length=A3.length:=by rw [hA2,hA3];simp [St.upd_A]
    rw [hAl3] at hkey ⊢
    have hk:=hkey A3 (by rw [hA3];simp) (by simp) _ (.inl rfl)
    repeat' (first|exact hk|refine ZB rfl ?_|refine ZC ?_)
theorem Zr8 {t:Tr} (hp:t.Pos) (hsz:t.siz<4294967296) (st:St):S Tb ZHA [t.av] st=some (.lit ((t.kwT []).map Z9),st):=by
 refine QI rfl (fun A hA=>?_)
 have hW:∀ L,L=[.arr 7 0 [t.av],.arr 1 0 [],.arr 1 0 [.ref A.length 1 0 0 0],.map [],.arr 1 0 [.map A.length 3],.arr 1 0 [.func (.func Yb) [] [.ptr A.length 4 0 0 0,.ptr A.length 2 0 0 0,.ptr A.length 5 0 0 0]]] ->
  Sp Tb Yb [t.av,.ptr A.length 4 0 0 0,.ptr A.length 2 0 0 0,.ptr A.length 5 0 0 0] ⟨A,false,L⟩ fun v st'=>v=.tup []/\∃ ver',st'=Jb ⟨A,false,L⟩ A.length 3 2 1 ver' (t.kwT []):=by
  rintro L rfl
  refine Zq0 t hp (ver:=0) (mb:=4) (mx:=3) (ob:=2) (ox:=1) (wb:=5) ⟨by simp [St.wr],by rw [St.get_cur];rfl,by rw [St.get_cur];rfl,by rw [St.get_cur];rfl,by rw [St.get_cur];rfl,by rw [St.get_cur];rfl,by decide,by decide,by decide,by decide,by decide⟩ (by simp;omega)
 repeat' (first|refine ZE ?_|refine ZD ?_|refine ZG rfl ?_|refine ZS rfl rfl rfl rfl ?_|refine ZB rfl ?_|refine ZC ?_|refine Xu rfl rfl ?_|refine Zh rfl rfl rfl ?_|refine ZAW rfl ?_|refine ZG6 rfl ?_|refine ZS rfl rfl rfl (Zm _) ?_|refine Zt rfl (Z3 _) (QD _) ?_|refine Zw rfl rfl rfl (Zlz _ (Nat.lt_succ_self _)) rfl rfl ?_|refine Zw rfl rfl rfl (ZNw _ (Nat.lt_succ_self _)) rfl rfl ?_)
 refine ZUt rfl rfl (wk4 _ _ _ _ rfl rfl rfl) (hW _ rfl) ?_
 rintro v st' ⟨rfl,v2,rfl⟩
 have hpc:∀ b0 b1 b2 b3 b4 b5 w,Jb ⟨A,false,[b0,b1,b2,b3,b4,b5]⟩ A.length 3 2 1 v2 w=⟨A,false,[b0,.arr 1 v2 (w.map Z9),.arr 1 0 [.ref A.length 1 v2 0 w.length],.map (YK w),b4,b5]⟩:=by
  intro b0 b1 b2 b3 b4 b5 w
  simp [Jb,St.upd]
 rw [hpc]
 generalize t.kwT []=w at *
 repeat' (first|refine ZE ?_|refine ZD ?_|refine ZG rfl ?_|refine ZS rfl rfl rfl rfl ?_|refine ZB rfl ?_|refine ZC ?_|refine ZP ?_|refine ZJ ?_)
 refine ZDA (es:=w.map Z9) hA (by first|exact .inl rfl|exact .inr rfl) rfl rfl (by simp) (by intro v hv;obtain ⟨x,_,rfl⟩:=List.mem_map.1 hv;rfl) ?_
 rfl
end Go.Q15
namespace Go.Q15
open Go Go.QAbs
set_option maxRecDepth 100000
set_option maxHeartbeats 8000000
def wrV (t:Tr) (r:AR):AR × Ro × List Nat:=if t.old=0/\t.h=0/\t.text=[] then (r,.zero,[]) else t.wr r
theorem ZUz {N:ZO} {t:Tr} (hv:Val N t) (r:AR):wrV t r=t.wr r:=by
 unfold wrV
 cases hv with
 | kept h0=>rw [if_neg];simp [Tr.old,h0]
 | leaf h1=>rw [if_neg];rintro ⟨_,_,q⟩;simp only [Tr.text] at q;rw [q] at h1;simp at h1
 | inner=>rw [if_neg];simp [Tr.h]
theorem ZQs {t:Tr} (h:IsEmpty t) (r:AR):wrV t r=(r,.zero,[]):=by
 unfold wrV;rw [if_pos ⟨h.old,h.h,h.text⟩]
theorem Val.not_empty {N:ZO} {t:Tr} (hv:Val N t):¬ IsEmpty t:=fun h=>by
 have:=hv.pos.2
 have:=h.bytes
 omega
theorem PI.run {r:AR} (ho:AROk r) (hg:GoodN r.nodes) {t:Tr} (hv:VE r.nodes t) (hb:t.bytes<=65536) (hn:nw t<=r.n) {its:List It} {rx:Nat} {ρ:Nat->Ro} (h:PI t its rx ρ) :
 ∃ ρ',RunOk its r ρ (wrV t r).1 ρ' (wrV t r).2.2/\ρ' rx=(wrV t r).2.1:=by
 rcases h with ⟨h1,rfl,h2⟩|⟨⟨M,hM⟩,R,h1,h2,h3⟩
 ·rw [ZQs h1];exact ⟨ρ,.nil,h2⟩
 ·rcases hv with hv|hv
  ·exact absurd hv hM.not_empty
  ·rw [ZUz hv]
   rw [ZFd hv] at hn;obtain ⟨ρ',a1,a2,_⟩:=exec_ok hg hv hb r ho hg (.refl _) hn rx its R ρ h1 h2 h3;exact ⟨ρ',a1,a2⟩
theorem Zkk {A:List (Bool × List Blk)} {L:List Blk} {la b:Nat} {r:AR} (hA:HasR ⟨A,false,L⟩ la b r) (hN:r.n<=r.blk.length) (h16:r.states.length<=16384) (h6:r.n<65536) {t:Tr} (hv:VE r.nodes t) (hb:t.bytes<=65536) (hn:nw t<=r.n) :
 ∃ L2 tx ver cs its F keys rx ρ,S Tb Y6 [.ptr la (b+5) 0 0 0,t.av] ⟨A,false,L⟩=some (.tup [.ptr A.length (L.length+1) 0 0 0,.int .i64 0],⟨A,false,L2⟩)/\Begun A L L2 la b t tx ver cs its F keys rx ρ:=by
 rcases hv with hv|hv
 ·exact Zh1 hA hN h16 h6 hv
 ·rw [ZFd hv] at hn
  exact Zlx (N:=r.nodes) hA hN h16 h6 hv hb hn
theorem Zq1 {A:List (Bool × List Blk)} {L:List Blk} {ix ver n:Nat} {l:List Nat} {ro:Ro} {e:Int} (hg:L[ix]?=some (.arr 1 ver (l.map Z9))) (hn:n=l.length) :
 ZY QG A.length ⟨A,false,L⟩ (.tup [ro.av,.ref A.length ix ver 0 n,.int .i64 e])=some (.tup [ro.av,.lit (l.map Z9),.int .i64 e],⟨A,false,L.set ix .dead⟩):=by
 subst hn
 have h1:=ZIj (n:=4) (A:=A) (s:=0) (m:=l.length) hg (by simp) (es':=l.map Z9) (by
  rw [List.drop_zero,List.take_of_length_le (by simp)]
  exact ZQp (k:=.u64) (fun n:Nat=>(n:Int)) 3 0 _ l)
 show (mapSt (ZY 5 A.length) _ _).bind Zde=_
 have h2:ZY 5 A.length ⟨A,false,L⟩ ro.av=some (ro.av,⟨A,false,L⟩):=rfl;simp only [mapSt,h2,oS,h1];rfl
theorem RunOk.len {its:List It} {r r':AR} {ρ ρ':Nat->Ro} {hs:List Nat} (h:RunOk its r ρ r' ρ' hs):hs.length=its.length:=by
 induction h with
 | nil=>rfl
 | cons hn hx hk h ih=>simp [ih]
theorem RunOk.inv {it:It} {its:List It} {r r':AR} {ρ ρ':Nat->Ro} {l:List Nat} (h:RunOk (it::its) r ρ r' ρ' l) :
 ∃ hs,l=r.next::hs/\0<r.n/\NdOk (Q3 ρ it.c)/\ZQr r.nodes (Q3 ρ it.c)/\RunOk its (r.add (Q3 ρ it.c)) (ZN0 ρ it.rx r.next) r' ρ' hs:=by
 cases h with
 | cons hn hx hk h=>exact ⟨_,rfl,hn,hx,hk,h⟩
theorem RunOk.nil_inv {r r':AR} {ρ ρ':Nat->Ro} {l:List Nat} (h:RunOk [] r ρ r' ρ' l):l=[]/\r'=r/\ρ'=ρ:=by
 cases h;exact ⟨rfl,rfl,rfl⟩
theorem Zn8 {st:St} {la b:Nat} (hl:la<=st.A.length) (rj r2:AR) {n:Nat} (hn:n=st.A.length+1) (L:List Blk) (ip tx ver len rx k:Nat) (ro:Ro) (j:Nat) :
 ZFc ⟨(Qk st la b rj).ps,false,L⟩ n ip tx ver la b len rx r2 k ro j=⟨(Qk st la b r2).ps,false,(L.set k (.arr 5 0 [ro.av])).set ip (.arr 3 0 [.agg [.ptr la (b+5) 0 0 0,.ref n tx ver (j+1) (len-j-1),.ptr n rx 0 0 0]])⟩:=by
 have e1:Qk ⟨(Qk st la b rj).ps,false,L⟩ la b r2=⟨(Qk st la b r2).ps,false,L⟩:=by
  rw [ZEN rfl (by rw [ZK9];exact hl),Zlp]
 have e2:((Qk st la b r2).ps).length=n:=by rw [hn];simp [ZK9]
 rw [ZFc,e1];unfold St.upd;simp only [e2,if_true]
theorem PenS.frm {A:List (Bool × List Blk)} {L L':List Blk} {n ip tx ver la b:Nat} {cls:List AV} {its:List It} {F:List (Nat × Blk)} {keys:List Nat} {rx:Nat} {ρ:Nat->Ro} {j:Nat} (h:PenS ⟨A,false,L⟩ n ip tx ver la b cls its F keys rx ρ j) (hn:n=A.length)
 (hg:∀ i,i=ip\/(cls≠[]/\i=tx)\/i∈keys\/(∃ p∈F,i=p.1)->L'[i]?=L[i]?):PenS ⟨A,false,L'⟩ n ip tx ver la b cls its F keys rx ρ j:=by
 subst hn;obtain ⟨td,h1,h2⟩:=h.pen
 have hget:∀ i,(i=ip\/(cls≠[]/\i=tx)\/i∈keys\/(∃ p∈F,i=p.1))->St.get ⟨A,false,L'⟩ A.length i=St.get ⟨A,false,L⟩ A.length i:=fun i hi=>by rw [St.get_cur,St.get_cur,hg i hi]
 refine ⟨by simp [St.wr],⟨td,by rw [hget _ (.inl rfl)];exact h1,?_⟩,h.cl,fun p hp=>by rw [hget _ (.inr (.inr (.inr ⟨p,hp,rfl⟩)))];exact h.fx p hp,fun k hk=>by rw [hget _ (.inr (.inr (.inl hk)))];exact h.rts k hk,h.key,h.rk,h.s1,h.s2,h.s3,h.ar,h.len,h.jl⟩
 rcases h2 with q|⟨hc,q1,q2⟩
 ·exact .inl q
 ·exact .inr ⟨hc,q1,by rw [hget _ (.inr (.inl ⟨hc,rfl⟩))];exact q2⟩
theorem Zn9 {e:Env} {A:List (Bool × List Blk)} {st:St} {L:List Blk} {x:Ex} {c4 c5 c6 j4 ix w4 v4 ver n:Nat} {l:List Nat} {ro:Ro} {z:Int} (hA:A=st.A++[(st.ro,st.L)]) (hx:x=.norm\/x=.ret) (h4:Jm e c4=some (.ptr A.length j4 v4 0 0)) (hg4:L[j4]?=some (.arr w4 v4 [ro.av]))
 (h5:Jm e c5=some (.ref A.length ix ver 0 n)) (hg5:L[ix]?=some (.arr 1 ver (l.map Z9))) (hn:n=l.length) (h6:Jm e c6=some (.int .i64 z)):Jd false [.c c4 true 5,.s c5,.s c6] (x,e,⟨A,false,L⟩)=some (.tup [ro.av,.lit (l.map Z9),.int .i64 z],st):=by
 refine ZCO (v:=.tup [ro.av,.ref A.length ix ver 0 n,.int .i64 z]) hA hx ?_ (Zq1 hg5 hn) rfl
 have h1:ZAK ⟨A,false,L⟩ e (.c c4 true 5)=some ro.av:=by
  simp only [ZAK,QF h4,loadP,St.get_cur,hg4,vis,ZCC,if_true,List.getElem?_cons_zero,oS];rfl
 simp only [QU,ZCz,h1,oS];simp only [ZAK,QF h5,QF h6,oS,Option.map_some,ZDg]
theorem Zf4 {st:St} {la b:Nat} {r:AR} (hA:Has st la b r) (ho:AROk r) (hg:GoodN r.nodes) {t:Tr} (hv:VE r.nodes t) (hb:t.bytes<=65536) (hn:nw t<=r.n) :
 S Tb Y5 [.ptr la (b+5) 0 0 0,t.av] st=some (.tup [(wrV t r).2.1.av,.lit ((wrV t r).2.2.map Z9),.int .i64 0],Qk st la b (wrV t r).1):=by
 refine ZBg rfl (fun A hA'=>?_)
 obtain ⟨LB,hLB⟩:∃ LB:List Blk,LB=[.arr 7 0 [t.av],.arr 5 0 [Ro.zero.av],.arr 1 0 []]:=⟨_,rfl⟩;have hle:=hA.le
 have hla:la<A.length:=by rw [hA'];simp;omega
 have h3:LB.length=3:=by rw [hLB];rfl
 obtain ⟨L2,tx,ver,cs,its,F,keys,rx,ρ,hS,hB⟩:=Zkk (L:=LB) (hA.push hA').r ho.nb ho.n16 (by have:=ho.nn;have:=ho.n16;omega) hv hb hn
 obtain ⟨ρ',hrun,hro⟩:=hB.pi.run ho hg hv hb hn
 generalize (wrV t r).1=r' at *
 generalize (wrV t r).2.2=hs at *
 generalize (wrV t r).2.1=ro at *
 have hcl:=hB.ps.cl.len
 have hk5:∀ k∈keys,5<=k:=fun k hk=>by have:=hB.klo k hk;omega
 have g1:L2[1]?=some (.arr 5 0 [Ro.zero.av]):=by rw [hB.old 1 (by omega),hLB];rfl
 have g2:L2[2]?=some (.arr 1 0 (([]:List Nat).map Z9)):=by rw [hB.old 2 (by omega),hLB];rfl
 have hps:=hB.ps;rw [h3] at hS hps;rw [hLB] at hS
 repeat' (first|refine ZE ?_|refine ZD ?_|refine ZG rfl ?_|refine Zy rfl rfl ?_|refine ZB rfl ?_|refine ZC ?_|(refine Zj rfl rfl (fun _=>?_) (fun _=>?_)<;>try (exfalso;omega))|refine ZH rfl ?_|refine Zh rfl rfl rfl ?_|refine XP rfl ?_|refine ZS rfl rfl rfl (Zm _) ?_|refine Zt rfl (Z3 _) (QD _) ?_|refine ZA rfl rfl (by first|rfl|(simp only [lE,lN,lC,Za,ZV,ZW];first|done|rfl)) (hS) ?_|refine ZI ?_|refine ZL ?_)
 all_goals try contradiction
 have hAn:A.length=st.A.length+1:=by rw [hA'];simp
 have hhl:=hrun.len
 refine Zx (α:=Bool × Nat × AR × (Nat->Ro) × List Blk) (fun p=>match p.1 with
  | true=>[(4,.ptr A.length 1 0 0 0),(5,.ref A.length 2 p.2.1 0 p.2.1),(6,.int .i64 0),(7,.ptr A.length 4 0 0 0),(18,.bool false)]
  | false=>[(4,.ptr A.length 1 0 0 0),(5,.ref A.length 2 p.2.1 0 p.2.1),(7,.ptr A.length 4 0 0 0)])
  (fun p=>⟨(Qk st la b p.2.2.1).ps,false,p.2.2.2.2⟩)
  (fun p=>PenS ⟨(Qk st la b p.2.2.1).ps,false,p.2.2.2.2⟩ A.length 4 tx ver la b cs its F keys rx p.2.2.2.1 p.2.1/\AROk p.2.2.1/\RunOk (its.drop p.2.1) p.2.2.1 p.2.2.2.1 r' ρ' (hs.drop p.2.1)/\p.2.1<=its.length/\p.2.2.2.2[1]?=some (.arr 5 0 [Ro.zero.av])/\p.2.2.2.2[2]?=some (.arr 1 p.2.1 ((hs.take p.2.1).map Z9)))
  (fun p=>its.length-p.2.1) (true,0,r,ρ,L2) rfl ?_ ?_ ?_
 ·simp only [hA.same,<- hA']
 ·simp only [hA.same,<- hA']
  exact ⟨hps,ho,hrun,Nat.zero_le _,g1,g2⟩
 rintro ⟨fst,j,rj,ρj,Lj⟩ ⟨q1,q2,q3,q4,q5,q6⟩
 simp only at q1 q2 q3 q4 q5 q6
 have hHj:Has ⟨(Qk st la b rj).ps,false,Lj⟩ la b rj:=(hA.put rj).push rfl;obtain ⟨td,t1,t2⟩:=q1.pen
 have hAl:A.length=(Qk st la b rj).ps.length:=by rw [hAn];simp [ZK9]
 rcases Nat.lt_or_ge j its.length with hlt|hge
 ·obtain ⟨it,hit⟩:∃ it,its[j]?=some it:=⟨its[j]'hlt,by simp [hlt]⟩
  have hd:its.drop j=it::its.drop (j+1):=by
   rw [List.drop_eq_getElem_cons hlt];rw [jE hlt] at hit;rw [Option.some.inj hit]
  rw [hd] at q3;obtain ⟨hs2,e1,hn1,hx1,hk1,hr1⟩:=q3.inv
  have hdj:hs[j]?=some rj.next:=by
   have:=List.getElem?_drop (xs:=hs) (i:=j) (j:=0)
   rw [e1] at this
   simpa using this.symm
  have hd2:hs.drop (j+1)=hs2:=by
   rw [<- List.drop_drop,e1];rfl
  obtain ⟨p1,p2,p3⟩:=q1.step hHj q2 hn1 hit hx1 hk1;rw [Zn8 hle rj _ hAn] at p1 p2
  have hjc:j<cs.length:=by rw [hcl];exact hlt
  have hne:cs≠[]:=fun q=>by rw [q] at hjc;simp at hjc
  rcases t2 with ⟨w,_⟩|⟨_,rfl,t3⟩
  ·exact absurd w hne
  obtain ⟨k1,_⟩:=q1.key it (jM hit);have hk5':=hk5 _ k1
  have hl4:Lj[4]?=some (.arr 3 0 [.agg [.ptr la (b+5) 0 0 0,.ref A.length tx ver j (cs.length-j),.ptr A.length rx 0 0 0]]):=by
   rw [hAl] at t1;rw [St.get_cur] at t1;rw [hAl];exact (ZB2 t1).1
  obtain ⟨r2,hr2⟩:∃ r2,r2=rj.add (Q3 ρj it.c):=⟨_,rfl⟩;rw [<- hr2] at p1 p2 hr1
  have ho2:AROk r2:=by rw [hr2];exact q2.add hn1 _
  have hAl2:A.length=(Qk st la b r2).ps.length:=by rw [hAn];simp [ZK9]
  obtain ⟨L3,hL3⟩:∃ L3,L3=(Lj.set it.rx (.arr 5 0 [((ρj it.rx).wr rj.next).av])).set 4 (.arr 3 0 [.agg [.ptr la (b+5) 0 0 0,.ref A.length tx ver (j+1) (cs.length-j-1),.ptr A.length rx 0 0 0]]):=⟨_,rfl⟩;rw [<- hL3] at p1 p2
  have h31:L3[1]?=some (.arr 5 0 [Ro.zero.av]):=by rw [hL3,jS (by omega),jS (by omega)];exact q5
  have h32:L3[2]?=some (.arr 1 j ((hs.take j).map Z9)):=by rw [hL3,jS (by omega),jS (by omega)];exact q6
  have hj2:j=((hs.take j).map Z9).length:=by simp;omega
  have hj3:∀ x:AV,((hs.take j).map Z9).length+[x].length<4294967296:=fun x=>by have:=q1.len;simp;omega
  have hinv:∀ L4,L4=L3.set 2 (.arr 1 (j+1) ((hs.take j).map Z9++[.int .u64 rj.next]))->PenS ⟨(Qk st la b r2).ps,false,L4⟩ A.length 4 tx ver la b cs its F keys rx (ZN0 ρj it.rx rj.next) (j+1)/\AROk r2/\RunOk (its.drop (j+1)) r2 (ZN0 ρj it.rx rj.next) r' ρ' (hs.drop (j+1))/\j+1<=its.length/\L4[1]?=some (.arr 5 0 [Ro.zero.av])/\L4[2]?=some (.arr 1 (j+1) ((hs.take (j+1)).map Z9)):=by
   rintro L4 rfl
   refine ⟨?_,ho2,by rw [hd2];exact hr1,hlt,by rw [jS (by omega)];exact h31,?_⟩
   ·refine p2.frm hAl2 (fun i hi=>jS ?_)
    rcases hi with rfl|⟨hc,rfl⟩|q|⟨p,hp,rfl⟩
    ·omega
    ·have:=hB.tlo hc;omega
    ·have:=hk5 i q;omega
    ·have:=hB.flo p hp;omega
   ·rw [List.getElem?_set_self (List.getElem?_eq_some_iff.1 h32).1,Zc hdj,List.map_append];rfl
  obtain ⟨A2,hA2⟩:∃ A2,A2=(Qk st la b r2).ps:=⟨_,rfl⟩;obtain ⟨A1,hA1⟩:∃ A1,A1=(Qk st la b rj).ps:=⟨_,rfl⟩;rw [<- hA1] at p1 hAl ⊢;rw [<- hA2] at p1 hAl2;have hA12:A1.length=A2.length:=hAl.symm.trans hAl2;rw [hAl] at hl4 p1 hinv ⊢
  cases fst
  all_goals simp only
  all_goals repeat' (first|refine ZA rfl rfl rfl p1 ?_|refine ZE ?_|refine ZD ?_|refine ZG rfl ?_|refine ZQ rfl rfl ?_|refine Zy rfl rfl ?_|refine ZB rfl ?_|refine ZC ?_|refine Z8 rfl rfl ?_|refine Qr rfl ?_|(refine Qd rfl rfl (fun _=>?_) (fun _=>?_)<;>try (exfalso;omega))|(refine Zj rfl rfl (fun _=>?_) (fun _=>?_)<;>try (exfalso;omega))|refine ZU rfl ?_|refine ZH rfl ?_|refine QZ rfl rfl rfl rfl ?_|refine ZS rfl hl4 rfl rfl ?_|refine ZI ?_|refine ZL ?_)
  all_goals try contradiction
  all_goals try (exfalso;omega)
  all_goals rw [hA12]
  all_goals repeat' (first|refine ZAH rfl rfl h32 hj2 rfl rfl (hj3 _) (by decide) ?_|refine ZG rfl ?_|refine ZB rfl ?_|refine Z1 ?_|refine QB ?_)
  all_goals rw [hA12,hA2] at hinv
  all_goals rw [hA2]
  all_goals exact ⟨(false,j+1,r2,ZN0 ρj it.rx rj.next,_),⟨rfl,rfl⟩,hinv _ rfl,by simp only;omega⟩
 ·obtain rfl:j=its.length:=by omega
  rw [List.drop_length,<- hhl,List.drop_length] at q3;obtain ⟨_,rfl,rfl⟩:=q3.nil_inv;rw [<- hhl,List.take_length] at q6;have hRt:=Zr6 q1 hcl.symm;rw [hro] at hRt;obtain ⟨A1,hA1⟩:∃ A1,A1=(Qk st la b r').ps:=⟨_,rfl⟩;rw [<- hA1] at hRt hAl ⊢
  have hl4:∃ w,Lj[4]?=some (.arr 3 0 [.agg [.ptr la (b+5) 0 0 0,td,w]])/\(td=.nils\/∃ v,td=.ref A.length tx v its.length 0):=by
   rw [hAl,hA1,St.get_cur] at t1;refine ⟨_,(ZB2 t1).1,?_⟩
   rcases t2 with ⟨_,w⟩|⟨_,w,_⟩
   ·exact .inl w
   ·refine .inr ⟨ver,?_⟩
    rw [w,hcl,Nat.sub_self]
  obtain ⟨w4,hl4,htd⟩:=hl4
  rw [<- hhl] at *
  have hl1:=(List.getElem?_eq_some_iff.1 q5).1;rw [hAl] at hRt htd ⊢
  rcases htd with rfl|⟨v,rfl⟩
  all_goals cases fst
  all_goals simp only
  all_goals repeat' (first|refine ZA rfl rfl rfl hRt ?_|refine ZE ?_|refine ZD ?_|refine ZG rfl ?_|refine ZQ rfl rfl ?_|refine Zy rfl rfl ?_|refine ZB rfl ?_|refine ZC ?_|refine Z8 rfl rfl ?_|refine Qr rfl ?_|refine J4 rfl ?_|(refine Qd rfl rfl (fun _=>?_) (fun _=>?_)<;>try (exfalso;omega))|refine ZH rfl ?_|refine ZS rfl hl4 rfl rfl ?_|refine Zv ?_|refine Zf ?_|refine Zd rfl ?_|refine Zo ?_)
  all_goals try (exfalso;omega)
  all_goals refine JH q5 rfl rfl rfl rfl rfl ?_
  all_goals repeat' (first|refine ZE ?_|refine ZD ?_|refine ZG rfl ?_|refine ZB rfl ?_|refine ZC ?_|refine ZS rfl (List.getElem?_set_self hl1) rfl rfl ?_)
  all_goals refine JH (List.getElem?_set_self hl1) rfl rfl rfl rfl rfl ?_
  all_goals rw [List.set_set]
  all_goals repeat' (first|refine ZG rfl ?_|refine ZB rfl ?_|refine ZC ?_|refine ZP ?_|refine ZJ ?_)
  all_goals exact Zn9 (ro:=ro) hA1 (.inr rfl) rfl (List.getElem?_set_self hl1) rfl ((jS (by omega)).trans q6) (by simp) rfl
end Go.Q15
namespace Go.QAbs
abbrev Cut1:=FuncId->Option (List AV->St->Option (AV × St))
def ShOk (T:Tab) (sh:Cut1):Prop:=∀ f o args st r,sh f=some o->o args st=some r->S T f args st=some r
def TLe (T T':Tab):Prop:=∀ f x,T f=some x->T' f=some x
theorem ZdU {T T':Tab} (h:TLe T T'):∀ n,Le (Qa T n) (Qa T' n)
 | 0=>fun _ _ _ _ q=>by simp [Qa] at q
 | n+1=>fun f _ _ _ q=>QV (fun x q=>h f x q) (fun x _ q=>by
  cases x with
  | pf pf=>exact ZJY (ZdU h n) (Zdu (Nat.le_refl n)) q
  | base o=>exact q) q
theorem Zh3 {T T':Tab} (h:TLe T T'):Le (S T) (S T'):=fun f a st r q=>by
 obtain ⟨n,hn⟩:=S_iff.1 q;exact S_iff.2 ⟨n,ZdU h n _ _ _ _ hn⟩
theorem ZoA:∀ (A:List (Bool × List Blk)) (r:Bool × List Blk),pop (A++[r])=some (A,r)
 | [],r=>rfl
 | [a],r=>rfl
 | a::b::A,r=>by
  have:=ZoA (b::A) r
  rw [lC,lC,pop];rw [lC] at this;rw [this];rfl
theorem Zh4 (v:AV) (st:St) (ro:Bool) (L:List Blk):Jt (v,⟨st.ps,ro,L⟩)=some (v,st):=by
 simp only [Jt,ZoA,oS,ZOB]
section
variable {k:List Fr} {Q:Jw} {e:Env} {st:St} {keep:List Nat} {is:List PI} {d:Nat} {T:Tab}
theorem Zh5 {st':St} {f:Opd} {args:List Opd} {lv:Nat} {cs vs ws:List AV} {v:AV} (hf:Zb e f=some (.func (.yield lv) [] cs)) (ha:ZG5 e args=some vs) (hw:Za (vs++cs)=ws) (hc:S T (yB+lv) ws st=some (v,st'))
 (h:Is (S T) is keep k Q ((d,v)::e) st'):Is (S T) (⟨some d,none,false,.call .norm f args⟩::is) keep k Q e st:=by
 refine Z4 (od:=some d) (v:=v) (st':=st') ?_ h;simp only [Zg,ZF hf,Xa ha,ZAs,JB,hw,hc]
theorem ZN1 {nt:Nat} {rg:Rng} {args:List AV} {st':St} (hl:args.length=rg.ps.length+nt)
 (h:∀ A,A=st.ps->Ru (S T) rg.assign [] (fun x e s=>x=.norm/\Ru (S T) rg.body [] (fun x e s=>x=.norm/\s.A=st'.ps) e s) (ZLa rg.ps args (Qq 0 (args.drop rg.ps.length))) ⟨A,false,[]⟩):Yu (S T) itS nt rg args st=some (.bool true,st'):=by
 obtain ⟨x,e1,s1,h1,h2⟩:=(h _ rfl).h;obtain ⟨rfl,⟨x,e2,s2,h3,h4⟩⟩:=h2;obtain ⟨rfl,h5⟩:=h4;unfold Yu;rw [if_pos hl]
 have:st.push=⟨st.ps,false,[]⟩:=rfl
 rw [this,h1,oS];simp only [ZOS,h3,oS,Zgy];obtain ⟨A,ro,L⟩:=s2
 simp only at h5
 subst h5;exact Zh4 _ _ _ _
theorem Zf5 {OT:Nat->Orc} {nt:Nat} {rg:Rng} {g:FuncId} {first cap:List AV} {v:AV} {ro:Bool} {L:List Blk} {st2:St} (hg:Zb e rg.g=some (.func (.func g) first cap)) (hy:g<yB)
 (hc:OT (st.A.length+1) g (Za (first++[.func (.yield (st.A.length+1)) [] (ZFh nt e)]++cap)) ⟨st.ps,false,[]⟩=some (v,⟨st2.ps,ro,L⟩)):ZRb OT nt rg e st=some (.norm,e,st2):=by
 unfold ZRb;rw [ZF hg];simp only [if_pos hy]
 have:st.push=⟨st.ps,false,[]⟩:=rfl
 rw [this,hc,oS,ZlO,Zh4,oS]
theorem Zq2 {T0:Tab} {f:FuncId} {rf:RF} {args:List AV} {r:AV × St} (hT:T f=some (.base (rfO T0 rf)))
 (h:∀ A,A=st.ps->Ru (S T0) rf.pre [] (fun x e s=>(x=.ret/\Jd false rf.res (.ret,e,s)=some r)\/(x=.norm/\∃ s2,ZRb (fun lv=>S (ZLb T0 lv (Yu (S T0) itS rf.nt rf.rng))) rf.nt rf.rng e s=some (.norm,e,s2)/\Ru (S T0) rf.post [] (fun x e s=>Jd false rf.res (x,e,s)=some r) e s2)) (Qq 0 args) ⟨A,false,[]⟩):S T f args st=some r:=by
 refine ZVG (o:=rfO T0 rf) hT ?_;obtain ⟨x,e1,s1,h1,h2⟩:=(h _ rfl).h;unfold rfO rfG ZJa
 have:st.push=⟨st.ps,false,[]⟩:=rfl
 rw [this,h1,oS]
 rcases h2 with ⟨rfl,h3⟩|⟨rfl,s2,h3,⟨x,e3,s3,h5,h6⟩⟩
 ·simp only [J8,oS];exact h3
 ·simp only [J8,h3,oS,h5];exact h6
end
theorem ZU0 {T:Tab} (hT:∀ f x,T f=some x->f<yB) (lv:Nat) (o:List AV->St->Option (AV × St)):TLe T (ZLb T lv o):=fun f x hx=>by
 unfold ZLb;rw [if_neg]
 ·exact hx
 ·intro q;exact Zd4 (hT f x hx) q
theorem ZU1 (T:Tab) (lv:Nat) (o:List AV->St->Option (AV × St)) (args:List AV) (st:St) {r:AV × St} (h:o args st=some r):S (ZLb T lv o) (yB+lv) args st=some r :=
 ZVG (o:=o) (by unfold ZLb;rw [if_pos rfl]) h
end Go.QAbs
namespace Go.Q15
open Go Go.QAbs
set_option maxRecDepth 100000
set_option maxHeartbeats 8000000
def ZAe (N:ZO) (o:Nat):Nd:=(lk N o).getD ⟨0,[],none⟩
theorem QY {N:ZO} {o:Nat} {x:Nd} (h:lk N o=some x):ZAe N o=x:=by unfold ZAe;rw [h];rfl
def Qg (N:ZO):Nat->Nat->List Nat
 | 0,o=>[o]
 | n+1,o=>o::(ZAe N o).ks.flatMap fun k=>Qg N n k.at_
def Zh6 (x:Nd):AV:=.agg [.int .i64 x.h,.str x.text,.lit (x.ks.map Kid.av),.int .i64 0]
theorem ZIW {s:St} {l i:Nat} {b:Blk} (h:s.get l i=some b) (more:List (Bool × List Blk)) (ro:Bool) (L:List Blk):St.get ⟨s.ps++more,ro,L⟩ l i=some b:=by
 have hl:=St.get_le h;have h1:=ZX (A:=s.ps) rfl (ro:=ro) (L:=L) h;unfold St.get at h1 ⊢
 have e1:l≠s.ps.length:=by simp;omega
 have e2:l≠(s.ps++more).length:=by simp;omega
 simp only [if_neg e1,if_neg e2] at h1 ⊢
 rw [jL (by simp;omega)]
 exact h1
theorem Rd.more {s:St} {lv ix:Nat} {N:ZO} (h:Rd s lv ix N) (more:List (Bool × List Blk)) (ro:Bool) (L:List Blk):Rd ⟨s.ps++more,ro,L⟩ lv ix N:=by
 obtain ⟨a0,a1,im,a3,a4,a5,h1,h2⟩:=h;exact ⟨a0,a1,im,a3,a4,a5,ZIW h1 _ _ _,ZIW h2 _ _ _⟩
theorem ZN2 {N:ZO} {h:Nat} {x:Nd} (hx:lk N h=some x) (hok:NdOk x) {n:Nat} (hh:x.h=n):Qg N n h=h::x.ks.flatMap fun k=>Qg N (n-1) k.at_:=by
 cases n with
 | zero =>
  have:x.ks=[]:=by
   rcases hok with q|⟨m,ks,q⟩
   ·exact q.ks
   ·have:=congrArg Nd.h q.eq;simp only at this;omega
  rw [this];rfl
 | succ n=>rw [Qg,QY hx];rfl
theorem ZoB {N:ZO} (hN:GoodN N):∀ (n h:Nat) (x:Nd),lk N h=some x->x.h=n->3*(Qg N n h).length+1<=4 ^ (n+1):=by
 intro n
 induction n with
 | zero=>intro h x hx hh;simp [Qg]
 | succ n ih =>
  intro h x hx hh;obtain ⟨hok,hk⟩:=hN h x hx;rw [Qg,QY hx,List.length_cons]
  have h6:4 ^ (n+1+1)=4*4 ^ (n+1):=by rw [Nat.pow_succ,Nat.mul_comm]
  rw [h6];clear h6
  have hP1:1<=4 ^ (n+1):=Nat.pow_pos (by decide)
  generalize 4 ^ (n+1)=P at *
  have key:∀ l:List Kid,(∀ k∈l,k∈x.ks)->3*(l.flatMap fun k=>Qg N n k.at_).length+l.length<=l.length*P:=by
   intro l
   induction l with
   | nil=>intro _;simp
   | cons k l ih2 =>
    intro hm
    obtain ⟨_,y,y1,y2,_⟩:=hk k (hm k (by simp))
    have h1:=ih k.at_ y y1 (by omega)
    have h2:=ih2 fun q hq=>hm q (by simp [hq])
    rw [List.flatMap_cons,lL,List.length_cons,Nat.add_mul,Nat.one_mul];omega
  have h1:=key x.ks fun _ h=>h
  have h4:=hok.len;have h5:x.ks.length*P<=4*P:=Nat.mul_le_mul_right _ h4
  rcases hok with q|⟨m,ks,q⟩
  ·have:=q.h;omega
  ·have e:=q.eq
   have h7:=q.lo;subst e;simp only [Nd.ks,Option.getD_some] at h1 h4 h5 ⊢;have h8:(4-ks.length)*1<=(4-ks.length)*P:=Nat.mul_le_mul_left _ hP1
   have h9:ks.length*P+(4-ks.length)*P=4*P:=by rw [<- Nat.add_mul];congr 1;omega
   omega
structure NW (σ:List Nat->St) (lv:Nat) (caps:List AV) (la b:Nat) (more:List (Bool × List Blk)) (ro:Bool) (L:List Blk) (l1 i1 l2 i2 l3 i3:Nat):Prop where
 a:∀ v,St.get ⟨(σ v).ps++more,ro,L⟩ l1 i1=some (.arr 1 0 [.ptr la (b+5) 0 0 0])
 y:∀ v,St.get ⟨(σ v).ps++more,ro,L⟩ l2 i2=some (.arr 1 0 [.func (.yield lv) [] caps])
 w:∀ v,St.get ⟨(σ v).ps++more,ro,L⟩ l3 i3=some (.arr 1 0 [.func (.func YG) [] [.ptr l1 i1 0 0 0,.ptr l2 i2 0 0 0,.ptr l3 i3 0 0 0]])
theorem NW.push {σ:List Nat->St} {lv:Nat} {caps:List AV} {la b:Nat} {more:List (Bool × List Blk)} {ro:Bool} {L:List Blk} {l1 i1 l2 i2 l3 i3:Nat} (h:NW σ lv caps la b more ro L l1 i1 l2 i2 l3 i3) (L':List Blk):NW σ lv caps la b (more++[(ro,L)]) false L' l1 i1 l2 i2 l3 i3 :=
 ⟨fun v=>ZX (st:=⟨(σ v).ps++more,ro,L⟩) (by rw [<- List.append_assoc]) (h.a v),fun v=>ZX (st:=⟨(σ v).ps++more,ro,L⟩) (by rw [<- List.append_assoc]) (h.y v),fun v=>ZX (st:=⟨(σ v).ps++more,ro,L⟩) (by rw [<- List.append_assoc]) (h.w v)⟩
theorem Zr9 {TY:Tab} (hT:TLe Tb TY) {σ:List Nat->St} {N:ZO} (hN:GoodN N) {la b lv:Nat} {caps:List AV} (hcw:Za caps=caps) (hRd:∀ v,Rd (σ v) la (b+5) N) (hlen:∀ v,(σ v).A.length=(σ []).A.length)
 {B:Nat} (hy:∀ v h x more ro L,v.length<B->lk N h=some x->S TY (yB+lv) (.int .u64 (h:Nat)::Zh6 x::caps) ⟨(σ v).ps++more,ro,L⟩=some (.bool true,⟨(σ (v++[h])).ps++more,ro,L⟩)) :
 ∀ n h x,lk N h=some x->x.h=n->∀ v more ro L l1 i1 l2 i2 l3 i3,v.length+(Qg N n h).length<=B->NW σ lv caps la b more ro L l1 i1 l2 i2 l3 i3 ->
  S TY YG [.int .u64 (h:Nat),.ptr l1 i1 0 0 0,.ptr l2 i2 0 0 0,.ptr l3 i3 0 0 0] ⟨(σ v).ps++more,ro,L⟩=some (.bool true,⟨(σ (v++Qg N n h)).ps++more,ro,L⟩):=by
 intro n
 induction n using Nat.strongRecOn with
 | ind n ih =>
  intro h x hx hh v more ro L l1 i1 l2 i2 l3 i3 hB hw;have hok:=(hN h x hx).1;rw [ZN2 hx hok hh,List.length_cons] at hB;have hkids:=(hN h x hx).2;have hk4:=hok.len
  refine ZBg (hT _ _ rfl) (fun A hA=>?_)
  have hA2:A=(σ v).ps++(more++[(ro,L)]):=by rw [hA,List.append_assoc]
  clear hA;subst hA2
  have hw2:=fun L'=>hw.push L'
  have hG:∀ v' L',S TY QS [.ptr la (b+5) 0 0 0,.int .u64 h] ⟨(σ v').ps++(more++[(ro,L)]),false,L'⟩=some (.tup [.agg [.int .i64 x.h,.str x.text,.lit (x.ks.map Kid.av)],.int .i64 0],⟨(σ v').ps++(more++[(ro,L)]),false,L'⟩):=fun v' L'=>Zh3 hT _ _ _ _ (ZZT ((hRd v').more _ _ _) hx hk4)
  have hY:=fun L'=>hy v h x (more++[(ro,L)]) false L' (by omega) hx
  unfold Zh6 at hY
  have hwk:Za ([AV.int .u64 h,.agg [.int .i64 x.h,.str x.text,.lit (x.ks.map Kid.av),.int .i64 0]]++caps)=.int .u64 h::.agg [.int .i64 x.h,.str x.text,.lit (x.ks.map Kid.av),.int .i64 0]::caps:=by
   simp only [lC,lE,Za,weak,hcw]
  repeat' (first|refine Zh5 rfl rfl hwk (hY _) ?_|refine ZE ?_|refine ZD ?_|refine ZG rfl ?_|refine ZQ rfl rfl ?_|refine ZS rfl rfl rfl rfl ?_|refine QM rfl ?_|refine Zs rfl rfl rfl rfl ?_|refine Zy rfl rfl ?_|refine ZB rfl ?_|refine ZC ?_|(refine Zj rfl rfl (fun _=>?_) (fun _=>?_)<;>try (exfalso;omega))|refine ZH rfl ?_|refine JO rfl rfl ?_|refine Zq rfl rfl rfl ?_|refine Zh rfl rfl rfl ?_|refine Zw rfl rfl rfl rfl rfl rfl ?_|refine QA rfl ((hw2 _).a v) rfl rfl ?_|refine QA rfl ((hw2 _).y v) rfl rfl ?_|refine ZA rfl rfl rfl (hG _ _) ?_|refine ZI ?_)
  all_goals try contradiction
  have hl2:∀ v v',((σ v).ps++(more++[(ro,L)])).length=((σ v').ps++(more++[(ro,L)])).length:=fun v v'=>by
   simp only [lL];rw [hlen v,hlen v'];rfl
  rw [hl2 v (v++[h])];rw [ZN2 hx hok hh]
  repeat' (first|refine ZG rfl ?_|refine ZS rfl rfl rfl rfl ?_|refine ZB rfl ?_|refine ZC ?_|refine QH rfl ?_|refine ZL ?_)
  refine Zx (α:=Nat × List Blk) (fun p=>[(3,.ptr l3 i3 0 0 0),(28,.lit (x.ks.map Kid.av)),(29,.int .i64 x.ks.length),(30,.int .i64 p.1)])
   (fun p=>⟨(σ (v++h::(x.ks.take p.1).flatMap fun k=>Qg N (n-1) k.at_)).ps++(more++[(ro,L)]),false,.arr 3 0 [.agg [.int .i64 x.h,.str x.text,.lit (x.ks.map Kid.av)]]::p.2⟩) (fun p=>p.1<=x.ks.length) (fun p=>x.ks.length-p.1) (0,[]) rfl rfl (Nat.zero_le _) ?_
  rintro ⟨i,G⟩ hi
  simp only at hi ⊢
  rcases Nat.lt_or_ge i x.ks.length with hlt|hge
  ·obtain ⟨kd,hk'⟩:∃ k,x.ks[i]?=some k:=⟨x.ks[i]'(by omega),by simp [hlt]⟩
   obtain ⟨_,y,y1,y2,y3⟩:=hkids kd (jM hk')
   have hk1:0<=((i:Nat):Int)/\x.ks[((i:Nat):Int).toNat]?=some kd:=⟨by omega,by rw [show ((i:Nat):Int).toNat=i by omega];exact hk'⟩
   have ihk:=fun v' L' hb=>ih y.h (by omega) kd.at_ y y1 rfl v' _ _ L' l1 i1 l2 i2 l3 i3 hb (hw2 L')
   have hfin:(v++h::(x.ks.take i).flatMap fun k=>Qg N (n-1) k.at_)++Qg N y.h kd.at_=v++h::(x.ks.take (i+1)).flatMap fun k=>Qg N (n-1) k.at_:=by
    rw [Zc hk',List.flatMap_append,List.append_assoc,show n-1=y.h by omega]
    simp
   obtain ⟨v1,hv1⟩:∃ v1,v1=v++h::(x.ks.take i).flatMap fun k=>Qg N (n-1) k.at_:=⟨_,rfl⟩
   rw [<- hv1] at hfin ⊢
   have hb1:v1.length+(Qg N y.h kd.at_).length<=B:=by
    rw [<- lL,hfin,lL,List.length_cons]
    have h1:(x.ks.flatMap fun k=>Qg N (n-1) k.at_)=(x.ks.take (i+1)).flatMap (fun k=>Qg N (n-1) k.at_)++(x.ks.drop (i+1)).flatMap (fun k=>Qg N (n-1) k.at_):=by
     rw [<- List.flatMap_append,List.take_append_drop]
    have h2:=congrArg List.length h1;rw [lL] at h2;omega
   repeat' (first|refine Jl rfl rfl hk1 (fun _=>rfl) ?_|refine ZA rfl rfl rfl (ihk v1 _ hb1) ?_|refine ZE ?_|refine ZD ?_|refine ZG rfl ?_|refine ZQ rfl rfl ?_|refine ZB rfl ?_|refine ZC ?_|refine Qe rfl rfl rfl ?_|refine QQ rfl rfl ?_|(refine Zi rfl rfl (fun _=>?_) (fun _=>?_)<;>try (exfalso;omega))|refine ZU rfl ?_|refine ZH rfl ?_|refine JO rfl rfl ?_|refine Zl rfl rfl (by omega) ?_|refine Zt rfl rfl rfl ?_|refine JV rfl rfl rfl rfl rfl rfl ?_|refine QA rfl ((hw2 _).w v1) rfl rfl ?_|refine ZI ?_|refine ZL ?_|refine Z1 ?_|refine QB ?_)
   refine ⟨(i+1,G++[Blk.arr 4 0 [kd.av]]),⟨rfl,?_⟩,by simp only;omega,by simp only;omega⟩
   rw [hfin];rfl
  ·obtain rfl:i=x.ks.length:=by omega
   rw [List.take_length]
   repeat' (first|refine ZE ?_|refine ZD ?_|refine ZG rfl ?_|refine ZB rfl ?_|refine ZC ?_|(refine Zi rfl rfl (fun _=>?_) (fun _=>?_)<;>try (exfalso;omega))|refine ZH rfl ?_|refine ZP ?_|refine Zv ?_|refine ZJ ?_|refine Zf ?_|refine Zd rfl ?_|refine Zo ?_)
   all_goals try (exfalso;omega)
   refine Ze (st:=⟨(σ _).ps++more,ro,L⟩) (by rw [<- List.append_assoc]) (.inr rfl) rfl rfl rfl rfl ?_
   rfl
theorem ZIX:∀ {l:List (FuncId × Ent)},(l.all fun p=>decide (p.1<yB))=true->∀ f x,Xs l f=some x->f<yB
 | [],_,f,x,h=>by simp [Xs] at h
 | p::l,ha,f,x,h=>by
  simp only [List.all_cons,Bool.and_eq_true,decide_eq_true_eq] at ha;simp only [Xs] at h
  split at h
  ·rename_i e;rw [<- e];exact ha.1
  ·exact ZIX ha.2 f x h
theorem Zh7:∀ f x,Tb f=some x->f<yB:=ZIX (l:=tl) (by decide +kernel)
def RtOk (N:ZO) (r:Ro):Prop:=r=.zero\/(r.at_≠0/\∃ x,lk N r.at_=some x/\NdOk x/\x.h=r.h/\x.mea=r.m)
def Zu (N:ZO) (r:Ro):List Nat:=if r.at_=0 then [] else Qg N r.h r.at_
theorem RtOk.h13 {N:ZO} (hN:GoodN N) {r:Ro} (hr:RtOk N r):r.h<=13:=by
 rcases hr with rfl|⟨h0,x,h1,h2,h3,h4⟩
 ·decide
 ·have hv:Val N (.keep r):=.kept h0 h1 h2 h3 h4 rfl
  have hb:(Tr.keep r).bytes=r.m.b:=by simp [Tr.keep,Tr.bytes,Tr.bytesO]
  have:=h2.mea_pos
  exact hv.height hN (by rw [hb,<- h4];omega)
theorem ZCx {N:ZO} (hN:GoodN N) {r:Ro} (hr:RtOk N r):(Zu N r).length<100000000:=by
 have h13:=hr.h13 hN;unfold Zu
 split
 ·simp
 ·rename_i q
  rcases hr with rfl|⟨h0,x,h1,h2,h3,h4⟩
  ·exact absurd rfl q
  ·have:=ZoB hN r.h r.at_ x h1 h3
   have h5:4 ^ (r.h+1)<=4 ^ 14:=Nat.pow_le_pow_right (by decide) (by omega)
   have h6:(4:Nat) ^ 14=268435456:=by decide
   omega
def JE (r:Ro):Tr:=if r.at_=0 then .zero else .keep r
theorem ZIw {st:St} {lv ix:Nat} {N:ZO} (hr:Rd st lv ix N) {r:Ro} (h:RtOk N r):S Tb J5 [.ptr lv ix 0 0 0,r.av] st=some (.tup [(JE r).av,.int .i64 0],st):=by
 unfold JE
 rcases h with rfl|⟨h0,x,h1,h2,h3,h4⟩
 ·rw [if_pos (by rfl)];exact Zle
 ·rw [if_neg h0];exact Zru hr h1 h2 h0 h3 h4
theorem Zf6 {A:List (Bool × List Blk)} {L:List Blk} {la b:Nat} {r:Ro}:S Tb X3 [.ptr la (b+5) 0 0 0,r.av] ⟨A,false,L⟩=some (.func (.func Qm) [] [.ptr A.length L.length 0 0 0,.ptr A.length (L.length+1) 0 0 0],⟨A,false,L++[.arr 1 0 [.ptr la (b+5) 0 0 0],.arr 5 0 [r.av]]⟩):=by
 refine Xw rfl ?_
 have e0:(⟨A,false,L⟩:St)=⟨A,false,L++[]⟩:=by rw [lN]
 rw [e0];unfold Ro.av
 repeat' (first|refine Yl rfl rfl rfl rfl rfl ?_|refine ZE ?_|refine ZD ?_|refine ZG rfl ?_|refine ZB rfl ?_|refine ZC ?_|refine Xu rfl rfl ?_|refine ZP ?_|refine ZJ ?_)
 refine (YE (.inr rfl) rfl rfl rfl rfl).trans ?_;rfl
theorem Zh8 {b a1 a2 a3 x1 x2 x3:Nat} {f:FuncId} (st:St) (h1:a1<b) (h2:a2<b) (h3:a3<b):ZY QG b st (.func (.func f) [] [.ptr a1 x1 0 0 0,.ptr a2 x2 0 0 0,.ptr a3 x3 0 0 0])=some (.func (.func f) [] [.ptr a1 x1 0 0 0,.ptr a2 x2 0 0 0,.ptr a3 x3 0 0 0],st):=by
 simp only [ZY,QG,ZgK,if_true,mapSt,oS,if_pos h1,if_pos h2,if_pos h3,Yg]
theorem ZoC {TY:Tab} (hT:TLe Tb TY) {σ:List Nat->St} {N:ZO} (hN:GoodN N) {la b lv:Nat} {caps:List AV} (hcw:Za caps=caps) (hRd:∀ v,Rd (σ v) la (b+5) N) (hlen:∀ v,(σ v).A.length=(σ []).A.length)
 {B:Nat} (hy:∀ v h x more ro L,v.length<B->lk N h=some x->S TY (yB+lv) (.int .u64 (h:Nat)::Zh6 x::caps) ⟨(σ v).ps++more,ro,L⟩=some (.bool true,⟨(σ (v++[h])).ps++more,ro,L⟩))
 {r:Ro} (hr:RtOk N r) (hB:(Zu N r).length<=B) {l1 i1 l4 i4:Nat} (ha:∀ v,(σ v).get l1 i1=some (.arr 1 0 [.ptr la (b+5) 0 0 0])) (hro:∀ v,(σ v).get l4 i4=some (.arr 5 0 [r.av])) :
 S TY Qm [.func (.yield lv) [] caps,.ptr l1 i1 0 0 0,.ptr l4 i4 0 0 0] ⟨(σ []).ps,false,[]⟩=some (.tup [],⟨(σ (Zu N r)).ps,false,[]⟩):=by
 refine ZBg (hT _ _ rfl) (fun A hA=>?_)
 have hA0:A=(σ []).ps++[(false,[])]:=hA
 have g4:∀ L,St.get ⟨A,false,L⟩ l4 i4=some (.arr 5 0 [r.av]):=fun L=>by rw [hA0];exact ZIW (hro []) _ _ _
 have l1l:l1<A.length+1:=by have:=St.get_le (ha []);rw [hA0];simp;omega
 unfold Ro.av at g4
 have hNW:∀ yv wv,yv=Blk.arr 1 0 [.func (.yield lv) [] caps]->wv=Blk.arr 1 0 [.func (.func YG) [] [.ptr l1 i1 0 0 0,.ptr A.length 0 0 0 0,.ptr A.length 1 0 0 0]]->NW σ lv caps la b [(false,[])] false [yv,wv] l1 i1 A.length 0 A.length 1:=by
  rintro yv wv rfl rfl
  have hl:∀ v,A.length=((σ v).ps++[(false,([]:List Blk))]).length:=fun v=>by rw [hA0];simp [hlen v]
  refine ⟨fun v=>ZIW (ha v) _ _ _,fun v=>?_,fun v=>?_⟩
  ·rw [hl v,St.get_cur];rfl
  ·rw [hl v,St.get_cur];rfl
 by_cases h0:r.at_=0
 ·have e:Zu N r=[]:=by unfold Zu;rw [if_pos h0]
  rw [e]
  repeat' (first|refine ZE ?_|refine ZD ?_|refine ZQ rfl rfl ?_|refine ZB rfl ?_|refine ZC ?_|(refine Zj rfl rfl (fun _=>?_) (fun _=>?_)<;>try (exfalso;omega))|refine ZH rfl ?_|refine Xu rfl rfl ?_|refine Zh rfl rfl rfl ?_|refine Zw rfl rfl rfl (Zh8 _ l1l (Nat.lt_succ_self _) (Nat.lt_succ_self _)) rfl rfl ?_|refine QA rfl (g4 _) rfl rfl ?_|refine ZI ?_|refine ZJ ?_)
  all_goals try (exfalso;omega)
  refine Ze hA (.inl rfl) rfl rfl rfl rfl ?_;rfl
 ·have e:Zu N r=Qg N r.h r.at_:=by unfold Zu;rw [if_neg h0]
  rw [e] at hB ⊢
  obtain ⟨x,h1,h2,h3,h4⟩:∃ x,lk N r.at_=some x/\NdOk x/\x.h=r.h/\x.mea=r.m:=by
   rcases hr with rfl|q
   ·exact absurd rfl h0
   ·exact q.2
  have hW:=Zr9 hT hN hcw hRd hlen hy r.h r.at_ x h1 h3 [] [(false,[])] false _ l1 i1 A.length 0 A.length 1 (by simpa using hB) (hNW _ _ rfl rfl)
  rw [<- hA0,lE] at hW
  repeat' (first|refine ZA rfl rfl rfl hW ?_|refine ZE ?_|refine ZD ?_|refine ZQ rfl rfl ?_|refine ZS rfl rfl rfl rfl ?_|refine ZB rfl ?_|refine ZC ?_|(refine Zj rfl rfl (fun _=>?_) (fun _=>?_)<;>try (exfalso;omega))|refine ZU rfl ?_|refine Xu rfl rfl ?_|refine Zh rfl rfl rfl ?_|refine Zw rfl rfl rfl (Zh8 _ l1l (Nat.lt_succ_self _) (Nat.lt_succ_self _)) rfl rfl ?_|refine QA rfl (g4 _) rfl rfl ?_|refine ZJ ?_)
  all_goals try (exfalso;omega)
  refine Ze (st:=⟨(σ _).ps,false,[]⟩) rfl (.inl rfl) rfl rfl rfl rfl ?_;rfl
noncomputable def t1:List (FuncId × Ent):=(Xz,.base (rfO Tb p_rope_Check))::tl
noncomputable def T1:Tab:=Xs t1
theorem le1:TLe Tb T1:=fun g y hg=>by
 unfold T1 t1;simp only [Xs];rw [if_neg]
 ·exact hg
 ·intro e;subst e
  have:Xs tl Xz=none:=by decide +kernel
  unfold Tb at hg;rw [this] at hg;simp at hg
theorem Zkl {st:St} {la b:Nat} {N:ZO} (hN:GoodN N) (hR:Rd st la (b+5) N) {r:Ro} (hr:RtOk N r):S T1 Xz [.ptr la (b+5) 0 0 0,r.av] st=some (.int .i64 0,st):=by
 refine Zq2 (rf:=p_rope_Check) rfl (fun A hA=>?_)
 have hK:=fun L=>ZIw (hR.push hA (ro:=false) (L:=L)) hr
 have hNd:=fun L=>Zf6 (A:=A) (L:=L) (la:=la) (b:=b) (r:=r)
 obtain ⟨LF,hLF⟩:∃ LF:List Blk,LF=[.arr 5 0 [r.av],.arr 7 0 [(JE r).av],.arr 1 0 [.int .i64 0],.arr 1 0 [.ptr la (b+5) 0 0 0],.arr 5 0 [r.av]]:=⟨_,rfl⟩
 have hseq:=fun (caps:List AV) (hcw:Za caps=caps) (o:List AV->St->Option (AV × St)) hy=>ZoC (TY:=ZLb Tb (A.length+1) o) (ZU0 Zh7 _ _) (σ:=fun _=>⟨A,false,LF⟩) hN (lv:=A.length+1) (caps:=caps) hcw (fun _=>hR.push hA) (fun _=>rfl) (B:=(Zu N r).length) hy hr (Nat.le_refl _) (l1:=A.length) (i1:=3) (l4:=A.length) (i4:=4) (fun _=>by rw [St.get_cur,hLF];rfl) (fun _=>by rw [St.get_cur,hLF];rfl)
 unfold Ro.av at *
 repeat' (first|refine ZE ?_|refine ZD ?_|refine ZG rfl ?_|refine ZS rfl rfl rfl rfl ?_|refine Zy rfl rfl ?_|refine ZB rfl ?_|refine ZC ?_|(refine Zj rfl rfl (fun _=>?_) (fun _=>?_)<;>try (exfalso;omega))|refine ZH rfl ?_|refine Zh rfl rfl rfl ?_|refine Zw rfl rfl rfl rfl rfl rfl ?_|refine Zw rfl rfl rfl (QN _ _ _) (Qo _ _) rfl ?_|refine ZA rfl rfl (by first|rfl|(simp only [lE,lN,lC,Za,ZV,ZW];first|done|rfl)) (hK _) ?_|refine ZA rfl rfl (by first|rfl|(simp only [lE,lN,lC,Za,ZV,ZW];first|done|rfl)) (hNd _) ?_|refine ZI ?_|refine ZJ ?_)
 all_goals try contradiction
 have hS:=hseq (ZFh 30 [(7,.ptr A.length 2 0 0 0),(21,.func (.func Qm) [] [.ptr A.length 3 0 0 0,.ptr A.length 4 0 0 0]),(23,.any)]) rfl (Yu (S Tb) itS p_rope_Check.nt p_rope_Check.rng) (fun v h x more ro L _ hx=>ZU1 _ _ _ _ _ (ZN1 rfl (fun A' hA'=>by
  unfold Zh6
  repeat' (first|refine ZD ?_|refine ZB rfl ?_|refine Zh rfl rfl rfl ?_|refine Zw rfl rfl rfl rfl rfl rfl ?_|refine ZJ ?_)
  all_goals try (exfalso;omega)
  refine ⟨rfl,?_⟩
  repeat' (first|refine ZE ?_|refine ZD ?_|refine ZQ rfl rfl ?_|refine ZS rfl rfl rfl rfl ?_|refine ZB rfl ?_|refine ZC ?_|(refine Zj rfl rfl (fun _=>?_) (fun _=>?_)<;>try (exfalso;omega))|refine ZH rfl ?_|refine ZI ?_|refine ZL ?_|refine ZJ ?_|refine Z1 ?_)
  all_goals try contradiction
  exact ⟨rfl,hA'⟩)))
 rw [hLF] at hS
 refine .inr ⟨rfl,_,Zf5 (g:=Qm) rfl (by decide) hS,?_⟩
 repeat' (first|refine ZE ?_|refine ZD ?_|refine ZG rfl ?_|refine ZS rfl rfl rfl rfl ?_|refine ZB rfl ?_|refine ZC ?_|refine ZI ?_|refine ZP ?_|refine ZJ ?_)
 refine Ze hA (by first|exact .inl rfl|exact .inr rfl) rfl rfl rfl rfl ?_
 rfl
end Go.Q15
namespace Go.QAbs
theorem ZAf {s:St} {l i:Nat} {b:Blk} (h:s.get l i=some b) (more:List (Bool × List Blk)) (ro:Bool) (L:List Blk):St.get ⟨s.ps++more,ro,L⟩ l i=some b:=by
 have hl:=St.get_le h;have h1:=ZX (A:=s.ps) rfl (ro:=ro) (L:=L) h;unfold St.get at h1 ⊢
 have e1:l≠s.ps.length:=by simp;omega
 have e2:l≠(s.ps++more).length:=by simp;omega
 simp only [if_neg e1,if_neg e2] at h1 ⊢
 rw [jL (by simp;omega)]
 exact h1
theorem Zkm {s:St} {lv:Nat} (hl:lv<=s.A.length) (h:s.wr lv) (more:List (Bool × List Blk)) (ro:Bool) (L:List Blk):St.wr ⟨s.ps++more,ro,L⟩ lv:=by
 have h1:=Y4 (A:=s.ps) rfl hl h (ro:=ro) (L:=L);unfold St.wr at h1 ⊢
 have e1:lv≠s.ps.length:=by simp;omega
 have e2:lv≠(s.ps++more).length:=by simp;omega
 simp only [if_neg e1,if_neg e2] at h1 ⊢
 rw [jL (by simp;omega)]
 exact h1
theorem Zh9 {s:St} {lv ix:Nat} {b:Blk} (hl:lv<=s.A.length) (more:List (Bool × List Blk)) (ro:Bool) (L:List Blk):St.upd ⟨s.ps++more,ro,L⟩ lv ix b=⟨(s.upd lv ix b).ps++more,ro,L⟩:=by
 have h1:=Jf (A:=s.ps) (ro:=ro) (L:=L) rfl hl (ix:=ix) (b:=b);unfold St.upd at h1 ⊢
 have e1:lv≠s.ps.length:=by simp;omega
 have e2:lv≠(s.ps++more).length:=by simp;omega
 simp only [if_neg e1,if_neg e2] at h1 ⊢;simp only [St.mk.injEq,and_true] at h1 ⊢
 rw [jL (by simp;omega),List.set_append_left _ _ (by simp;omega),h1]
theorem ZEP:∀ {ks:List (Nat × Nat)} {s:St} {bs:List Blk} {more:List (Bool × List Blk)} {ro:Bool} {L:List Blk},(∀ k∈ks,k.1<=s.A.length)->JW ⟨s.ps++more,ro,L⟩ ks bs=⟨(JW s ks bs).ps++more,ro,L⟩
 | [],_,bs,_,_,_,_=>by cases bs<;>rfl
 | _::_,_,[],_,_,_,_=>rfl
 | k::ks,s,b::bs,more,ro,L,hk=>by
  rw [JW,Zh9 (hk k (by simp)),ZEP (s:=s.upd k.1 k.2 b) (fun q hq=>by rw [St.upd_A];exact hk q (by simp [hq]))]
  rfl
theorem Cl.more {s:St} {ks:List (Nat × Nat)} {bs:List Blk} (h:Cl s ks bs) (more:List (Bool × List Blk)) (ro:Bool) (L:List Blk):Cl ⟨s.ps++more,ro,L⟩ ks bs :=
 ⟨h.nd,h.len,fun k hk=>Zkm (h.le k hk) (h.wr k hk) _ _ _,fun j lv ix b h1 h2=>ZAf (h.get j lv ix b h1 h2) _ _ _⟩
end Go.QAbs
namespace Go.Q15
open Go Go.QAbs
set_option maxRecDepth 100000
set_option maxHeartbeats 8000000
theorem ZiA:∀ f x,T1 f=some x->f<yB:=ZIX (l:=t1) (by decide +kernel)
noncomputable def t3:List (FuncId × Ent):=(ZDV,.base (rfO T1 p_rope_Leaves))::(Xx,.base (rfO T1 p_rope_Nodes))::t1
noncomputable def T3:Tab:=Xs t3
theorem ZFe {l:List (FuncId × Ent)} {f:FuncId} {x:Ent} (h:Xs l f=none):TLe (Xs l) (Xs ((f,x)::l)):=fun g y hg=>by
 simp only [Xs];rw [if_neg]
 ·exact hg
 ·intro e;subst e;rw [h] at hg;simp at hg
theorem le13:TLe T1 T3:=fun g y hg=>ZFe (l:=(Xx,.base (rfO T1 p_rope_Nodes))::t1) (by decide +kernel) g y (ZFe (l:=t1) (by decide +kernel) g y hg)
theorem le3:TLe Tb T3:=fun g y hg=>le13 g y (le1 g y hg)
theorem up1 {f:FuncId} {args:List AV} {st:St} {r:AV × St} (h:S Tb f args st=some r):S T1 f args st=some r:=Zh3 le1 _ _ _ _ h
def QO (N:ZO) (v:List Nat):List (List UInt8):=v.filterMap fun h=>if (ZAe N h).h=0 then some (ZAe N h).text else none
theorem Zce (N:ZO) (v:List Nat) (h:Nat):QO N (v++[h])=QO N v++if (ZAe N h).h=0 then [(ZAe N h).text] else []:=by
 unfold QO;rw [List.filterMap_append]
 by_cases q:(ZAe N h).h=0<;>simp [q]
theorem Zl1 (l:List (List UInt8)):Q5 1 (l.map AV.str)=true:=by
 induction l with
 | nil=>rfl
 | cons b s ih=>rw [jC,Q5,List.all_cons];exact Bool.and_eq_true_iff.2 ⟨rfl,ih⟩
theorem ZdV (n b:Nat) (st:St) (l:List (List UInt8)):mapSt (ZY (n+1) b) st (l.map AV.str)=some (l.map AV.str,st):=by
 induction l with
 | nil=>rfl
 | cons x s ih =>
  rw [jC,mapSt]
  show ((some (AV.str x,st)).bind fun r=>(mapSt (ZY (n+1) b) r.2 (s.map AV.str)).bind (Yg r.1))=_
  rw [oS,ih];rfl
def lvL (A:List (Bool × List Blk)) (la b:Nat) (r:Ro) (es:List AV):List Blk:=[.arr 5 0 [r.av],.arr 1 es.length es,.arr 1 0 [.ref A.length 1 es.length 0 es.length],.arr 1 0 [.ptr la (b+5) 0 0 0],.arr 5 0 [r.av]]
def lvF (A:List (Bool × List Blk)) (N:ZO) (la b:Nat) (r:Ro) (v:List Nat):St:=⟨A,false,lvL A la b r ((QO N v).map .str)⟩
theorem Zsn (A:List (Bool × List Blk)) (la b:Nat) (r:Ro) (es:List AV):Cl ⟨A,false,lvL A la b r es⟩ [(A.length,1),(A.length,2)] [.arr 1 es.length es,.arr 1 0 [.ref A.length 1 es.length 0 es.length]]:=by
 refine ⟨by simp,rfl,fun k hk=>?_,fun j lv ix b h1 h2=>?_⟩
 ·simp only [List.mem_cons,List.not_mem_nil,or_false] at hk
  rcases hk with rfl|rfl<;>simp [St.wr]
 ·match j,h1,h2 with
  | 0,h1,h2=>obtain ⟨rfl,rfl⟩:=Prod.mk.inj (Option.some.inj h1);obtain rfl:=Option.some.inj h2;exact St.get_cur ..
  | 1,h1,h2=>obtain ⟨rfl,rfl⟩:=Prod.mk.inj (Option.some.inj h1);obtain rfl:=Option.some.inj h2;exact St.get_cur ..
  | n+2,h1,h2=>simp at h1
theorem ZsA (A:List (Bool × List Blk)) (la b:Nat) (r:Ro) (es fs:List AV):JW ⟨A,false,lvL A la b r es⟩ [(A.length,1),(A.length,2)] [.arr 1 fs.length fs,.arr 1 0 [.ref A.length 1 fs.length 0 fs.length]]=⟨A,false,lvL A la b r fs⟩:=by
 simp [JW,St.upd,lvL]
theorem ZoD {N:ZO} {A:List (Bool × List Blk)} {la b:Nat} {r:Ro} {caps:List AV} (hc7:∃ rest,caps=.any::.any::.any::.any::.any::.any::.any::.ptr A.length 2 0 0 0::rest/\rest.length=24) (v:List Nat) (hlim:(QO N v).length<4000000000) (h:Nat) (x:Nd) (more:List (Bool × List Blk)) (ro:Bool) (L:List Blk) (hx:lk N h=some x) :
 Yu (S T1) itS p_rope_Leaves.nt p_rope_Leaves.rng (.int .u64 (h:Nat)::Zh6 x::caps) ⟨(lvF A N la b r v).ps++more,ro,L⟩=some (.bool true,⟨(lvF A N la b r (v++[h])).ps++more,ro,L⟩):=by
 obtain ⟨rest,rfl,hrl⟩:=hc7;have hs:=Zce N v h;have hnd:=QY hx;rw [hnd] at hs;unfold lvF
 have hel:((QO N v).map AV.str).length=(QO N v).length:=List.length_map ..
 rw [hs,List.map_append];rw [<- hel] at hlim
 generalize (QO N v).map AV.str=es at *
 have H:=(Zsn A la b r es).more more ro L
 refine ZN1 (by simp [hrl];rfl) (fun A' hA'=>?_)
 rw [<- H.same] at hA'
 have g2:=fun L'=>H.old hA' rfl rfl (ro:=false) (L:=L') (j:=1) rfl rfl
 unfold Zh6
 repeat' (first|refine ZD ?_|refine ZB rfl ?_|refine Zh rfl rfl rfl ?_|refine Zw rfl rfl rfl rfl rfl rfl ?_|refine ZJ ?_)
 all_goals try (exfalso;omega)
 all_goals refine ⟨rfl,?_⟩
 all_goals repeat' (first|refine ZE ?_|refine ZD ?_|refine ZQ rfl rfl ?_|refine ZS rfl rfl rfl rfl ?_|refine ZB rfl ?_|refine ZC ?_|(refine Zn rfl rfl (fun _=>?_) (fun _=>?_)<;>try (exfalso;omega))|refine ZU rfl ?_|refine ZH rfl ?_|refine QZ rfl rfl rfl rfl ?_|refine QA rfl (g2 _) rfl rfl ?_|refine ZI ?_|refine ZL ?_|refine ZJ ?_|refine Z1 ?_)
 ·rename_i hz
  have hz':x.h=0:=by omega
  refine ZUv H hA' rfl rfl (j:=0) rfl rfl rfl rfl rfl rfl (ZdV 5 _ _ [x.text]) (by simp only [List.length_singleton];omega) (by decide) (fun A2 hA2 hl2=>?_)
  refine ZQh H hA2 rfl rfl (j:=1) rfl rfl rfl rfl rfl (Q8 _ (Nat.lt_succ_self _)) rfl (fun A3 hA3 hl3=>?_)
  repeat' (first|refine ZB rfl ?_|refine ZJ ?_|refine Z1 ?_)
  refine ⟨rfl,hA3.trans ?_⟩;have e:=ZsA A la b r es (es++[.str x.text]);rw [if_pos hz',jC,List.map_nil,<- e]
  rw [<- ZEP (fun k hk=>by simp only [List.mem_cons,List.not_mem_nil,or_false] at hk;rcases hk with rfl|rfl<;>exact Nat.le_refl _)]
  simp only [lL,List.length_singleton];rfl
 ·rename_i hz
  have hz':¬ x.h=0:=by omega
  refine ⟨rfl,hA'.trans ?_⟩;rw [H.same,if_neg hz',List.map_nil,lN]
theorem ZN3 (N:ZO) (v:List Nat):(QO N v).length<=v.length:=List.length_filterMap_le _ _
theorem ZoE {st:St} {la b:Nat} {N:ZO} (hN:GoodN N) (hR:Rd st la (b+5) N) {r:Ro} (hr:RtOk N r):S T3 ZDV [.ptr la (b+5) 0 0 0,r.av] st=some (.tup [.lit ((QO N (Zu N r)).map .str),.int .i64 0],st):=by
 refine Zq2 (rf:=p_rope_Leaves) rfl (fun A hA=>?_)
 have hK:=fun L=>Zkl hN (hR.push hA (ro:=false) (L:=L)) hr
 have hNd:=fun L=>up1 (Zf6 (A:=A) (L:=L) (la:=la) (b:=b) (r:=r))
 have hlen:=ZCx hN hr
 have hseq:=fun (caps:List AV) (hcw:Za caps=caps) (o:List AV->St->Option (AV × St)) hy=>ZoC (TY:=ZLb T1 (A.length+1) o) (fun g y hg=>ZU0 ZiA _ _ g y (le1 g y hg)) (σ:=lvF A N la b r) hN (lv:=A.length+1) (caps:=caps) hcw (fun _=>hR.push hA) (fun _=>rfl) (B:=100000000) hy hr (by omega) (l1:=A.length) (i1:=3) (l4:=A.length) (i4:=4) (fun _=>St.get_cur ..) (fun _=>St.get_cur ..)
 have hS:=hseq (ZFh 32 [(7,.ptr A.length 2 0 0 0),(18,.func (.func Qm) [] [.ptr A.length 3 0 0 0,.ptr A.length 4 0 0 0]),(20,.any)]) rfl (Yu (S T1) itS p_rope_Leaves.nt p_rope_Leaves.rng) (fun v h x more ro L hv hx=>ZU1 _ _ _ _ _ (ZoD ⟨_,rfl,rfl⟩ v (by have:=ZN3 N v;omega) h x more ro L hx))
 unfold lvF at hS;have hl0:(QO N (Zu N r)).map AV.str=(QO N (Zu N r)).map AV.str:=rfl
 generalize hes:QO N (Zu N r)=l at *
 have e0:lvL A la b r ((QO N []).map .str)=lvL A la b r []:=rfl;rw [e0] at hS;unfold lvL at hS
 unfold Ro.av at *
 repeat' (first|refine ZE ?_|refine ZD ?_|refine ZG rfl ?_|refine ZS rfl rfl rfl rfl ?_|refine ZB rfl ?_|refine ZC ?_|(refine Zj rfl rfl (fun _=>?_) (fun _=>?_)<;>try (exfalso;omega))|refine ZH rfl ?_|refine Zh rfl rfl rfl ?_|refine ZAW rfl ?_|refine ZA rfl rfl rfl (hK _) ?_|refine ZA rfl rfl rfl (hNd _) ?_|refine ZI ?_|refine ZJ ?_)
 all_goals try contradiction
 refine .inr ⟨rfl,_,Zf5 (g:=Qm) rfl (by decide) hS,?_⟩
 repeat' (first|refine ZE ?_|refine ZD ?_|refine ZG rfl ?_|refine ZS rfl rfl rfl rfl ?_|refine ZB rfl ?_|refine ZC ?_|refine ZI ?_|refine ZP ?_|refine ZJ ?_)
 exact ZCP hA (.inr rfl) rfl rfl rfl (fun v hv=>by obtain ⟨x,_,rfl⟩:=List.mem_map.1 hv;rfl) rfl rfl
def Q7 (w:List Nat) (h:Nat):List Nat:=if h∈w then w else w++[h]
def QE (v:List Nat):List Nat:=v.foldl Q7 []
theorem ZZj (v:List Nat) (h:Nat):QE (v++[h])=Q7 (QE v) h:=by unfold QE;rw [List.foldl_append];rfl
theorem ZdW {w:List Nat} {h x:Nat}:x∈Q7 w h↔x∈w\/x=h:=by
 unfold Q7
 split
 ·rename_i q;exact ⟨.inl,fun p=>p.elim id fun e=>e▸q⟩
 ·simp
theorem Xh:∀ v:List Nat,(QE v).Nodup/\(∀ x,x∈QE v↔x∈v)/\(QE v).length<=v.length:=by
 intro v
 have key:∀ (v w:List Nat),w.Nodup->(v.foldl Q7 w).Nodup/\(∀ x,x∈v.foldl Q7 w↔x∈w\/x∈v)/\(v.foldl Q7 w).length<=w.length+v.length:=by
  intro v
  induction v with
  | nil=>intro w h;exact ⟨h,by simp,by simp⟩
  | cons a v ih =>
   intro w h
   have h1:(Q7 w a).Nodup:=by
    unfold Q7;split
    ·exact h
    ·rename_i q
     rw [List.nodup_append]
     refine ⟨h,by simp,fun x hx y hy=>?_⟩
     rw [List.mem_singleton] at hy;intro e;rw [e,hy] at hx;exact q hx
   obtain ⟨i1,i2,i3⟩:=ih (Q7 w a) h1
   refine ⟨i1,fun x=>?_,?_⟩
   ·rw [List.foldl_cons,i2,ZdW,List.mem_cons,or_assoc]
   ·have:(Q7 w a).length<=w.length+1:=by unfold Q7;split<;>simp
    rw [List.foldl_cons,List.length_cons];omega
 have:=key v [] List.nodup_nil
 exact ⟨this.1,fun x=>by have h:=this.2.1 x;simpa [QE] using h,by have h:=this.2.2;simpa [QE] using h⟩
def ndL (A:List (Bool × List Blk)) (la b:Nat) (r:Ro) (w:List Nat):List Blk:=[.arr 5 0 [r.av],.arr 1 w.length (w.map Z9),.arr 1 0 [.ref A.length 1 w.length 0 w.length],.map (YK w),.arr 1 0 [.map A.length 3],.arr 1 0 [.ptr la (b+5) 0 0 0],.arr 5 0 [r.av]]
def ndF (A:List (Bool × List Blk)) (la b:Nat) (r:Ro) (v:List Nat):St:=⟨A,false,ndL A la b r (QE v)⟩
def ndK (A:List (Bool × List Blk)):List (Nat × Nat):=[(A.length,1),(A.length,2),(A.length,3)]
def ndB (A:List (Bool × List Blk)) (w:List Nat):List Blk:=[.arr 1 w.length (w.map Z9),.arr 1 0 [.ref A.length 1 w.length 0 w.length],.map (YK w)]
theorem Zso (A:List (Bool × List Blk)) (la b:Nat) (r:Ro) (w:List Nat):Cl ⟨A,false,ndL A la b r w⟩ (ndK A) (ndB A w):=by
 refine ⟨by simp [ndK],rfl,fun k hk=>?_,fun j lv ix b h1 h2=>?_⟩
 ·simp only [ndK,List.mem_cons,List.not_mem_nil,or_false] at hk
  rcases hk with rfl|rfl|rfl<;>simp [St.wr]
 ·match j,h1,h2 with
  | 0,h1,h2=>obtain ⟨rfl,rfl⟩:=Prod.mk.inj (Option.some.inj h1);obtain rfl:=Option.some.inj h2;exact St.get_cur ..
  | 1,h1,h2=>obtain ⟨rfl,rfl⟩:=Prod.mk.inj (Option.some.inj h1);obtain rfl:=Option.some.inj h2;exact St.get_cur ..
  | 2,h1,h2=>obtain ⟨rfl,rfl⟩:=Prod.mk.inj (Option.some.inj h1);obtain rfl:=Option.some.inj h2;exact St.get_cur ..
  | n+3,h1,h2=>simp [ndK] at h1
theorem ZsB (A:List (Bool × List Blk)) (la b:Nat) (r:Ro) (w u:List Nat):JW ⟨A,false,ndL A la b r w⟩ (ndK A) (ndB A u)=⟨A,false,ndL A la b r u⟩:=by
 simp [JW,St.upd,ndL,ndK,ndB]
theorem ZoF {N:ZO} {A:List (Bool × List Blk)} {la b:Nat} {r:Ro} {caps:List AV} (hc7:∃ rest,caps=.any::.any::.any::.any::.any::.any::.any::.ptr A.length 2 0 0 0::.ptr A.length 4 0 0 0::rest/\rest.length=24) (v:List Nat) (hlim:(QE v).length<4000000000) (h:Nat) (x:Nd) (more:List (Bool × List Blk)) (ro:Bool) (L:List Blk) (hx:lk N h=some x) :
 Yu (S T1) itS p_rope_Nodes.nt p_rope_Nodes.rng (.int .u64 (h:Nat)::Zh6 x::caps) ⟨(ndF A la b r v).ps++more,ro,L⟩=some (.bool true,⟨(ndF A la b r (v++[h])).ps++more,ro,L⟩):=by
 obtain ⟨rest,rfl,hrl⟩:=hc7;unfold ndF;rw [ZZj]
 generalize QE v=w at *
 have hwl:(w.map Z9).length=w.length:=List.length_map ..
 have H:=(Zso A la b r w).more more ro L
 refine ZN1 (by simp [hrl];rfl) (fun A' hA'=>?_)
 rw [<- H.same] at hA'
 have g2:=fun L'=>H.old hA' rfl rfl (ro:=false) (L:=L') (j:=1) rfl rfl
 have g3:=fun L'=>H.old hA' rfl rfl (ro:=false) (L:=L') (j:=2) rfl rfl
 have g4:∀ L',St.get ⟨A',false,L'⟩ A.length 4=some (.arr 1 0 [.map A.length 3]):=fun L'=>by
  rw [hA',H.same];exact ZX rfl (ZIW (s:=⟨A,false,ndL A la b r w⟩) (St.get_cur ..) more ro L)
 have hlk:=fun L'=>ZIv (g3 L') h
 unfold Zh6
 by_cases hm:h∈w
 ·simp only [decide_eq_true hm] at hlk
  repeat' (first|refine ZD ?_|refine ZG rfl ?_|refine ZB rfl ?_|refine ZJ ?_)
  refine ⟨rfl,?_⟩
  repeat' (first|refine ZE ?_|refine ZD ?_|refine ZG rfl ?_|refine ZB rfl ?_|refine ZC ?_|refine ZH rfl ?_|refine JO rfl rfl ?_|refine QA rfl (g4 _) rfl rfl ?_|refine ZAl rfl rfl (hlk _) ?_|refine ZI ?_|refine ZL ?_|refine ZJ ?_|refine Z1 ?_)
  all_goals try contradiction
  refine ⟨rfl,hA'.trans ?_⟩;rw [H.same];unfold Q7;rw [if_pos hm]
 ·simp only [decide_eq_false hm] at hlk
  repeat' (first|refine ZD ?_|refine ZG rfl ?_|refine ZB rfl ?_|refine ZJ ?_)
  refine ⟨rfl,?_⟩
  repeat' (first|refine ZE ?_|refine ZD ?_|refine ZG rfl ?_|refine ZB rfl ?_|refine ZC ?_|refine ZU rfl ?_|refine JO rfl rfl ?_|refine QA rfl (g4 _) rfl rfl ?_|refine ZAl rfl rfl (hlk _) ?_|refine ZL ?_)
  all_goals try contradiction
  refine Znj H hA' rfl rfl (j:=2) rfl rfl rfl rfl rfl rfl rfl (ZUy h w hm) (fun A2 hA2 hl2=>?_)
  have k2:=fun L'=>H.old hA2 rfl rfl (ro:=false) (L:=L') (j:=1) rfl rfl
  repeat' (first|refine QA rfl (k2 _) rfl rfl ?_|refine ZD ?_|refine ZG rfl ?_|refine ZB rfl ?_|refine ZC ?_|refine QZ rfl rfl rfl rfl ?_)
  refine ZUv (es:=w.map Z9) (ys:=[.int .u64 h]) H hA2 rfl rfl (j:=0) rfl rfl (by rw [hwl];rfl) rfl rfl rfl rfl (by rw [hwl,List.length_singleton];omega) (by decide) (fun A3 hA3 hl3=>?_)
  refine ZQh H hA3 rfl rfl (j:=1) rfl rfl rfl rfl rfl (Q8 _ (Nat.lt_succ_self _)) rfl (fun A4 hA4 hl4=>?_)
  repeat' (first|refine ZB rfl ?_|refine ZJ ?_|refine Z1 ?_)
  refine ⟨rfl,hA4.trans ?_⟩;have e:=ZsB A la b r w (w++[h]);unfold Q7;rw [if_neg hm,<- e]
  rw [<- ZEP (fun k hk=>by simp only [ndK,List.mem_cons,List.not_mem_nil,or_false] at hk;rcases hk with rfl|rfl|rfl<;>exact Nat.le_refl _)]
  simp only [ndB,lL,List.length_singleton,List.length_map,List.map_append];rfl
theorem Zkn {st:St} {la b:Nat} {N:ZO} (hN:GoodN N) (hR:Rd st la (b+5) N) {r:Ro} (hr:RtOk N r):S T3 Xx [.ptr la (b+5) 0 0 0,r.av] st=some (.tup [.lit ((QE (Zu N r)).map Z9),.int .i64 0],st):=by
 refine Zq2 (rf:=p_rope_Nodes) rfl (fun A hA=>?_)
 have hK:=fun L=>Zkl hN (hR.push hA (ro:=false) (L:=L)) hr
 have hNd:=fun L=>up1 (Zf6 (A:=A) (L:=L) (la:=la) (b:=b) (r:=r))
 have hlen:=ZCx hN hr
 have hseq:=fun (caps:List AV) (hcw:Za caps=caps) (o:List AV->St->Option (AV × St)) hy=>ZoC (TY:=ZLb T1 (A.length+1) o) (fun g y hg=>ZU0 ZiA _ _ g y (le1 g y hg)) (σ:=ndF A la b r) hN (lv:=A.length+1) (caps:=caps) hcw (fun _=>hR.push hA) (fun _=>rfl) (B:=100000000) hy hr (by omega) (l1:=A.length) (i1:=5) (l4:=A.length) (i4:=6) (fun _=>St.get_cur ..) (fun _=>St.get_cur ..)
 have hS:=hseq (ZFh 33 [(7,.ptr A.length 2 0 0 0),(8,.ptr A.length 4 0 0 0),(19,.func (.func Qm) [] [.ptr A.length 5 0 0 0,.ptr A.length 6 0 0 0]),(20,.any)]) rfl (Yu (S T1) itS p_rope_Nodes.nt p_rope_Nodes.rng) (fun v h x more ro L hv hx=>ZU1 _ _ _ _ _ (ZoF ⟨_,rfl,rfl⟩ v (by have:=(Xh v).2.2;omega) h x more ro L hx))
 unfold ndF at hS
 generalize hes:QE (Zu N r)=l at *
 have e0:ndL A la b r (QE [])=ndL A la b r []:=rfl;rw [e0] at hS;unfold ndL at hS
 unfold Ro.av at *
 repeat' (first|refine ZE ?_|refine ZD ?_|refine ZG rfl ?_|refine ZS rfl rfl rfl rfl ?_|refine ZB rfl ?_|refine ZC ?_|(refine Zj rfl rfl (fun _=>?_) (fun _=>?_)<;>try (exfalso;omega))|refine ZH rfl ?_|refine Zh rfl rfl rfl ?_|refine ZAW rfl ?_|refine ZG6 rfl ?_|refine ZA rfl rfl rfl (hK _) ?_|refine ZI ?_)
 all_goals try contradiction
 refine Zw rfl rfl rfl (by simp only [ZY,QG,if_pos (Nat.lt_succ_self _)]) rfl rfl ?_
 repeat' (first|refine ZE ?_|refine ZD ?_|refine ZG rfl ?_|refine ZS rfl rfl rfl rfl ?_|refine ZB rfl ?_|refine ZC ?_|refine ZA rfl rfl rfl (hNd _) ?_|refine ZI ?_|refine ZJ ?_)
 refine .inr ⟨rfl,_,Zf5 (g:=Qm) rfl (by decide) hS,?_⟩
 repeat' (first|refine ZE ?_|refine ZD ?_|refine ZG rfl ?_|refine ZS rfl rfl rfl rfl ?_|refine ZB rfl ?_|refine ZC ?_|refine ZI ?_|refine ZP ?_|refine ZJ ?_)
 exact ZCP hA (.inr rfl) rfl rfl (by simp) (fun v hv=>by obtain ⟨x,_,rfl⟩:=List.mem_map.1 hv;rfl) rfl rfl
def ZiB (r:AR) (o:Nat):Prop:=ZB3 o/\r.states[o % 65536]?=some 1/\r.gens[o % 65536]?=some ((o / 65536:Nat):Int)
instance (r:AR) (o:Nat):Decidable (ZiB r o):=by unfold ZiB;exact inferInstance
theorem AROk.live {r:AR} (h:AROk r) {o:Nat} {x:Nd} (hx:lk r.nodes o=some x):ZiB r o/\o<18446744073709551616:=by
 obtain ⟨s,g,k1,k2,k3,k4⟩:=h.key o x hx;obtain ⟨h1,h2⟩:=h.hnd hx
 have:=h.n16
 have hm:o % 65536=s:=by omega
 have hd:o / 65536=g:=by omega
 unfold ZiB;rw [hm,hd];refine ⟨⟨h1,k3,k4⟩,?_⟩;unfold ZB3 at h1;omega
theorem ZsC {l:List Nat} {i:Nat} {x:Nat} (h:l[i]?=some x):(l.map Z9)[0+((i:Nat):Int).toNat]?=some (.int .u64 x):=by
 rw [show 0+((i:Nat):Int).toNat=i by omega,jG,h];rfl
theorem ZiC {l:List Nat} {i x h:Nat} (hx:l[i]?=some x) (hn:h∉l.take i) (e:x≠h):h∉l.take (i+1):=by
 rw [Zc hx,List.mem_append,List.mem_singleton]
 exact fun q=>q.elim hn fun q=>e q.symm
theorem Zq3 {st:St} {lv ix ver:Nat} {l:List Nat} {n:Nat} (hn:n=l.length) (hg:st.get lv ix=some (.arr 1 ver (l.map Z9))) (hb:l.length<4294967296) (h:Nat) :
 S Tb Qi [.ref lv ix ver 0 n,.int .u64 h] st=some (.bool (decide (h∈l)),st):=by
 refine QI rfl (fun A hA=>?_)
 subst hn
 have g:=fun L=>ZX hA (ro:=false) (L:=L) hg
 have hw:∀ L,wIs 1 ver (St.get ⟨A,false,L⟩ lv ix)=true:=fun L=>by rw [g];simp [wIs]
 repeat' (first|refine ZE ?_|refine ZD ?_|refine ZG rfl ?_|refine ZB rfl ?_|refine ZC ?_|refine ZL ?_)
 refine Zx (α:=Nat) (fun i=>[(0,.ref lv ix ver 0 l.length),(1,.int .u64 h),(5,.int .i64 i)]) (fun i=>⟨A,false,[]⟩) (fun i=>i<=l.length/\h∉l.take i) (fun i=>l.length-i) 0 rfl rfl ⟨by omega,by simp⟩ ?_
 rintro i ⟨hi,hni⟩
 rcases Nat.lt_or_ge i l.length with hlt|hge
 ·obtain ⟨x,hx⟩:∃ x,l[i]?=some x:=⟨l[i]'hlt,jE _⟩
  have q:=ZsC hx
  repeat' (first|refine ZE ?_|refine ZD ?_|refine ZG rfl ?_|refine ZB rfl ?_|refine ZC ?_|refine Qr rfl ?_|(refine Zi rfl rfl (fun _=>?_) (fun _=>?_)<;>try (exfalso;omega))|(refine Zn rfl rfl (fun _=>?_) (fun _=>?_)<;>try (exfalso;omega))|refine ZU rfl ?_|refine ZH rfl ?_|refine Zl rfl rfl (by omega) ?_|refine Xv rfl rfl (by omega) (hw _) ?_|refine QA rfl (g _) q rfl ?_|refine ZI ?_|refine ZP ?_|refine ZL ?_|refine ZJ ?_|refine ZZ ?_|refine Z1 ?_|refine QX ?_|refine QB ?_|refine ZAV ?_)
  all_goals try (exfalso;omega)
  ·rename_i e
   obtain rfl:x=h:=by omega
   rw [decide_eq_true (jM hx)]
   refine Ze hA (by first|exact .inl rfl|exact .inr rfl) rfl rfl rfl rfl ?_
   rfl
  ·rename_i e
   exact ⟨i+1,⟨rfl,rfl⟩,⟨by omega,ZiC hx hni (by omega)⟩,by omega⟩
 ·obtain rfl:i=l.length:=by omega
  rw [List.take_length] at hni;rw [decide_eq_false hni]
  repeat' (first|refine ZE ?_|refine ZD ?_|refine ZG rfl ?_|refine ZB rfl ?_|refine ZC ?_|refine Qr rfl ?_|(refine Zi rfl rfl (fun _=>?_) (fun _=>?_)<;>try (exfalso;omega))|refine ZH rfl ?_|refine ZP ?_|refine Zv ?_|refine ZJ ?_|refine Zf ?_|refine Zd rfl ?_|refine Zo ?_)
  all_goals try (exfalso;omega)
  refine Ze hA (by first|exact .inl rfl|exact .inr rfl) rfl rfl rfl rfl ?_
  rfl
theorem ZU2 (l:List Nat) (hb:l.length<4294967296) (h:Nat) (st:St) :
 S Tb Qi [.lit (l.map Z9),.int .u64 h] st=some (.bool (decide (h∈l)),st):=by
 refine QI rfl (fun A hA=>?_)
 repeat' (first|refine ZE ?_|refine ZD ?_|refine ZG rfl ?_|refine ZB rfl ?_|refine ZC ?_|refine ZL ?_)
 refine Zx (α:=Nat) (fun i=>[(0,.lit (l.map Z9)),(1,.int .u64 h),(5,.int .i64 i)]) (fun i=>⟨A,false,[]⟩) (fun i=>i<=l.length/\h∉l.take i) (fun i=>l.length-i) 0 rfl rfl ⟨by omega,by simp⟩ ?_
 rintro i ⟨hi,hni⟩
 rcases Nat.lt_or_ge i l.length with hlt|hge
 ·obtain ⟨x,hx⟩:∃ x,l[i]?=some x:=⟨l[i]'hlt,jE _⟩
  have q:0<=((i:Nat):Int)/\l[((i:Nat):Int).toNat]?=some x:=⟨by omega,by rw [show ((i:Nat):Int).toNat=i by omega];exact hx⟩
  repeat' (first|refine Jl rfl rfl q (fun _=>rfl) ?_|refine ZE ?_|refine ZD ?_|refine ZG rfl ?_|refine ZB rfl ?_|refine ZC ?_|refine QH rfl ?_|refine QQ rfl rfl ?_|(refine Zi rfl rfl (fun _=>?_) (fun _=>?_)<;>try (exfalso;omega))|(refine Zn rfl rfl (fun _=>?_) (fun _=>?_)<;>try (exfalso;omega))|refine ZU rfl ?_|refine ZH rfl ?_|refine Zl rfl rfl (by omega) ?_|refine ZI ?_|refine ZP ?_|refine ZL ?_|refine ZJ ?_|refine ZZ ?_|refine Z1 ?_|refine QX ?_|refine QB ?_|refine ZAV ?_)
  all_goals try (exfalso;omega)
  ·rename_i e
   obtain rfl:x=h:=by omega
   rw [decide_eq_true (jM hx)]
   refine Ze hA (by first|exact .inl rfl|exact .inr rfl) rfl rfl rfl rfl ?_
   rfl
  ·rename_i e
   exact ⟨i+1,⟨rfl,rfl⟩,⟨by omega,ZiC hx hni (by omega)⟩,by omega⟩
 ·obtain rfl:i=l.length:=by omega
  rw [List.take_length] at hni;rw [decide_eq_false hni]
  repeat' (first|refine ZE ?_|refine ZD ?_|refine ZG rfl ?_|refine ZB rfl ?_|refine ZC ?_|refine QH rfl ?_|(refine Zi rfl rfl (fun _=>?_) (fun _=>?_)<;>try (exfalso;omega))|refine ZH rfl ?_|refine ZP ?_|refine Zv ?_|refine ZJ ?_|refine Zf ?_|refine Zd rfl ?_|refine Zo ?_)
  all_goals try (exfalso;omega)
  refine Ze hA (by first|exact .inl rfl|exact .inr rfl) rfl rfl rfl rfl ?_
  rfl
theorem ZiD:∀ {l:List Nat},l.Nodup->QE l=l:=by
 intro l
 have key:∀ (l w:List Nat),(w++l).Nodup->l.foldl Q7 w=w++l:=by
  intro l
  induction l with
  | nil=>intro w _;simp
  | cons a l ih =>
   intro w h
   have ha:a∉w:=fun q=>by
    rw [List.nodup_append] at h
    exact h.2.2 a q a (by simp) rfl
   rw [List.foldl_cons];unfold Q7;rw [if_neg ha]
   have e:w++a::l=w++[a]++l:=by simp
   rw [e] at h ⊢;exact ih _ h
 intro h
 have:=key l [] (by simpa using h)
 rwa [lE] at this
theorem ZiE:∀ l:List Tr,(∀ t∈l,4*(t.cnt:Int)+4<=t.bytes)->4*(Tr.cntL l:Int)+4*l.length<=Tr.bytesL l
 | [],_=>by simp [Tr.cntL,Tr.bytesL]
 | t::l,h=>by
  have h1:=h t (by simp)
  have h2:=ZiE l fun u hu=>h u (by simp [hu])
  simp only [Tr.cntL,Tr.bytesL,List.length_cons];omega
theorem ZoG {N:ZO} (hN:GoodN N) {t:Tr} (hv:Val N t):(t.cnt:Int)<=t.bytes/\(Big t->4*(t.cnt:Int)+4<=t.bytes):=by
 have hsz:=hv.size hN;have hps:=hv.pos.2
 induction hv with
 | @kept o h m k x h0 hx hok hh hm hk =>
  have ec:(Tr.mk o h m [] k).cnt=0:=by rw [Tr.cnt,Tr.cntO_getD,hk,if_neg h0];rfl
  have hl:h<=16:=by
   rcases hok with q|⟨n,ks,q⟩
   ·rw [<- hh,q.h];omega
   ·have:=q.n15;have e:=q.eq;subst e;simp only at hh;omega
  rw [ec]
  refine ⟨by omega,fun q=>?_⟩
  have h1:=hsz q;have h2:=(ZEI hl).1;simp only [Tr.h] at h1;omega
 | @leaf s k h1 h2 hk =>
  have ec:(Tr.mk 0 0 .zero s k).cnt=1:=by rw [Tr.cnt,Tr.cntO_getD,hk];rfl
  rw [ec]
  refine ⟨by omega,fun q=>?_⟩
  have:=q rfl
  omega
 | @inner h l hh h2 h4 hl hb hv ih =>
  have ec:(Tr.mk 0 (h+1) .zero [] (some l)).cnt=Tr.cntL l+1:=by rw [Tr.cnt,Tr.cntO];simp;omega
  have eb:(Tr.mk 0 (h+1) .zero [] (some l)).bytes=Tr.bytesL l:=by rw [Tr.bytes,Tr.bytesO];simp [Mea.zero]
  have:=ZiE l fun u hu=>(ih u hu ((hv u hu).size hN) (hv u hu).pos.2).2 (fun q=>hb u hu (by rw [<- hl u hu];exact q))
  rw [ec,eb]
  exact ⟨by omega,fun _=>by omega⟩
theorem Zsp {N:ZO} (hN:GoodN N) {t:Tr} (hv:VE N t):(nw t:Int)<=t.bytes:=by
 rcases hv with he|hv
 ·unfold nw;rw [if_pos ⟨he.old,he.h,he.text⟩,he.bytes];decide
 ·rw [ZFd hv];exact (ZoG hN hv).1
theorem Zjk {A:List (Bool × List Blk)} {L:List Blk} {la b:Nat} {r:AR} (hA:HasR ⟨A,false,L⟩ la b r) (hN:r.n<=r.blk.length) (h16:r.states.length<=16384) (h6:r.n<65536) {t:Tr} (hg:GoodN r.nodes) (hv:VE r.nodes t) (hb:t.bytes<=65536) (hn:r.n<nw t) :
 S Tb Y6 [.ptr la (b+5) 0 0 0,t.av] ⟨A,false,L⟩=some (.tup [.nilptr,.int .i64 6],⟨A,false,L++[.arr 7 0 [t.av]]⟩):=by
 have hv:Val r.nodes t:=by
  rcases hv with he|hv
  ·unfold nw at hn;rw [if_pos ⟨he.old,he.h,he.text⟩] at hn;omega
  ·exact hv
 rw [ZFd hv] at hn;have hcb:=(ZoG hg hv).1
 have hCk:=fun T=>ZQj (hA.app T).rd hv hb
 have hNw:=fun st=>ZrT hv (by omega) st
 have hSt:=fun T=>Zfz (hA.app T) hN h16 h6
 unfold AR.statsAV at hSt;refine Xw rfl ?_
 have e0:(⟨A,false,L⟩:St)=⟨A,false,L++[]⟩:=by rw [lN]
 rw [e0]
 repeat' (first|refine Yl rfl (Z3 _) (QD _) rfl rfl ?_|refine ZAG rfl rfl rfl (Zm _) ?_|refine ZE ?_|refine ZD ?_|refine ZG rfl ?_|refine ZB rfl ?_|refine ZC ?_|refine ZVn (agg:=false) rfl rfl ?_|(refine Qd rfl rfl (fun _=>?_) (fun _=>?_)<;>try (exfalso;omega))|(refine Zj rfl rfl (fun _=>?_) (fun _=>?_)<;>try (exfalso;omega))|refine ZU rfl ?_|refine ZH rfl ?_|refine ZA rfl rfl (by first|rfl|(simp only [lE,lN,lC,Za,ZV,ZW];first|done|rfl)) (hCk _) ?_|refine ZA rfl rfl (by first|rfl|(simp only [lE,lN,lC,Za,ZV,ZW];first|done|rfl)) (hNw _) ?_|refine ZA rfl rfl (by first|rfl|(simp only [lE,lN,lC,Za,ZV,ZW];first|done|rfl)) (hSt _) ?_|refine ZI ?_|refine ZP ?_|refine ZJ ?_|refine ZZ ?_)
 all_goals try (exfalso;omega)
 refine (YE (.inr rfl) rfl rfl rfl rfl).trans ?_;rfl
theorem ZZk {st:St} {la b:Nat} {r:AR} (hA:Has st la b r) (ho:AROk r) (hg:GoodN r.nodes) {t:Tr} (hv:VE r.nodes t) (hb:t.bytes<=65536) (hn:r.n<nw t) :
 S Tb Y5 [.ptr la (b+5) 0 0 0,t.av] st=some (.tup [Ro.zero.av,.lit [],.int .i64 6],st):=by
 refine ZBg rfl (fun A hA'=>?_)
 have hS:=fun L=>Zjk (L:=L) (hA.push hA').r ho.nb ho.n16 (by have:=ho.nn;have:=ho.n16;omega) hg hv hb hn
 repeat' (first|refine ZE ?_|refine ZD ?_|refine ZG rfl ?_|refine Zy rfl rfl ?_|refine ZB rfl ?_|refine ZC ?_|(refine Zj rfl rfl (fun _=>?_) (fun _=>?_)<;>try (exfalso;omega))|refine ZU rfl ?_|refine Zq rfl rfl rfl ?_|refine Zh rfl rfl rfl ?_|refine Zw rfl rfl rfl rfl rfl rfl ?_|refine XP rfl ?_|refine ZS rfl rfl rfl (Zm _) ?_|refine Zt rfl (Z3 _) (QD _) ?_|refine ZA rfl rfl (by first|rfl|(simp only [lE,lN,lC,Za,ZV,ZW];first|done|rfl)) (hS _) ?_|refine ZP ?_|refine ZJ ?_|refine ZZ ?_)
 all_goals try contradiction
 all_goals try (exfalso;omega)
 exact Zn9 (ro:=.zero) (l:=[]) hA' (.inr rfl) rfl rfl rfl rfl rfl rfl
theorem ZIY {x:List UInt8} {l:List (List UInt8)} {i:Nat} (h:l[i]?=some x):(l.take (i+1)).flatten=(l.take i).flatten++x:=by
 rw [List.take_add_one,h];simp
theorem ZIx (l:List (List UInt8)) (i:Nat):(l.take i).flatten.length<=l.flatten.length:=by
 have:=congrArg List.length (congrArg List.flatten (List.take_append_drop i l))
 rw [List.flatten_append,lL] at this;omega
theorem ZiF {st:St} {la b:Nat} {N:ZO} (hN:GoodN N) (hR:Rd st la (b+5) N) {r:Ro} (hr:RtOk N r) (hlim:(QO N (Zu N r)).flatten.length<=65536):S T3 ZAw [.ptr la (b+5) 0 0 0,r.av] st=some (.tup [.str (QO N (Zu N r)).flatten,.int .i64 0],st):=by
 refine QI (le3 ZAw (.pf ZHT) rfl) (fun A hA=>?_)
 have hL:=fun L=>ZoE hN (hR.push hA (ro:=false) (L:=L)) hr
 have hll:(QO N (Zu N r)).length<4000000000:=by have:=ZN3 N (Zu N r);have:=ZCx hN hr;omega
 unfold Ro.av at *
 generalize QO N (Zu N r)=l at *
 repeat' (first|refine ZE ?_|refine ZD ?_|refine ZG rfl ?_|refine ZS rfl rfl rfl rfl ?_|refine Zy rfl rfl ?_|refine ZB rfl ?_|refine ZC ?_|refine QH rfl ?_|(refine Zj rfl rfl (fun _=>?_) (fun _=>?_)<;>try (exfalso;omega))|refine ZH rfl ?_|refine Zh rfl rfl rfl ?_|refine XP rfl ?_|refine ZA rfl rfl rfl (hL _) ?_|refine ZI ?_|refine ZL ?_)
 all_goals try contradiction
 all_goals try (exfalso;omega)
 refine Zx (α:=Nat) (fun i=>[(8,.ref A.length 1 i 0 (l.take i).flatten.length),(20,.lit (l.map .str)),(21,.int .i64 l.length),(22,.int .i64 i)])
  (fun i=>⟨A,false,[.arr 5 0 [r.av],.arr 1 i (QK (l.take i).flatten)]⟩) (fun i=>i<=l.length) (fun i=>l.length-i) 0 rfl rfl (by simp) ?_
 rintro i hi
 have hfl:=ZIx l i
 repeat' (first|refine ZE ?_|refine ZD ?_|refine ZG rfl ?_|refine ZB rfl ?_|refine ZC ?_|refine QQ rfl rfl ?_|refine Jx rfl rfl (by omega) (fun _=>rfl) (fun _ _=>?_)|(refine Zi rfl rfl (fun _=>?_) (fun _=>?_)<;>try (exfalso;omega))|refine ZU rfl ?_|refine ZH rfl ?_|refine ZI ?_|refine Zv ?_|refine ZL ?_|refine Zf ?_|refine Zd rfl ?_|refine Zo ?_)
 ·rename_i x hx
  have hx2:l[i]?=some x:=hx;have hf2:=ZIx l (i+1);rw [ZIY hx2] at hf2;rw [lL] at hf2
  refine ZUs (ix:=1) (ver:=i) (n:=(l.take i).flatten.length) (es:=QK (l.take i).flatten) (vx:=.str x) (ys:=QK x) rfl rfl rfl ?_ (YM _).symm ?_ (by decide) (ZZa _) (ZZb _ _ _) rfl ?_
  ·rfl
  ·rw [YM,YM];omega
  repeat' (first|refine ZD ?_|refine ZG rfl ?_|refine ZB rfl ?_|refine ZC ?_|refine Zl rfl rfl (by omega) ?_|refine Z1 ?_|refine QB ?_)
  refine ⟨i+1,⟨?_,?_⟩,by omega,by omega⟩
  ·simp only [ZIY hx2,lL,YM];rfl
  ·simp only [ZIY hx2,ZIS]
 ·have hi':i=l.length:=by omega
  subst hi';rw [List.take_length]
  skip
  refine ZnQ rfl (v:=.str l.flatten) ?_ ?_
  ·have hl:=YM l.flatten
   show (ZAq l.length 0 l.flatten.length (St.get _ A.length 1)).bind _=_
   rw [St.get_cur]
   show (ZAq l.length 0 l.flatten.length (some (Blk.arr 1 l.length (QK l.flatten)))).bind _=_
   simp only [ZAq,true_and,hl,Nat.zero_add,Nat.le_refl,if_true,List.drop_zero,oS]
   rw [List.take_of_length_le (by omega),ZIV];rfl
  repeat' (first|refine ZG rfl ?_|refine ZB rfl ?_|refine ZC ?_|refine ZP ?_|refine ZJ ?_)
  refine Ze hA (by first|exact .inl rfl|exact .inr rfl) rfl rfl rfl rfl ?_
  rfl
theorem PI.ok {r:AR} (ho:AROk r) (hg:GoodN r.nodes) {t:Tr} (hv:VE r.nodes t) (hb:t.bytes<=65536) (hn:nw t<=r.n) {its:List It} {rx:Nat} {ρ:Nat->Ro} (h:PI t its rx ρ) :
 WrB r (nw t) (wrV t r).1 (wrV t r).2.2/\(IsEmpty t/\(wrV t r).2.1=.zero\/Val r.nodes t/\WrOk r.nodes t (wrV t r).1 (wrV t r).2.1):=by
 rcases h with ⟨h1,_,h2⟩|⟨⟨M,hM⟩,R,h1,h2,h3⟩
 ·have e:nw t=0:=by unfold nw;rw [if_pos ⟨h1.old,h1.h,h1.text⟩]
  rw [ZQs h1,e];exact ⟨.refl ho hg,.inl ⟨h1,rfl⟩⟩
 ·rcases hv with hv|hv
  ·exact absurd hv hM.not_empty
  ·rw [ZUz hv,ZFd hv]
   rw [ZFd hv] at hn;obtain ⟨ρ',a1,a2,a3,a4,a5⟩:=exec_ok hg hv hb r ho hg (.refl _) hn rx its R ρ h1 h2 h3;exact ⟨a4,.inr ⟨hv,a5⟩⟩
theorem ZoH {st:St} {la b:Nat} {r:AR} (hA:Has st la b r) (ho:AROk r) (hg:GoodN r.nodes) {t:Tr} (hv:VE r.nodes t) (hb:t.bytes<=65536) (hn:nw t<=r.n) :
 WrB r (nw t) (wrV t r).1 (wrV t r).2.2/\(IsEmpty t/\(wrV t r).2.1=.zero\/Val r.nodes t/\WrOk r.nodes t (wrV t r).1 (wrV t r).2.1):=by
 obtain ⟨L2,tx,ver,cs,its,F,keys,rx,ρ,hS,hB⟩:=Zkk (L:=[]) (hA.push rfl).r ho.nb ho.n16 (by have:=ho.nn;have:=ho.n16;omega) hv hb hn
 exact hB.pi.ok ho hg hv hb hn
def ZRV (N:ZO) (r:Ro):List UInt8:=if r.at_=0 then [] else Qc N r.h r.at_
structure Rt (N:ZO) (r:Ro) (s:List UInt8):Prop where
 rt:RtOk N r
 tx:ZRV N r=s
theorem RtOk.ext {N M:ZO} (hE:Ext N M) {r:Ro} (h:RtOk N r):RtOk M r:=h.imp id fun ⟨h0,x,h1,h2⟩=>⟨h0,x,hE _ _ h1,h2⟩
theorem Rt.ext {N M:ZO} (hN:GoodN N) (hE:Ext N M) {r:Ro} {s:List UInt8} (h:Rt N r s):Rt M r s:=by
 refine ⟨h.rt.ext hE,?_⟩;rw [<- h.tx];unfold ZRV
 split
 ·rfl
 ·rename_i q
  rcases h.rt with e|⟨_,x,h1,_,h2,_⟩
  ·rw [e] at q;exact absurd rfl q
  ·exact ZIu hN hE _ _ x h1 h2
theorem Rt.zero (N:ZO):Rt N .zero []:=⟨.inl rfl,rfl⟩
theorem Rt.m {N:ZO} (hN:GoodN N) {r:Ro} {s:List UInt8} (h:Rt N r s):r.m=JY s:=by
 obtain ⟨h,rfl⟩:=h;unfold ZRV
 rcases h with rfl|⟨h0,x,h1,h2,h3,h4⟩
 ·rfl
 ·rw [if_neg h0,ZEK hN _ _ x h1 h3,h4]
theorem Rt.wr {r:AR} (ho:AROk r) {N:ZO} {t:Tr} {ro:Ro} (h:WrOk N t r ro):Rt r.nodes ro (t.txt N):=by
 obtain ⟨y,h1,h2,h3,h4⟩:=h.live;have h0:=(ho.hnd h1).2
 refine ⟨.inr ⟨h0,y,h1,h2,by rw [h3,h.rh],by rw [h4,h.rm]⟩,?_⟩
 unfold ZRV;rw [if_neg h0,h.rh,h.txt]
theorem Rt.keep {N:ZO} {r:Ro} {s:List UInt8} (h:Rt N r s):VE N (JE r)/\(JE r).txt N=s:=by
 obtain ⟨h,rfl⟩:=h;unfold ZRV JE
 rcases h with rfl|⟨h0,x,h1,h2,h3,h4⟩
 ·rw [if_pos (by rfl),if_pos (by rfl)];exact ⟨.inl zero_empty,rfl⟩
 ·rw [if_neg h0,if_neg h0]
  exact ⟨.inr (.kept h0 h1 h2 h3 h4 rfl),by rw [Tr.keep,Tr.txt,if_neg h0];simp [Tr.txtO]⟩
theorem Rt.b {N:ZO} (hN:GoodN N) {r:Ro} {s:List UInt8} (h:Rt N r s):(JE r).bytes=s.length/\r.m.b=s.length:=by
 have h1:=h.keep;have h2:=h1.1.len hN;rw [h1.2] at h2
 exact ⟨h2.symm,by rw [h.m hN];rfl⟩
theorem ZZl {st:St} {la b:Nat} {r:AR} (hA:Has st la b r) (ho:AROk r) (hg:GoodN r.nodes) {t:Tr} (hv:VE r.nodes t) (hb:t.bytes<=65536) (hn:nw t<=r.n) :
 WrB r (nw t) (wrV t r).1 (wrV t r).2.2/\Rt (wrV t r).1.nodes (wrV t r).2.1 (t.txt r.nodes):=by
 obtain ⟨h1,h2⟩:=ZoH hA ho hg hv hb hn;refine ⟨h1,?_⟩
 rcases h2 with ⟨he,h2⟩|⟨hv,h2⟩
 ·rw [h2,he.txt];exact .zero _
 ·exact .wr h1.ok h2
theorem ZFx (N:ZO) (v w:List Nat):QO N (v++w)=QO N v++QO N w:=by unfold QO;rw [List.filterMap_append]
theorem ZiG {N:ZO} (hN:GoodN N):∀ n o x,lk N o=some x->x.h=n->(QO N (Qg N n o)).flatten=Qc N n o:=by
 intro n
 induction n with
 | zero =>
  intro o x hx hh;rw [Qg,Qc,hx]
  simp [QO,QY hx,hh]
 | succ n ih =>
  intro o x hx hh;rw [Qg,Qc,hx,QY hx]
  have h0:QO N [o]=[]:=by simp [QO,QY hx];omega
  have e:=ZFx N [o] (x.ks.flatMap fun k=>Qg N n k.at_)
  rw [h0] at e;simp only [Option.map_some,Option.getD_some]
  rw [show (o::x.ks.flatMap fun k=>Qg N n k.at_)=[o]++x.ks.flatMap fun k=>Qg N n k.at_ from rfl,e,lE]
  have hk:=(hN o x hx).2
  have key:∀ l:List Kid,(∀ k∈l,k∈x.ks)->(QO N (l.flatMap fun k=>Qg N n k.at_)).flatten=l.flatMap fun k=>Qc N n k.at_:=by
   intro l
   induction l with
   | nil=>intro _;rfl
   | cons k l ih2 =>
    intro h
    obtain ⟨_,y,y1,y2,_⟩:=hk k (h k (by simp))
    rw [List.flatMap_cons,List.flatMap_cons,ZFx,List.flatten_append,ih k.at_ y y1 (by omega),ih2 (fun q hq=>h q (by simp [hq]))]
  exact key _ fun _ h=>h
theorem Rt.leaves {N:ZO} (hN:GoodN N) {r:Ro} {s:List UInt8} (h:Rt N r s):(QO N (Zu N r)).flatten=s:=by
 obtain ⟨h,rfl⟩:=h;unfold ZRV Zu
 split
 ·rfl
 ·rename_i q
  rcases h with rfl|⟨_,x,h1,_,h2,_⟩
  ·exact absurd rfl q
  ·exact ZiG hN _ _ x h1 h2
theorem XV (A:List (Bool × List Blk)) (L0 T:List Blk) (r:AR):Has ⟨A,false,L0++(arB A.length L0.length r++T)⟩ A.length L0.length r:=by
 have h:∀ i b,(arB A.length L0.length r++T)[i]?=some b->vis (some b)=some b->St.get ⟨A,false,L0++(arB A.length L0.length r++T)⟩ A.length (L0.length+i)=some b:=by
  intro i b hb hv;rw [St.get_cur,Qt,hb,hv]
 exact ⟨by simp [St.wr],h 0 _ rfl rfl,h 1 _ rfl rfl,h 2 _ rfl rfl,h 3 _ rfl rfl,h 4 _ rfl rfl,h 5 _ rfl rfl⟩
theorem ZZm (A:List (Bool × List Blk)) (L0 T:List Blk) (r r':AR):Qk ⟨A,false,L0++(arB A.length L0.length r++T)⟩ A.length L0.length r'=⟨A,false,L0++(arB A.length L0.length r'++T)⟩:=by
 have h:∀ (X:List Blk) (i:Nat) (b:Blk),St.upd ⟨A,false,L0++X⟩ A.length (L0.length+i) b=⟨A,false,L0++X.set i b⟩:=fun X i b=>by
  unfold St.upd;simp only [if_true,ZNr]
 have h0:∀ (X:List Blk) (b:Blk),St.upd ⟨A,false,L0++X⟩ A.length L0.length b=⟨A,false,L0++X.set 0 b⟩:=fun X b=>h X 0 b
 simp only [Qk,arK,arB,JW,h,h0];rfl
theorem ZsD {e:Env} {A:List (Bool × List Blk)} {st:St} {L:List Blk} {x:Ex} {c4 c5 j4 w4 v4:Nat} {ro:Ro} {z:Int} (hA:A=st.A++[(st.ro,st.L)]) (hx:x=.norm\/x=.ret) (h4:Jm e c4=some (.ptr A.length j4 v4 0 0)) (hg4:L[j4]?=some (.arr w4 v4 [ro.av]))
 (h6:Jm e c5=some (.int .i64 z)):Jd false [.c c4 true 5,.s c5] (x,e,⟨A,false,L⟩)=some (.tup [ro.av,.int .i64 z],st):=by
 refine ZCO (v:=.tup [ro.av,.int .i64 z]) hA hx ?_ (L':=L) rfl rfl
 have h1:ZAK ⟨A,false,L⟩ e (.c c4 true 5)=some ro.av:=by
  simp only [ZAK,QF h4,loadP,St.get_cur,hg4,vis,ZCC,if_true,List.getElem?_cons_zero,oS];rfl
 simp only [QU,ZCz,h1,oS];simp only [ZAK,QF h6,oS,Option.map_some,ZDg]
theorem Zko {st:St} {la b:Nat} {r:AR} (hA:Has st la b r) (ho:AROk r) (hg:GoodN r.nodes) (s:List UInt8) (hs:s.length<=65536) (hn:nw (Qy s)<=r.n) :
 S Tb ZCS [.ptr la (b+5) 0 0 0,.str s] st=some (.tup [(wrV (Qy s) r).2.1.av,.int .i64 0],Qk st la b (wrV (Qy s) r).1):=by
 obtain ⟨b1,b2,b3⟩:=Xp hg hs
 refine ZBg rfl (fun A hA'=>?_)
 have hB:=fun L=>Zfx hg s hs ⟨A,false,L⟩
 have hle:=hA.le
 have hW:=fun L=>Zf4 (st:=⟨A,false,L⟩) (hA.push hA') ho hg b1 (by rw [b3];omega) hn
 simp only [ZEN hA' hle] at hW
 generalize (wrV (Qy s) r).1=r' at *
 generalize (wrV (Qy s) r).2.1=ro at *
 repeat' (first|refine ZE ?_|refine ZD ?_|refine ZG rfl ?_|refine Zy rfl rfl ?_|refine ZB rfl ?_|refine ZC ?_|(refine Zj rfl rfl (fun _=>?_) (fun _=>?_)<;>try (exfalso;omega))|refine ZH rfl ?_|refine JN rfl rfl rfl rfl ?_|refine Zh rfl rfl rfl ?_|refine ZS rfl rfl rfl (Zm _) ?_|refine Zw rfl rfl rfl (QN _ _ _) (Qo _ _) rfl ?_|refine ZA rfl rfl (by first|rfl|(simp only [lE,lN,lC,Za,ZV,ZW];first|done|rfl)) (hB _) ?_|refine ZI ?_)
 all_goals try contradiction
 all_goals try (exfalso;omega)
 obtain ⟨A2,hA2⟩:∃ A2,A2=(Qk st la b r').ps:=⟨_,rfl⟩;simp only [<- hA2] at hW
 have hAl:A.length=A2.length:=by rw [hA',hA2];simp [St.ps,ZK9]
 refine ZA rfl rfl (Zsk rfl _) (hW _) ?_;rw [hAl]
 repeat' (first|refine JH rfl rfl rfl rfl rfl rfl ?_|refine ZS rfl rfl rfl rfl ?_|refine ZE ?_|refine ZD ?_|refine ZG rfl ?_|refine Zy rfl rfl ?_|refine ZB rfl ?_|refine ZC ?_|refine Zh rfl rfl rfl ?_|refine ZP ?_|refine ZJ ?_)
 exact ZsD hA2 (.inr rfl) rfl rfl rfl
theorem ZZn (n g:Nat) (hn:n<=16384) (hg:1<=g/\g<=4294967295):AROk (JD n g):=by
 have hb:∀ i,i<n->(JD n g).blk[i]?=some ((n:Int)-1-i):=fun i hi=>by simp [JD,hi]
 refine ⟨by simp [JD],by simp [JD];exact hn,by simp [JD],by simp [JD],fun i hi=>⟨n-1-i,?_,?_,?_⟩,fun i j hi hj q=>?_,fun s hs=>⟨1,?_,by omega,?_⟩,?_,fun h x hx=>?_,?_,?_,?_⟩
 ·have hi':i<n:=hi
  rw [hb i hi'];congr 1
  show (n:Int)-1-i=((n-1-i:Nat):Int)
  omega
 ·have hi':i<n:=hi
  show n-1-i<(List.replicate n (0:Int)).length
  rw [List.length_replicate];omega
 ·have hi':i<n:=hi
  show (List.replicate n (0:Int))[n-1-i]?=some 0
  rw [List.getElem?_replicate,if_pos (by omega)]
 ·have hi':i<n:=hi
  have hj':j<n:=hj;rw [hb i hi',hb j hj'] at q
  have:=Option.some.inj q
  omega
 ·have hs':s<n:=by simpa [JD] using hs
  simp [JD,hs']
 ·show ((1:Nat):Int)<=(g:Int);omega
 ·show (g:Int)<=_;omega
 ·simp [JD,lk] at hx
 ·simp [JD]
 ·simp [JD]
 ·simp [JD];omega
noncomputable def ZiH (p:AR × List Ro) (s:List UInt8):AR × List Ro:=((wrV (Qy s) p.1).1,p.2++[(wrV (Qy s) p.1).2.1])
noncomputable def XC (texts:List (List UInt8)):AR × List Ro:=texts.foldl ZiH (JD 1500 3,[])
theorem ZLB (l:List (List UInt8)) (s:List UInt8):XC (l++[s])=ZiH (XC l) s:=by unfold XC;rw [List.foldl_append];rfl
def Rts (N:ZO) (ros:List Ro) (ss:List (List UInt8)):Prop:=ros.length=ss.length/\∀ (i:Nat) (ro:Ro) (s:List UInt8),ros[i]?=some ro->ss[i]?=some s->Rt N ro s
theorem Rts.ext {N M:ZO} (hN:GoodN N) (hE:Ext N M) {ros:List Ro} {ss:List (List UInt8)} (h:Rts N ros ss):Rts M ros ss:=⟨h.1,fun i ro s h1 h2=>(h.2 i ro s h1 h2).ext hN hE⟩
theorem Rts.snoc {N:ZO} {ros:List Ro} {ss:List (List UInt8)} (h:Rts N ros ss) {ro:Ro} {s:List UInt8} (g:Rt N ro s):Rts N (ros++[ro]) (ss++[s]):=by
 refine ⟨by simp [h.1],fun i r t h1 h2=>?_⟩
 rcases Nat.lt_or_ge i ros.length with q|q
 ·rw [jL q] at h1
  rw [jL (by rw [<- h.1];exact q)] at h2
  exact h.2 i r t h1 h2
 ·rw [List.getElem?_append_right q] at h1
  rw [List.getElem?_append_right (by rw [<- h.1];exact q)] at h2
  rw [<- h.1] at h2
  match hk:i-ros.length with
  | 0=>rw [hk] at h1 h2;obtain rfl:=Option.some.inj h1;obtain rfl:=Option.some.inj h2;exact g
  | n+1=>rw [hk] at h1;simp at h1
structure LaidOk (texts:List (List UInt8)) (p:AR × List Ro):Prop where
 ok:AROk p.1
 good:GoodN p.1.nodes
 rts:Rts p.1.nodes p.2 texts
 room:1500<=p.1.n+texts.flatten.length
theorem ZZo {l:List (List UInt8)} {p:AR × List Ro} {s:List UInt8} (h:LaidOk l p) (hl:(l++[s]).flatten.length<=900):nw (Qy s)<=p.1.n/\LaidOk (l++[s]) (ZiH p s):=by
 have hfl:(l++[s]).flatten.length=l.flatten.length+s.length:=by simp
 have hr:=h.room
 have hs:s.length<=65536:=by omega
 obtain ⟨b1,b2,b3⟩:=Xp h.good hs;have hw:=Zsp h.good b1;rw [b3] at hw
 have hn:nw (Qy s)<=p.1.n:=by omega
 obtain ⟨w1,w2⟩:=ZZl (XV [] [] [] p.1) h.ok h.good b1 (by rw [b3];omega) hn
 rw [b2] at w2;refine ⟨hn,w1.ok,w1.good,(h.rts.ext h.good w1.ext).snoc w2,?_⟩
 have:=w1.n
 show 1500<=(wrV (Qy s) p.1).1.n+_
 omega
theorem ZZp (texts:List (List UInt8)) (hl:texts.flatten.length<=900):∀ i,i<=texts.length->LaidOk (texts.take i) (XC (texts.take i)):=by
 intro i
 induction i with
 | zero=>intro _;exact ⟨ZZn 1500 3 (by omega) (by omega),ZNt,⟨rfl,fun i ro s h=>by simp [XC] at h⟩,by simp [XC,JD]⟩
 | succ i ih =>
  intro hi
  obtain ⟨s,hs⟩:∃ s,texts[i]?=some s:=⟨texts[i]'(by omega),by simp [show i<texts.length by omega]⟩
  rw [Zc hs,ZLB]
  refine (ZZo (ih (by omega)) ?_).2
  rw [<- Zc hs]
  have:=ZIx texts (i+1)
  omega
def ZDf (l:List Ro):List Blk:=l.map fun r=>Blk.arr 5 0 [r.av]
theorem ZsE (texts:List (List UInt8)) (hl:texts.flatten.length<=900) (h4:texts.length<=4) (A:List (Bool × List Blk)) (L0:List Blk) :
 S Tb YS [.lit (texts.map .str)] ⟨A,false,L0⟩=some (.tup [.ptr A.length (L0.length+5) 0 0 0,.ref A.length (L0.length+6) texts.length 0 texts.length,.bool true],⟨A,false,L0++(arB A.length L0.length (XC texts).1++(.arr 5 texts.length ((XC texts).2.map Ro.av)::ZDf (XC texts).2))⟩):=by
 refine Xw rfl ?_
 have hN:=Zke 1500 3 (by omega) (by omega) A L0
 repeat' (first|refine Zhs ?_|refine ZE ?_|refine ZD ?_|refine ZG rfl ?_|refine QM rfl ?_|refine Zs rfl rfl rfl rfl ?_|refine Zy rfl rfl ?_|refine ZB rfl ?_|refine ZC ?_|(refine Zj rfl rfl (fun _=>?_) (fun _=>?_)<;>try (exfalso;omega))|refine ZH rfl ?_|refine JN rfl rfl rfl rfl ?_|refine ZA rfl rfl rfl (hN) ?_|refine ZI ?_|refine ZL ?_)
 all_goals try contradiction
 have e7:(L0++[(JD 1500 3).b0,(JD 1500 3).b1,(JD 1500 3).b2,(JD 1500 3).b3 A.length L0.length,(JD 1500 3).b4,(JD 1500 3).b5 A.length L0.length]).length=L0.length+6:=by simp
 rw [e7]
 refine Zx (α:=Nat) (fun i=>[(0,.lit (texts.map .str)),(5,.ptr A.length (L0.length+5) 0 0 0),(7,.ref A.length (L0.length+6) i 0 i),(8,.int .i64 i)])
  (fun i=>⟨A,false,L0++(arB A.length L0.length (XC (texts.take i)).1++(.arr 5 i ((XC (texts.take i)).2.map Ro.av)::ZDf (XC (texts.take i)).2))⟩) (fun i=>i<=texts.length) (fun i=>texts.length-i) 0 rfl ?_ (by simp) ?_
 ·rw [List.append_assoc];rfl
 rintro i hi
 have hok:=ZZp texts hl i hi
 rcases Nat.lt_or_ge i texts.length with hlt|hge
 ·obtain ⟨s,hs⟩:∃ s,texts[i]?=some s:=⟨texts[i]'(by omega),by simp [show i<texts.length by omega]⟩
  have hfl:=ZIx texts (i+1)
  have htk:(texts.take i++[s]).flatten.length<=900:=by rw [<- Zc hs];omega
  obtain ⟨hn,hok2⟩:=ZZo hok htk
  have h1:=Zko (XV A L0 (.arr 5 i ((XC (texts.take i)).2.map Ro.av)::ZDf (XC (texts.take i)).2) (XC (texts.take i)).1) hok.ok hok.good s (by simp at htk;omega) hn
  rw [ZZm] at h1
  have hV:XC (texts.take (i+1))=ZiH (XC (texts.take i)) s:=by rw [Zc hs,ZLB]
  unfold ZiH at hV;have hri:=hok.rts.1;rw [List.length_take,Nat.min_eq_left hi] at hri
  generalize XC (texts.take i)=V at *
  generalize wrV (Qy s) V.1=W at *
  have hx:0<=((i:Nat):Int)/\texts[((i:Nat):Int).toNat]?=some s:=⟨by omega,by rw [show ((i:Nat):Int).toNat=i by omega];exact hs⟩
  obtain ⟨L1,hL1⟩:∃ L1,L1=L0++(arB A.length L0.length W.1++Blk.arr 5 i (List.map Ro.av V.2)::ZDf V.2):=⟨_,rfl⟩;rw [<- hL1] at h1
  have g6:L1[L0.length+6]?=some (.arr 5 i (V.2.map Ro.av)):=by rw [hL1,Qt];rfl
  repeat' (first|refine Jl rfl rfl hx (fun _=>rfl) ?_|refine ZE ?_|refine ZD ?_|refine ZG rfl ?_|refine Zy rfl rfl ?_|refine ZB rfl ?_|refine ZC ?_|refine QH rfl ?_|refine Qe rfl rfl rfl ?_|refine QQ rfl rfl ?_|(refine Zi rfl rfl (fun _=>?_) (fun _=>?_)<;>try (exfalso;omega))|(refine Zj rfl rfl (fun _=>?_) (fun _=>?_)<;>try (exfalso;omega))|refine ZU rfl ?_|refine ZH rfl ?_|refine Zt rfl rfl rfl ?_|refine JV rfl rfl rfl rfl rfl rfl ?_|refine QZ rfl rfl rfl rfl ?_|refine ZA rfl rfl rfl (h1) ?_|refine ZI ?_|refine ZL ?_)
  all_goals try contradiction
  all_goals try (exfalso;omega)
  have h6l:L0.length+6<L1.length:=(List.getElem?_eq_some_iff.1 g6).1
  refine ZAH (es:=V.2.map Ro.av) (ys:=[W.2.1.av]) rfl rfl (ZAI g6) (by rw [List.length_map];omega) rfl rfl (by rw [List.length_map,List.length_singleton];omega) (by decide) ?_
  repeat' (first|refine ZD ?_|refine ZG rfl ?_|refine ZB rfl ?_|refine ZC ?_|refine Zl rfl rfl (by omega) ?_|refine Z1 ?_|refine QB ?_)
  refine ⟨i+1,⟨rfl,?_⟩,by omega,by omega⟩
  simp only [hV];rw [hL1,List.append_assoc,ZNr]
  have e8:((V.2++[W.2.1]).map Ro.av)=V.2.map Ro.av++[W.2.1.av]:=by rw [List.map_append];rfl
  have e9:ZDf (V.2++[W.2.1])=ZDf V.2++[.arr 5 0 [W.2.1.av]]:=by unfold ZDf;rw [List.map_append];rfl
  rw [e8,e9];rfl
 ·obtain rfl:i=texts.length:=by omega
  rw [List.take_length]
  repeat' (first|refine ZE ?_|refine ZD ?_|refine ZG rfl ?_|refine ZB rfl ?_|refine ZC ?_|refine QH rfl ?_|(refine Zi rfl rfl (fun _=>?_) (fun _=>?_)<;>try (exfalso;omega))|refine ZH rfl ?_|refine ZP ?_|refine Zv ?_|refine ZJ ?_|refine Zf ?_|refine Zd rfl ?_|refine Zo ?_)
  refine (YE (.inr rfl) rfl rfl rfl rfl).trans ?_;rfl
def JK (x n:Int):Int:=(x % 18446744073709551616) % (n+1)
theorem Qu {x n:Int} (h:0<=n):0<=JK x n/\JK x n<=n:=by
 unfold JK
 have:=Int.emod_nonneg (x % 18446744073709551616) (show n+1≠0 by omega)
 have:=Int.emod_lt_of_pos (x % 18446744073709551616) (show 0<n+1 by omega)
 omega
theorem ZrV (x:Int):IntKind.u64.wrap x=x % 18446744073709551616:=by
 have e1:IntKind.u64.signed=false:=rfl;have e2:IntKind.u64.bits=64:=rfl;simp only [IntKind.wrap,e1,e2,Bool.false_and,if_false,jB];rfl
theorem Xq (k:Option (List Tr)):(Tr.ownO k).getD []=(k.getD []).map Tr.own:=by
 cases k with
 | none=>rfl
 | some l=>simp [Tr.ownO,Tr.ownL_map]
theorem Zsq (t:Tr):t.own.h=t.h:=by cases t;rfl
theorem ZAg (t:Tr):t.own.bytes=t.bytes:=by
 induction t using Tr.ind with
 | step o h m s k ih =>
  rw [Tr.own,Tr.bytes,Tr.bytes,Tr.bytesO_getD,Tr.bytesO_getD,Xq];generalize k.getD []=l at ih
  congr 1
  induction l with
  | nil=>rfl
  | cons a l ih2=>rw [jC,Tr.bytesL,Tr.bytesL,ih a (by simp),ih2 (fun t ht=>ih t (by simp [ht]))]
theorem Zf7 (N:ZO) (t:Tr):t.own.txt N=t.txt N:=by
 induction t using Tr.ind with
 | step o h m s k ih =>
  rw [Tr.own,Tr.txt,Tr.txt,Tr.txtO_getD,Tr.txtO_getD,Xq];generalize k.getD []=l at ih
  congr 1
  induction l with
  | nil=>rfl
  | cons a l ih2=>rw [jC,Tr.txtL,Tr.txtL,ih a (by simp),ih2 (fun t ht=>ih t (by simp [ht]))]
theorem Zq4 {N:ZO} {t:Tr} (hv:Val N t):Val N t.own:=by
 induction hv with
 | kept h0 hx hok hh hm hk =>
  rw [Tr.own]
  exact .kept h0 hx hok hh hm (by rw [Xq,hk];rfl)
 | leaf h1 h2 hk =>
  rw [Tr.own]
  exact .leaf h1 h2 (by rw [Xq,hk];rfl)
 | inner hh h2 h4 hl hb hv ih =>
  rename_i h l
  rw [Tr.own,Tr.ownO,Tr.ownL_map]
  refine .inner hh (by rw [List.length_map];exact h2) (by rw [List.length_map];exact h4) ?_ ?_ ?_
  ·intro t ht
   obtain ⟨u,hu,rfl⟩:=List.mem_map.1 ht;rw [Zsq];exact hl u hu
  ·intro t ht q
   obtain ⟨u,hu,rfl⟩:=List.mem_map.1 ht;rw [ZAg];exact hb u hu q
  ·intro t ht
   obtain ⟨u,hu,rfl⟩:=List.mem_map.1 ht;exact ih u hu
theorem Zf8 {N:ZO} {t:Tr} (h:VE N t):VE N t.own:=by
 rcases h with h|h
 ·obtain ⟨o,h',m,s,k⟩:=t
  obtain ⟨h1,h2,h3,h4,h5⟩:=h
  exact .inl ⟨h1,h2,h3,h4,by show (Tr.ownO k).getD []=[];rw [Xq];simp only [Tr.ks] at h5;rw [h5];rfl⟩
 ·exact .inr (Zq4 h)
theorem Zf9 (x n:Int) (h0:0<=n) (h1:n<4611686018427387904) (st:St):S Tb JP [.int .i64 x,.int .i64 n] st=some (.int .i64 (JK x n),st):=by
 have hp:=Qu (x:=x) h0
 have hw:IntKind.u64.wrap (n+1)=n+1:=by rw [ZrV];omega
 have hx:=Int.emod_nonneg x (show (18446744073709551616:Int)≠0 by decide)
 have hrem:ZEV .rem (.int .u64 (IntKind.u64.wrap x)) (.int .u64 (n+1))=some (.int .u64 (JK x n)):=by
  rw [ZrV]
  show (if n+1=0 then none else some (AV.int .u64 ((x % 18446744073709551616).tmod (n+1))))=_
  rw [if_neg (by omega),Int.tmod_eq_emod_of_nonneg hx];rfl
 refine QI rfl (fun A hA=>?_)
 repeat' (first|refine ZE ?_|refine ZD ?_|refine ZG rfl ?_|refine ZB rfl ?_|refine ZC ?_)
 refine ZqM rfl ?_
 repeat' (first|refine ZG rfl ?_|refine Zl rfl rfl (by omega) ?_)
 refine ZLd rfl hw ?_;refine ZVl rfl rfl hrem ?_
 refine ZLd rfl (ZOW (by omega) (by omega)) ?_
 repeat' (first|refine ZG rfl ?_|refine ZB rfl ?_|refine ZC ?_|refine ZP ?_|refine ZJ ?_)
 refine Ze hA (by first|exact .inl rfl|exact .inr rfl) rfl rfl rfl rfl ?_
 rfl
structure Ed where
 what:Nat
 n:Int
 at_:Int
 len:Int
 text:List UInt8
def Ed.av (y:Ed):AV:=.agg [.int .u8 y.what,.int .i64 y.n,.int .i64 y.at_,.int .i64 y.len,.str y.text]
def ZdX (ros:List Ro) (x:Int):Option Ro:=ros[(JK x ((ros.length:Int)-1)).toNat]?
noncomputable def ZCy (N:ZO) (ros:List Ro) (y:Ed):Tr :=
 match ZdX ros y.n with
 | none=>Qy y.text
 | some r=>(ZIT N (JE r) (JK y.at_ r.m.b) (JK y.len (r.m.b-JK y.at_ r.m.b)) y.text).own
theorem ZoI {ros:List Ro} {x:Int} (h:ros≠[]):∃ r,ZdX ros x=some r/\r∈ros/\(JK x ((ros.length:Int)-1)).toNat<ros.length:=by
 have hl:0<ros.length:=List.length_pos_iff.2 h
 have:=Qu (x:=x) (n:=(ros.length:Int)-1) (by omega)
 have hlt:(JK x ((ros.length:Int)-1)).toNat<ros.length:=by omega
 exact ⟨ros[(JK x ((ros.length:Int)-1)).toNat]'hlt,by unfold ZdX;rw [jE hlt],List.getElem_mem _,hlt⟩
theorem ZgA (r:Ro):JG r.av true 0 5=some r.av:=by cases r;rfl
theorem XL {O:Orc} {k:List Fr} {Q:Jw} {e:Env} {st:St} {keep:List Nat} {is:List QAbs.PI} {d:Nat} {α:Type} {f:α->AV} {x:Opd} {l:List α} (hx:Zb e x=some (.lit (l.map f))) (h:Is O is keep k Q ((d,.int .i64 l.length)::e) st):Is O (⟨some d,none,false,.len 1 x⟩::is) keep k Q e st:=by
 refine ZUr hx ?_;rw [List.length_map];exact h
theorem Zq5 {lv ix:Nat} {t:Tr} {n m:Int} {s:List UInt8}:ZW (Za ([]++[.ptr lv ix 0 0 0,t.av,.int .i64 n,.int .i64 m,.str s]++[]))=some [.ptr lv ix 0 0 0,t.av,.int .i64 n,.int .i64 m,.str s]:=by
 simp only [lE,lN,lC,Za,ZV,ZW];rfl
structure PlanOk (N:ZO) (ros:List Ro):Prop where
 rt:∀ r∈ros,RtOk N r/\(JE r).bytes=r.m.b/\0<=r.m.b/\r.m.b<=60000
 len:ros.length<65536
theorem Rts.plan {N:ZO} (hN:GoodN N) {ros:List Ro} {ss:List (List UInt8)} (h:Rts N ros ss) (hl:ros.length<65536) (hs:∀ s∈ss,s.length<=60000):PlanOk N ros:=by
 refine ⟨fun r hr=>?_,hl⟩
 obtain ⟨i,hi,rfl⟩:=List.getElem_of_mem hr
 have hi2:i<ss.length:=by rw [<- h.1];exact hi
 have g:=h.2 i _ _ (jE hi) (jE hi2);obtain ⟨b1,b2⟩:=g.b hN
 have:=hs _ (List.getElem_mem hi2)
 exact ⟨g.rt,by rw [b1,b2],by omega,by omega⟩
theorem RtOk.keep {N:ZO} {r:Ro} (h:RtOk N r):VE N (JE r):=(Rt.keep ⟨h,rfl⟩).1
theorem ZoJ {N:ZO} (hN:GoodN N) {ros:List Ro} (h:PlanOk N ros) {y:Ed} (hy:y.text.length<=200):VE N (ZCy N ros y)/\(ZCy N ros y).bytes<=60200:=by
 unfold ZCy
 match hq:ZdX ros y.n with
 | none =>
  obtain ⟨b1,b2,b3⟩:=Xp hN (s:=y.text) (by omega)
  exact ⟨b1,by show (Qy y.text).bytes<=_;omega⟩
 | some r =>
  obtain ⟨h1,h2,h3,h4⟩:=h.rt r (jM (show ros[_]?=some r from hq))
  have p1:=Qu (x:=y.at_) h3
  have p2:=Qu (x:=y.len) (n:=r.m.b-JK y.at_ r.m.b) (by omega)
  have:=ZNs hN (s:=y.text) h1.keep (a:=JK y.at_ r.m.b) (n:=JK y.len (r.m.b-JK y.at_ r.m.b)) p1.1 p2.1 (by omega) (by omega) (by omega)
  refine ⟨Zf8 this.ve,?_⟩
  show (Tr.own _).bytes<=_
  rw [ZAg,this.bytes];omega
theorem Zq6 {st:St} {la b:Nat} {N:ZO} (hN:GoodN N) (hR:Rd st la (b+5) N) {kx lv ver:Nat} {ros:List Ro} (hg:st.get lv kx=some (.arr 5 ver (ros.map Ro.av))) (hP:PlanOk N ros) {ys:List Ed} (hyl:ys.length<65536) (hy:∀ y∈ys,y.text.length<=200) :
 S Tb XG [.ptr la (b+5) 0 0 0,.ref lv kx ver 0 ros.length,.lit (ys.map Ed.av)] st=some (.tup [.lit ((ys.map (ZCy N ros)).map Tr.av),.bool true],st):=by
 refine QI rfl (fun A hA=>?_)
 have hr:=fun L=>hR.push hA (ro:=false) (L:=L)
 have gr:=fun L=>ZX hA (ro:=false) (L:=L) hg
 have hwi:∀ L,wIs 5 ver (St.get ⟨A,false,L⟩ lv kx)=true:=fun L=>by rw [gr];simp [wIs]
 have hpl:=hP.len
 repeat' (first|refine ZE ?_|refine ZD ?_|refine ZG rfl ?_|refine ZB rfl ?_|refine ZC ?_|refine XP rfl ?_|refine ZL ?_)
 refine Zx (α:=Nat × List Blk) (fun q=>[(0,.ptr la (b+5) 0 0 0),(1,.ref lv kx ver 0 ros.length),(2,.lit (ys.map Ed.av)),(8,.ref A.length 0 q.1 0 q.1),(9,.int .i64 q.1)])
  (fun q=>⟨A,false,.arr 7 q.1 (((ys.take q.1).map (ZCy N ros)).map Tr.av)::q.2⟩) (fun q=>q.1<=ys.length) (fun q=>ys.length-q.1) (0,[]) rfl rfl (Nat.zero_le _) ?_
 rintro ⟨i,G⟩ hi
 simp only at hi ⊢
 rcases Nat.lt_or_ge i ys.length with hlt|hge
 ·obtain ⟨y,hyi⟩:∃ y,ys[i]?=some y:=⟨ys[i]'(by omega),by simp [hlt]⟩
  have hy1:=hy y (jM hyi)
  have hx:0<=((i:Nat):Int)/\ys[((i:Nat):Int).toNat]?=some y:=⟨by omega,by rw [show ((i:Nat):Int).toNat=i by omega];exact hyi⟩
  have hes:(((ys.take i).map (ZCy N ros)).map Tr.av).length=i:=by simp;omega
  have hfin:∀ c,ZCy N ros y=c->((ys.take (i+1)).map (ZCy N ros)).map Tr.av=((ys.take i).map (ZCy N ros)).map Tr.av++[c.av]:=fun c hc=>by
   rw [Zc hyi,List.map_append,List.map_append,<- hc];rfl
  generalize hES:((ys.take i).map (ZCy N ros)).map Tr.av=es at *
  have e0:(⟨A,false,.arr 7 i es::G⟩:St)=⟨A,false,(.arr 7 i es::G)++[]⟩:=by rw [lN]
  rw [e0]
  by_cases hros:ros=[]
  ·have hc:=hfin (Qy y.text) (by unfold ZCy;rw [show ZdX ros y.n=none by subst hros;rfl])
   have h0:(ros.length:Int)=0:=by rw [hros];rfl
   have hBu:=fun st=>Zfx hN y.text (by omega) st
   generalize Qy y.text=c at *
   repeat' (first|refine XL rfl ?_|refine Qr rfl ?_|refine Jl rfl rfl hx (fun _=>rfl) ?_|refine Yl rfl rfl rfl rfl rfl ?_|refine ZAG rfl rfl rfl (Zm _) ?_|refine ZQn rfl rfl rfl rfl (QN _ _ _) (Qo _ _) rfl ?_|refine ZCA rfl ?_|refine ZE ?_|refine ZD ?_|refine ZG rfl ?_|refine ZQ rfl rfl ?_|refine Zy rfl rfl ?_|refine ZB rfl ?_|refine ZC ?_|refine QQ rfl rfl ?_|(refine Zi rfl rfl (fun _=>?_) (fun _=>?_)<;>try (exfalso;omega))|(refine Zn rfl rfl (fun _=>?_) (fun _=>?_)<;>try (exfalso;omega))|(refine Zj rfl rfl (fun _=>?_) (fun _=>?_)<;>try (exfalso;omega))|refine ZU rfl ?_|refine ZH rfl ?_|refine ZA rfl rfl (by first|rfl|(simp only [lE,lN,lC,Za,ZV,ZW];first|done|rfl)) (hBu _) ?_|refine ZI ?_|refine ZL ?_)
   all_goals try contradiction
   all_goals try (exfalso;omega)
   refine ZAH (es:=es) (ys:=[c].map Tr.av) rfl rfl rfl hes.symm (YY _) (ZIQ _ _ _) (by rw [hes,List.length_map,List.length_singleton];omega) (by decide) ?_
   repeat' (first|refine ZD ?_|refine ZG rfl ?_|refine ZB rfl ?_|refine ZC ?_|refine Zl rfl rfl (by omega) ?_|refine Zv ?_|refine Zf ?_|refine Zd rfl ?_|refine QB ?_)
   refine ⟨(i+1,G++[.arr 7 0 [c.av]]),⟨rfl,?_⟩,by simp only;omega,by simp only;omega⟩
   simp only [hc];rfl
  ·obtain ⟨r,hr1,hr2,hr3⟩:=ZoI (x:=y.n) hros
   have hc:=hfin (ZIT N (JE r) (JK y.at_ r.m.b) (JK y.len (r.m.b-JK y.at_ r.m.b)) y.text).own (by unfold ZCy;rw [hr1])
   obtain ⟨h1,h2,h3,h4⟩:=hP.rt r hr2;have hl0:0<ros.length:=List.length_pos_iff.2 hros
   have pn:=Qu (x:=y.n) (n:=(ros.length:Int)-1) (by omega)
   have p1:=Qu (x:=y.at_) h3
   have p2:=Qu (x:=y.len) (n:=r.m.b-JK y.at_ r.m.b) (by omega)
   have hN1:=fun st=>Zf9 y.n ((ros.length:Int)-1) (by omega) (by omega) st
   have hN2:=fun st=>Zf9 y.at_ r.m.b (by omega) (by omega) st
   have hN3:=fun st=>Zf9 y.len (r.m.b-JK y.at_ r.m.b) (by omega) (by omega) st
   have hK:=fun L=>ZIw (hr L) h1
   have hRe:=fun L=>Zlo hN (hr L) (s:=y.text) h1.keep (a:=JK y.at_ r.m.b) (n:=JK y.len (r.m.b-JK y.at_ r.m.b)) p1.1 p2.1 (by omega) (by omega) (by omega)
   have gr2:(ros.map Ro.av)[0+(JK y.n ((ros.length:Int)-1)).toNat]?=some r.av:=by
    rw [Nat.zero_add,jG,show ros[(JK y.n ((ros.length:Int)-1)).toNat]?=some r from hr1];rfl
   generalize (ZIT N (JE r) (JK y.at_ r.m.b) (JK y.len (r.m.b-JK y.at_ r.m.b)) y.text).own=c at *
   generalize JE r=kt at *
   repeat' (first|refine XL rfl ?_|refine Qr rfl ?_|refine Jl rfl rfl hx (fun _=>rfl) ?_|refine Xv rfl rfl (by omega) (hwi _) ?_|refine QA rfl (gr _) gr2 (ZgA _) ?_|refine Yl rfl rfl rfl rfl rfl ?_|refine ZAG rfl rfl rfl rfl ?_|refine ZAG rfl rfl rfl (Zm _) ?_|refine ZQn rfl rfl rfl rfl (QN _ _ _) (Qo _ _) rfl ?_|refine ZQn rfl rfl rfl rfl rfl rfl rfl ?_|refine ZCA rfl ?_|refine ZE ?_|refine ZD ?_|refine ZG rfl ?_|refine ZQ rfl rfl ?_|refine Zy rfl rfl ?_|refine ZB rfl ?_|refine ZC ?_|refine QQ rfl rfl ?_|(refine Zi rfl rfl (fun _=>?_) (fun _=>?_)<;>try (exfalso;omega))|(refine Zn rfl rfl (fun _=>?_) (fun _=>?_)<;>try (exfalso;omega))|(refine Zj rfl rfl (fun _=>?_) (fun _=>?_)<;>try (exfalso;omega))|refine ZU rfl ?_|refine ZH rfl ?_|refine Ja rfl rfl (by omega) ?_|refine ZA rfl rfl (by first|rfl|(simp only [lE,lN,lC,Za,ZV,ZW];first|done|rfl)) (hN1 _) ?_|refine ZA rfl rfl (by first|rfl|(simp only [lE,lN,lC,Za,ZV,ZW];first|done|rfl)) (hN2 _) ?_|refine YD rfl rfl rfl (hN3 _) ?_|refine ZA rfl rfl (by first|rfl|(simp only [lE,lN,lC,Za,ZV,ZW];first|done|rfl)) (hK _) ?_|refine ZA rfl rfl Zq5 (hRe _) ?_|refine ZI ?_|refine ZL ?_)
   all_goals try contradiction
   all_goals try (exfalso;omega)
   refine ZAH (es:=es) (ys:=[c].map Tr.av) rfl rfl rfl hes.symm (YY _) (ZIQ _ _ _) (by rw [hes,List.length_map,List.length_singleton];omega) (by decide) ?_
   repeat' (first|refine ZD ?_|refine ZG rfl ?_|refine ZB rfl ?_|refine ZC ?_|refine Zl rfl rfl (by omega) ?_|refine Z1 ?_|refine QB ?_)
   refine ⟨(i+1,G++[.arr 5 0 [r.av],.arr 7 0 [c.av]]),⟨rfl,?_⟩,by simp only;omega,by simp only;omega⟩
   simp only [hc];rfl
 ·obtain rfl:i=ys.length:=by omega
  rw [List.take_length]
  repeat' (first|refine XL rfl ?_|refine ZE ?_|refine ZD ?_|refine ZG rfl ?_|refine ZB rfl ?_|refine ZC ?_|(refine Zi rfl rfl (fun _=>?_) (fun _=>?_)<;>try (exfalso;omega))|refine ZH rfl ?_|refine ZP ?_|refine Zv ?_|refine ZJ ?_|refine Zf ?_|refine Zd rfl ?_|refine Zo ?_)
  all_goals try (exfalso;omega)
  exact ZCP hA (.inr rfl) rfl rfl (by simp) (fun v hv=>by obtain ⟨x,_,rfl⟩:=List.mem_map.1 hv;exact ZjX 2 x) rfl rfl
def ZEQ:Nat->List (List UInt8)->Nat
 | n,[]=>n
 | n,t::ts=>if n<=900 then ZEQ (n+min t.length 1000) ts else n
def ZRW (l:List (List UInt8)):Prop:=4<l.length\/900<ZEQ 0 l
instance (l:List (List UInt8)):Decidable (ZRW l):=by unfold ZRW;infer_instance
theorem ZN4:∀ (l:List (List UInt8)) (n:Nat),n<=ZEQ n l
 | [],n=>by simp [ZEQ]
 | t::ts,n=>by
  rw [ZEQ]
  by_cases h:n<=900
  ·rw [if_pos h];have:=ZN4 ts (n+min t.length 1000);omega
  ·rw [if_neg h];exact Nat.le_refl _
theorem ZdY:∀ (l:List (List UInt8)) (n:Nat),ZEQ n l<=900->n+(l.map List.length).sum<=900
 | [],n,h=>by simpa [ZEQ] using h
 | t::ts,n,h=>by
  rw [ZEQ] at h
  by_cases hn:n<=900
  ·rw [if_pos hn] at h
   have h1:=ZN4 ts (n+min t.length 1000);have h2:=ZdY ts _ h;rw [jC,List.sum_cons];omega
  ·rw [if_neg hn] at h;omega
theorem ZQt {α:Type} {l:List α} {i:Nat} {a:α} (h:l[i]?=some a):l.drop i=a::l.drop (i+1):=by
 obtain ⟨h1,h2⟩:=List.getElem?_eq_some_iff.1 h;subst h2;exact List.drop_eq_getElem_cons h1
theorem ZsF (l:List (List UInt8)) (hb:l.length<9223372036854775808) (hs:∀ s∈l,s.length<9223372036854775808) (st:St):S Tb Xb [.lit (l.map .str)] st=some (.bool (decide (ZRW l)),st):=by
 refine QI rfl (fun A hA=>?_)
 repeat' (first|refine ZE ?_|refine ZD ?_|refine ZG rfl ?_|refine ZB rfl ?_|refine ZC ?_|refine ZL ?_)
 refine Zx (α:=Nat × Nat) (fun p=>[(0,.lit (l.map .str)),(3,.int .i64 p.2),(4,.int .i64 p.1)]) (fun p=>⟨A,false,[]⟩) (fun p=>p.1<=l.length/\p.2<=1900/\ZEQ p.2 (l.drop p.1)=ZEQ 0 l) (fun p=>l.length-p.1) (0,0) rfl rfl ⟨Nat.zero_le _,Nat.zero_le _,rfl⟩ ?_
 rintro ⟨i,n⟩ ⟨h1,h2,h3⟩
 simp only at h1 h2 h3 ⊢
 repeat' (first|refine ZE ?_|refine ZD ?_|refine ZG rfl ?_|refine QM rfl ?_|refine J3 rfl rfl ?_|refine Zs rfl rfl rfl rfl ?_|refine ZB rfl ?_|refine ZC ?_|refine Jj rfl ?_|refine QH rfl ?_|refine QQ rfl rfl ?_|refine Jx rfl rfl (by omega) (fun _=>rfl) (fun _ _=>?_)|(refine Zi rfl rfl (fun _=>?_) (fun _=>?_)<;>try (exfalso;omega))|(refine ZCM rfl rfl (fun _=>?_) (fun _=>?_)<;>try (exfalso;omega))|(refine Qd rfl rfl (fun _=>?_) (fun _=>?_)<;>try (exfalso;omega))|refine ZU rfl ?_|refine ZH rfl ?_|refine ZVm rfl rfl ?_|refine ZI ?_|refine ZP ?_|refine Zv ?_|refine ZL ?_|refine ZJ ?_|refine Zf ?_|refine Zd rfl ?_|refine Zo ?_)
 ·rename_i hlt hn x hx
  have hx':l[i]?=some x:=by rw [show i=((i:Nat):Int).toNat by omega];exact hx
  have hxl:=hs x (jM hx')
  have e1:(if false=true then max (x.length:Int) 1000 else min (x.length:Int) 1000)=((min x.length 1000:Nat):Int):=by
   simp only [jB,if_false];omega
  rw [e1]
  refine Zl rfl rfl (by omega) ?_
  rw [show (n:Int)+((min x.length 1000:Nat):Int)=((n+min x.length 1000:Nat):Int) by omega]
  repeat' (first|refine ZD ?_|refine ZG rfl ?_|refine ZB rfl ?_|refine ZC ?_|refine Zl rfl rfl (by omega) ?_|refine Z1 ?_|refine QB ?_)
  refine ⟨(i+1,n+min x.length 1000),⟨rfl,rfl⟩,⟨by simp only;omega,by simp only;omega,?_⟩,by simp only;omega⟩
  rw [<- h3,ZQt hx',ZEQ,if_pos (by omega)]
 ·refine ZAk hA (by first|exact .inl rfl|exact .inr rfl) rfl rfl ?_
  exact (decide_eq_true (.inl (by omega))).symm
 ·refine ZAk hA (by first|exact .inl rfl|exact .inr rfl) rfl rfl ?_
  refine (decide_eq_true (.inr ?_)).symm
  have:=ZN4 (l.drop i) n
  omega
 ·refine ZAk hA (by first|exact .inl rfl|exact .inr rfl) rfl rfl ?_
  exact (decide_eq_true (.inl (by omega))).symm
 ·refine ZAk hA (by first|exact .inl rfl|exact .inr rfl) rfl rfl ?_
  refine (decide_eq_true (.inr ?_)).symm
  have:=ZN4 (l.drop i) n
  omega
 ·refine ZAk hA (by first|exact .inl rfl|exact .inr rfl) rfl rfl ?_
  refine (decide_eq_false ?_).symm
  have:l.drop i=[]:=List.drop_eq_nil_of_le (by omega)
  rw [this,ZEQ] at h3
  rintro (h|h)<;>omega
def ZZq (l:List Ed):Prop:=(∃ s∈l.take 100,200<s.text.length)\/60<l.length
open Classical in
noncomputable instance (l:List Ed):Decidable (ZZq l):=Classical.propDecidable _
theorem ZoK (l:List Ed) (hb:l.length<9223372036854775808) (hs:∀ s∈l,s.text.length<9223372036854775808) (st:St):S Tb Xc [.lit (l.map Ed.av)] st=some (.bool (decide (ZZq l)),st):=by
 refine QI rfl (fun A hA=>?_)
 repeat' (first|refine ZE ?_|refine ZD ?_|refine ZG rfl ?_|refine ZB rfl ?_|refine ZC ?_|refine ZL ?_)
 refine Zx (α:=Nat) (fun i=>[(0,.lit (l.map Ed.av)),(3,.int .i64 i)]) (fun p=>⟨A,false,[]⟩) (fun i=>i<=l.length/\i<=100/\∀ j s,j<i->l[j]?=some s->s.text.length<=200) (fun i=>l.length-i) 0 rfl rfl ⟨Nat.zero_le _,Nat.zero_le _,fun j s h=>by omega⟩ ?_
 rintro i ⟨h1,h2,h3⟩
 have key:∀ {j:Nat} {s:Ed},(l.length:Int)<=i\/100<=(i:Int)->s∈l.take 100->s.text.length<=200:=by
  intro j s hi hm;obtain ⟨j,hj⟩:=List.mem_iff_getElem?.1 hm;have hj1:=(List.getElem?_eq_some_iff.1 hj).1;rw [List.length_take] at hj1
  rw [List.getElem?_take,if_pos (by omega)] at hj
  exact h3 j s (by omega) hj
 repeat' (first|refine ZE ?_|refine ZD ?_|refine ZG rfl ?_|refine ZQ rfl rfl ?_|refine QM rfl ?_|refine J3 rfl rfl ?_|refine Zs rfl rfl rfl rfl ?_|refine ZB rfl ?_|refine ZC ?_|refine Jj rfl ?_|refine QH rfl ?_|refine QQ rfl rfl ?_|refine Jx rfl rfl (by omega) (fun _=>rfl) (fun _ _=>?_)|(refine Zi rfl rfl (fun _=>?_) (fun _=>?_)<;>try (exfalso;omega))|(refine Qd rfl rfl (fun _=>?_) (fun _=>?_)<;>try (exfalso;omega))|refine ZU rfl ?_|refine ZH rfl ?_|refine Zl rfl rfl (by omega) ?_|refine ZI ?_|refine ZP ?_|refine Zv ?_|refine ZL ?_|refine ZJ ?_|refine ZZ ?_|refine Zf ?_|refine Z1 ?_|refine QX ?_|refine Zd rfl ?_|refine QB ?_|refine ZAV ?_|refine Zo ?_)
 ·rename_i hlt hn s hs' hbig
  have hs1:l[i]?=some s:=by rw [show i=((i:Nat):Int).toNat by omega];exact hs'
  refine ZAk hA (by first|exact .inl rfl|exact .inr rfl) rfl rfl ?_
  refine (decide_eq_true (.inl ⟨s,?_,by omega⟩)).symm
  refine List.mem_iff_getElem?.2 ⟨i,?_⟩
  rw [List.getElem?_take,if_pos (by omega)];exact hs1
 ·rename_i hlt hn s hs' hbig
  have hs1:l[i]?=some s:=by rw [show i=((i:Nat):Int).toNat by omega];exact hs'
  refine ⟨i+1,⟨rfl,rfl⟩,⟨by omega,by omega,fun j s2 hj h=>?_⟩,by omega⟩
  rcases Nat.lt_or_ge j i with q|q
  ·exact h3 j s2 q h
  ·obtain rfl:j=i:=by omega
   rw [hs1] at h
   have:=Option.some.inj h
   subst this;omega
 ·refine ZAk hA (by first|exact .inl rfl|exact .inr rfl) rfl rfl ?_
  exact (decide_eq_true (.inr (by omega))).symm
 ·refine ZAk hA (by first|exact .inl rfl|exact .inr rfl) rfl rfl ?_
  exact (decide_eq_true (.inr (by omega))).symm
 ·refine ZAk hA (by first|exact .inl rfl|exact .inr rfl) rfl rfl ?_
  refine (decide_eq_false ?_).symm
  rintro (⟨s,h,hh⟩|h)
  ·have:=key (j:=0) (s:=s) (.inl (by omega)) h
   omega
  ·omega
theorem ZoL {l:List Ed} (h:¬ ZZq l):l.length<=60/\∀ s∈l,s.text.length<=200:=by
 have h1:l.length<=60:=by
  rcases Nat.lt_or_ge 60 l.length with q|q
  ·exact absurd (.inr q) h
  ·exact q
 refine ⟨h1,fun s hs=>?_⟩
 rcases Nat.lt_or_ge 200 s.text.length with q|q
 ·refine absurd (.inl ⟨s,?_,q⟩) h
  rw [List.take_of_length_le (by omega)];exact hs
 ·exact q
theorem ZoM {l:List (List UInt8)} (h:¬ ZRW l):l.length<=4/\(l.map List.length).sum<=900:=by
 have h1:¬ 4<l.length:=fun q=>h (.inl q)
 have h2:¬ 900<ZEQ 0 l:=fun q=>h (.inr q)
 have:=ZdY l 0 (by omega)
 exact ⟨by omega,by omega⟩
theorem Zjl (l:List (List UInt8)):ZDT (l.map .str)=some l:=by
 induction l with
 | nil=>rfl
 | cons a l ih=>simp [ZDT,ih]
theorem ZdZ:∀ l:List (List UInt8),([]:List UInt8).intercalate l=l.flatten
 | []=>rfl
 | [a]=>by simp [List.intercalate]
 | a::b::l=>by
  have:=ZdZ (b::l)
  simp only [List.intercalate] at this ⊢;rw [List.intersperse_cons_cons,List.flatten_cons,List.flatten_cons,lE,this];rfl
theorem ZsG (l:List (List UInt8)) (hl:l.length<=100000000) (hf:l.flatten.length<=65536) (st:St):S Tb ZCR [.lit (l.map .str),.str []] st=some (.str l.flatten,st):=by
 refine ZVG (o:=Zc8) rfl ?_;unfold Zc8
 show ((some (l.map AV.str)).bind fun es=>(ZDT es).bind fun ss=>if ss.length<=140737488355328/\(([]:List UInt8).intercalate ss).length<=140737488355328 then some (AV.str (([]:List UInt8).intercalate ss),st) else none)=_
 rw [oS,Zjl,oS,ZdZ,if_pos (by omega)]
structure Comp (p:Mea->Int):Prop where
 zero:p .zero=0
 add:∀ x y:Mea,p (x.add y)=p x+p y
 fit:∀ (x:Mea) n,x.Fit n->0<=p x/\p x<=n
theorem ZQu:Comp Mea.b:=⟨rfl,fun _ _=>rfl,fun _ _ h=>⟨h.1,h.2⟩⟩
def QR (p:Mea->Int):List Kid->Int->Nat × Int
 | [],a=>(0,a)
 | k::l,a=>if a<p k.m then (0,a) else ((QR p l (a-p k.m)).1+1,(QR p l (a-p k.m)).2)
def ZAh (p:Mea->Int) (ks:List Kid) (i:Nat):Int:=p (QJ ((ks.take i).map Kid.m))
theorem Zl2 {p:Mea->Int} (hp:Comp p) {ks:List Kid} {i:Nat} {k:Kid} (h:ks[i]?=some k):ZAh p ks (i+1)=ZAh p ks i+p k.m:=by
 unfold ZAh;rw [Zc h,List.map_append,ZIP,hp.add]
 simp [QJ,hp.add,hp.zero]
theorem ZN5 {p:Mea->Int} (hp:Comp p):∀ (ks:List Kid) (a:Int),(∀ k∈ks,k.m.Fit 65536)->0<=a->a<p (QJ (ks.map Kid.m)) ->
 (QR p ks a).1<ks.length/\(QR p ks a).2=a-ZAh p ks (QR p ks a).1/\0<=(QR p ks a).2/\∀ k,ks[(QR p ks a).1]?=some k->(QR p ks a).2<p k.m:=by
 intro ks
 induction ks with
 | nil=>intro a _ h0 h1;simp only [List.map_nil,QJ,hp.zero] at h1;omega
 | cons k l ih =>
  intro a hf h0 h1;simp only [jC,QJ,hp.add] at h1;rw [QR]
  by_cases q:a<p k.m
  ·rw [if_pos q]
   refine ⟨by simp,by simp [ZAh,QJ,hp.zero],h0,fun z hz=>?_⟩
   simp at hz;subst hz;exact q
  ·rw [if_neg q]
   obtain ⟨i1,i2,i3,i4⟩:=ih (a-p k.m) (fun z hz=>hf z (List.mem_cons_of_mem _ hz)) (by omega) (by omega)
   refine ⟨by simp;omega,?_,i3,fun z hz=>i4 z (by simpa using hz)⟩
   simp only
   rw [i2]
   show _=a-p (QJ (((k::l).take (_+1)).map Kid.m))
   rw [List.take_succ_cons,jC,QJ,hp.add];unfold ZAh;omega
theorem Zjm {p:Mea->Int} {ks:List Kid} {i:Nat} {k:Kid} (h:ks[i]?=some k) (a:Int):QR p (ks.drop i) a=if a<p k.m then (0,a) else ((QR p (ks.drop (i+1)) (a-p k.m)).1+1,(QR p (ks.drop (i+1)) (a-p k.m)).2):=by
 rw [ZQt h,QR]
def ZoN (g:FuncId) (p:Mea->Int):Prop:=∀ m st,S Tb g [Mea.av m] st=some (.int .i64 (p m),st)
theorem ZoO {g:FuncId} {p:Mea->Int} (hg:ZoN g p) (hp:Comp p) (n:Nat) (ks:List Kid) (hx:NdOk ⟨n+1,[],some ks⟩) (a:Int) (h0:0<=a) (h1:a<p (QJ (ks.map Kid.m))) (hb:a<=1000000) (st:St) :
 S Tb ZDW [Nd.av ⟨n+1,[],some ks⟩,.int .i64 a,.func (.func g) [] []] st=some (.tup [.int .i64 (QR p ks a).1,.int .i64 (QR p ks a).2,.int .i64 0],st):=by
 refine QI rfl (fun A hA=>?_)
 have hCk:=fun st=>ZNi ⟨n+1,[],some ks⟩ hx st
 have hin:(∀ k∈ks,k.m.Fit 65536)/\ks.length<=4/\n<=15:=by
  rcases hx with q|⟨m,l,q⟩
  ·have:=q.h;simp at this
  ·have e:=q.eq
   simp only [Nd.mk.injEq,true_and,oJ] at e;obtain ⟨e1,e2⟩:=e;subst e2
   have:=q.n15
   exact ⟨fun k hk=>(q.kid k hk).fit,q.hi,by omega⟩
 obtain ⟨hf,hl4,hn15⟩:=hin;obtain ⟨s1,s2,s3,s4⟩:=ZN5 hp ks a hf h0 h1;simp only [Nd.av,slV] at hCk ⊢
 repeat' (first|refine ZE ?_|refine ZD ?_|refine ZG rfl ?_|refine ZQ rfl rfl ?_|refine ZS rfl rfl rfl rfl ?_|refine ZB rfl ?_|refine ZC ?_|refine QH rfl ?_|(refine Zi rfl rfl (fun _=>?_) (fun _=>?_)<;>try (exfalso;omega))|(refine Zn rfl rfl (fun _=>?_) (fun _=>?_)<;>try (exfalso;omega))|(refine Zj rfl rfl (fun _=>?_) (fun _=>?_)<;>try (exfalso;omega))|refine ZH rfl ?_|refine Zh rfl rfl rfl ?_|refine ZA rfl rfl rfl (hCk _) ?_|refine ZI ?_|refine ZL ?_)
 all_goals try contradiction
 all_goals try (exfalso;omega)
 refine Zx (α:=Nat × Int × List Blk) (fun q=>[(1,.int .i64 q.2.1),(2,.func (.func g) [] []),(23,.lit (ks.map Kid.av)),(24,.int .i64 ks.length),(25,.int .i64 q.1)])
  (fun q=>⟨A,false,.arr 3 0 [.agg [.int .i64 ((n+1:Nat):Int),.str [],.lit (ks.map Kid.av)]]::q.2.2⟩) (fun q=>q.1<=ks.length/\0<=q.2.1/\q.2.1<=a/\q.1<=(QR p ks a).1/\QR p ks a=((QR p (ks.drop q.1) q.2.1).1+q.1,(QR p (ks.drop q.1) q.2.1).2)) (fun q=>ks.length-q.1) (0,a,[]) rfl rfl ⟨Nat.zero_le _,h0,Int.le_refl _,Nat.zero_le _,rfl⟩ ?_
 rintro ⟨i,b,G⟩ ⟨hi,hb0,hba,hle,he⟩
 simp only at hi hb0 hba hle he ⊢
 rcases Nat.lt_or_ge i ks.length with hlt|hge
 ·obtain ⟨k,hk⟩:∃ k,ks[i]?=some k:=⟨ks[i]'hlt,jE _⟩
  have q:0<=((i:Nat):Int)/\ks[((i:Nat):Int).toNat]?=some k:=⟨by omega,by rw [show ((i:Nat):Int).toNat=i by omega];exact hk⟩
  have hgm:=fun st=>hg k.m st
  obtain ⟨f1,f2⟩:=hp.fit k.m _ (hf k (jM hk));have hd:=Zjm (p:=p) hk b;obtain ⟨ka,km⟩:=k
  simp only at hgm f1 f2 hd
  unfold Mea.av at hgm
  generalize hpm:p km=z at *
  simp only [Kid.av] at *
  rcases Int.lt_or_le b z with hz|hz
  ·rw [if_pos hz] at hd
   rw [hd] at he;rw [he]
   have e1:(((0+i:Nat)):Int)=i:=by omega
   simp only [e1]
   repeat' (first|refine Jl (f:=Kid.av) rfl rfl q (fun _=>rfl) ?_|refine ZE ?_|refine ZD ?_|refine ZG rfl ?_|refine ZQ rfl rfl ?_|refine ZB rfl ?_|refine ZC ?_|refine Qe rfl rfl rfl ?_|refine QQ rfl rfl ?_|(refine Zi rfl rfl (fun _=>?_) (fun _=>?_)<;>try (exfalso;omega))|refine ZU rfl ?_|refine Zt rfl rfl rfl ?_|refine JV rfl rfl rfl rfl rfl rfl ?_|refine ZA rfl rfl rfl (hgm _) ?_|refine ZI ?_|refine ZP ?_|refine ZL ?_|refine ZJ ?_|refine ZZ ?_|refine QX ?_|refine ZAV ?_)
   all_goals try contradiction
   all_goals try (exfalso;omega)
   refine Ze hA (by first|exact .inl rfl|exact .inr rfl) rfl rfl rfl rfl ?_
   rfl
  ·rw [if_neg (by omega)] at hd
   repeat' (first|refine Jl (f:=Kid.av) rfl rfl q (fun _=>rfl) ?_|refine ZE ?_|refine ZD ?_|refine ZG rfl ?_|refine ZQ rfl rfl ?_|refine ZB rfl ?_|refine ZC ?_|refine Qe rfl rfl rfl ?_|refine QQ rfl rfl ?_|(refine Zi rfl rfl (fun _=>?_) (fun _=>?_)<;>try (exfalso;omega))|refine ZU rfl ?_|refine ZH rfl ?_|refine Zl rfl rfl (by omega) ?_|refine Ja rfl rfl (by omega) ?_|refine Zt rfl rfl rfl ?_|refine JV rfl rfl rfl rfl rfl rfl ?_|refine ZA rfl rfl rfl (hgm _) ?_|refine ZI ?_|refine ZL ?_|refine Z1 ?_|refine QB ?_)
   all_goals try contradiction
   all_goals try (exfalso;omega)
   refine ⟨(i+1,b-z,G++[.arr 4 0 [Kid.av ⟨ka,km⟩]]),⟨rfl,rfl⟩,⟨by simp only;omega,by simp only;omega,by simp only;omega,?_,?_⟩,by simp only;omega⟩
   ·simp only;rw [he,hd];simp only;omega
   ·simp only;rw [he,hd];simp only;congr 1;omega
 ·exfalso
  omega
noncomputable def exR:AR:=(wrV (Qy exS) (JD 8 4)).1
def exRo:Ro:=⟨65538,1,⟨17,17,0⟩⟩
theorem ZrW:(wrV (Qy exS) (JD 8 4)).2.1=exRo:=by
 rw [Zhy];rfl
theorem ZrX:nw (Qy exS)=3:=by rw [Zhy];rfl
theorem Zsr:AROk exR/\GoodN exR.nodes/\Rt exR.nodes exRo exS:=by
 obtain ⟨b1,b2,b3⟩:=Xp ZNt (s:=exS) (by decide)
 have ho:=ZZn 8 4 (by omega) (by omega)
 obtain ⟨w1,w2⟩:=ZZl (r:=JD 8 4) (XV [] [] [] _) ho ZNt b1 (by rw [b3];decide) (by rw [ZrX];decide)
 rw [show (JD 8 4).nodes=[] from rfl,b2,ZrW] at w2
 exact ⟨w1.ok,w1.good,w2⟩
theorem Zss (a b c d f x y z u v:Int):eqV [(0,0),(1,0),(2,0),(3,0),(4,0)] 0 (.agg [.int .u64 a,.int .i64 b,.int .i64 c,.int .i64 d,.int .i64 f]) (.agg [.int .u64 x,.int .i64 y,.int .i64 z,.int .i64 u,.int .i64 v])=some (decide (a=x/\b=y/\c=z/\d=u/\f=v)):=by
 show (if decide (a=x)=true then (if decide (b=y)=true then (if decide (c=z)=true then (if decide (d=u)=true then (if decide (f=v)=true then some true else some false) else some false) else some false) else some false) else some false)=_
 by_cases h1:a=x<;>by_cases h2:b=y<;>by_cases h3:c=z<;>by_cases h4:d=u<;>by_cases h5:f=v<;>simp [h1,h2,h3,h4,h5]
theorem ZoP {st:St} {la b:Nat} {N:ZO} (hR:Rd st la (b+5) N) {r:Ro} (hr:RtOk N r):S Tb ZEk [.ptr la (b+5) 0 0 0,r.av] st=some (.int .i64 0,st):=by
 refine QI rfl (fun A hA=>?_)
 rcases hr with rfl|⟨h0,x,h1,h2,h3,h4⟩
 ·repeat' (first|refine ZE ?_|refine ZD ?_|refine ZG rfl ?_|refine ZS rfl rfl rfl rfl ?_|refine ZB rfl ?_|refine ZC ?_|refine ZU rfl ?_|refine ZH rfl ?_|refine Zq rfl rfl rfl ?_|refine JN rfl rfl rfl rfl ?_|refine Zh rfl rfl rfl ?_|refine ZI ?_|refine ZP ?_|refine ZJ ?_|refine ZZ ?_)
  all_goals try contradiction
  all_goals refine Ze hA (by first|exact .inl rfl|exact .inr rfl) rfl rfl rfl rfl ?_
  all_goals rfl
 ·have hG:=fun L=>ZZT (hR.push hA (ro:=false) (L:=L)) h1 h2.len
  have hok:NdOk x.copy:=by
   rcases h2 with q|⟨n,ks,q⟩
   ·left;exact ⟨q.h,q.lo,q.hi,q.ks⟩
   ·right;have e:=q.eq;subst e;exact ⟨n,ks,q⟩
  have hMe:=fun st=>ZFU x.copy hok st
  have hm:x.copy.mea=x.mea:=rfl;have hh:x.copy.h=x.h:=rfl;rw [hm,h4] at hMe
  have h0i:((r.at_:Nat):Int)≠0:=by omega
  have hne:¬ ((r.at_:Int)=0/\(r.h:Int)=0/\r.m.b=0/\r.m.r=0/\r.m.l=0):=fun q=>h0i q.1
  obtain ⟨ra,rh,rm⟩:=r
  simp only at h0 h1 h3 h4 hMe h0i hne
  have hcp:x.copy.av=.agg [.int .i64 x.h,.str x.text,.lit (x.ks.map Kid.av)]:=rfl;rw [hcp] at hG hMe
  generalize x.ks=yk at *
  obtain rfl:x.h=rh:=h3
  unfold Ro.av Mea.av at *
  simp only at *
  repeat' (first|refine ZE ?_|refine ZD ?_|refine ZG rfl ?_|refine ZQ rfl rfl ?_|refine ZS rfl rfl rfl rfl ?_|refine QM rfl ?_|refine Zs rfl rfl rfl rfl ?_|refine Zy rfl rfl ?_|refine ZB rfl ?_|refine ZC ?_|(refine Zn rfl rfl (fun _=>?_) (fun _=>?_)<;>try (exfalso;omega))|(refine Zj rfl rfl (fun _=>?_) (fun _=>?_)<;>try (exfalso;omega))|refine ZU rfl ?_|refine ZH rfl ?_|refine Zq rfl rfl rfl ?_|refine JN rfl rfl rfl rfl ?_|refine Zh rfl rfl rfl ?_|refine Zw rfl rfl rfl rfl rfl rfl ?_|refine ZA rfl rfl rfl (hG _) ?_|refine ZA rfl rfl rfl (hMe _) ?_|(refine ZC8 rfl rfl (Znl _ _ _ _ _ _) (fun _=>?_) (fun _=>?_))|(refine ZC8 rfl rfl (Zss _ _ _ _ _ _ _ _ _ _) (fun _=>?_) (fun _=>?_))|refine ZI ?_|refine ZP ?_|refine ZJ ?_|refine ZZ ?_)
  all_goals try contradiction
  all_goals try (exfalso;omega)
  all_goals first|exact absurd ‹_› hne|(refine Ze hA (by first|exact .inl rfl|exact .inr rfl) rfl rfl rfl rfl ?_;rfl)|exact absurd (And.intro rfl (And.intro rfl rfl)) ‹_›
theorem Zl3:ZoN ZCX Mea.b:=fun m st=>by
 refine QI rfl (fun A hA=>?_)
 unfold Mea.av
 repeat' (first|refine ZE ?_|refine ZD ?_|refine ZG rfl ?_|refine ZQ rfl rfl ?_|refine ZS rfl rfl rfl rfl ?_|refine ZB rfl ?_|refine ZC ?_|refine Zh rfl rfl rfl ?_|refine ZP ?_|refine ZJ ?_)
 refine Ze hA (by first|exact .inl rfl|exact .inr rfl) rfl rfl rfl rfl ?_
 rfl
theorem Zq7 (n:Nat) (ks:List Kid) (hx:NdOk ⟨n+1,[],some ks⟩) (a:Int) (h0:0<=a) (h1:a<(QJ (ks.map Kid.m)).b) (hb:a<=1000000) (st:St) :
 S Tb ZBo [Nd.av ⟨n+1,[],some ks⟩,.int .i64 a] st=some (.tup [.int .i64 (QR Mea.b ks a).1,.int .i64 (QR Mea.b ks a).2,.int .i64 0],st):=by
 refine QI rfl (fun A hA=>?_)
 have hC:=fun st=>ZoO Zl3 ZQu n ks hx a h0 h1 hb st
 unfold Nd.av at *
 simp only [slV] at *
 repeat' (first|refine ZE ?_|refine ZD ?_|refine ZG rfl ?_|refine ZS rfl rfl rfl rfl ?_|refine Zy rfl rfl ?_|refine ZB rfl ?_|refine ZC ?_|refine Zh rfl rfl rfl ?_|refine ZA rfl rfl rfl (hC _) ?_|refine ZP ?_|refine ZJ ?_)
 refine Ze hA (by first|exact .inl rfl|exact .inr rfl) rfl rfl rfl rfl ?_
 rfl
structure Pass (σ:Int->St) (q:Mea->Int) (g:FuncId) (caps:List AV) (N:Nat):Prop where
 comp:Comp q
 len:∀ s,(σ s).ps.length=N
 call:∀ s m L,0<=s->s<=1000000000->m.Fit 65536->∃ v,S Tb g ([Mea.av m]++caps) ⟨(σ s).ps,false,L⟩=some (v,⟨(σ (s+q m)).ps,false,L⟩)
 wk:∀ m,ZW (Za ([]++[Mea.av m]++caps))=some ([Mea.av m]++caps)
theorem Zq8 {O:Orc} {k:List Fr} {Q:Jw} {e:Env} {st:St} {keep:List Nat} {is:List QAbs.PI} {d:Nat} {x b:Opd} {ks:List Kid} {i:Nat} (hx:Zb e x=some (.lit (ks.map Kid.av))) (hb:Zb e b=some (.int .i64 i)) (hi:i<=ks.length)
 (h:Is O is keep k Q ((d,.lit ((ks.take i).map Kid.av))::e) st):Is O (⟨some d,none,false,.slc 4 x none (some b)⟩::is) keep k Q e st:=by
 refine ZCN hx hb ⟨by omega,by simp;omega⟩ (ZdK _) ?_
 rw [show ((i:Nat):Int).toNat=i by omega,<- List.map_take]
 exact h
theorem Zl4 {σ:Int->St} {q:Mea->Int} {g:FuncId} {caps:List AV} {N:Nat} (hp:Pass σ q g caps N) {ks:List Kid} {L:List Blk} {v0 v3 v10 v12 v14 v16 v17:AV} (s0:Int) {A0:List (Bool × List Blk)} (hA0:A0=(σ s0).ps) {k:List Fr} {Q:Jw}
 (hQ:∀ G,Rk (S Tb) k Q .norm [(0,v0),(3,v3),(4,.func (.func g) [] caps),(10,v10),(12,v12),(14,v14),(16,v16),(17,v17),(63,.lit (ks.map Kid.av)),(64,.int .i64 ks.length),(65,.int .i64 ks.length),(66,.bool false)] ⟨(σ (s0+q (QJ (ks.map Kid.m)))).ps,false,L++G⟩) (hl:ks.length<100) (hs0:0<=s0/\s0<=900000000) (hfit:∀ k∈ks,k.m.Fit 65536) :
 Ru (S Tb) p_seek_walk_18.loop (.blk 2::k) Q [(0,v0),(3,v3),(4,.func (.func g) [] caps),(10,v10),(12,v12),(14,v14),(16,v16),(17,v17),(63,.lit (ks.map Kid.av)),(64,.int .i64 ks.length),(65,.int .i64 0)] ⟨A0,false,L⟩:=by
 subst hA0
 refine Zx (α:=Nat × List Blk) (fun p=>[(0,v0),(3,v3),(4,.func (.func g) [] caps),(10,v10),(12,v12),(14,v14),(16,v16),(17,v17),(63,.lit (ks.map Kid.av)),(64,.int .i64 ks.length),(65,.int .i64 p.1)])
  (fun p=>⟨(σ (s0+ZAh q ks p.1)).ps,false,L++p.2⟩) (fun p=>p.1<=ks.length) (fun p=>ks.length-p.1) (0,[]) rfl (by simp [ZAh,QJ,hp.comp.zero]) (Nat.zero_le _) ?_
 rintro ⟨i,G⟩ hi
 simp only at hi ⊢
 rcases Nat.lt_or_ge i ks.length with hlt|hge
 ·obtain ⟨kd,hk⟩:∃ k,ks[i]?=some k:=⟨ks[i]'hlt,jE _⟩
  have qk:0<=((i:Nat):Int)/\ks[((i:Nat):Int).toNat]?=some kd:=⟨by omega,by rw [show ((i:Nat):Int).toNat=i by omega];exact hk⟩
  have hsu:=Zl2 hp.comp hk
  have hsf:=hp.comp.fit _ _ (ZCt (l:=(ks.take i).map Kid.m) (fun m hm=>by obtain ⟨z,hz,rfl⟩:=List.mem_map.1 hm;exact hfit z (List.mem_of_mem_take hz)))
  rw [List.length_map,List.length_take,Nat.min_eq_left hi] at hsf
  change 0<=ZAh q ks i/\ZAh q ks i<=_ at hsf
  obtain ⟨v,hc⟩:=hp.call (s0+ZAh q ks i) kd.m (L++G++[.arr 4 0 [kd.av]]) (by omega) (by omega) (hfit kd (jM hk))
  have hwk:=hp.wk kd.m
  have hG:L++G++[.arr 4 0 [kd.av]]=L++(G++[.arr 4 0 [kd.av]]):=List.append_assoc ..
  rw [show s0+ZAh q ks i+q kd.m=s0+ZAh q ks (i+1) by omega] at hc
  generalize hG3:L++(G++[.arr 4 0 [kd.av]])=L3 at *
  generalize hA1:(σ (s0+ZAh q ks i)).ps=A1 at *
  obtain ⟨ka,km⟩:=kd
  unfold Kid.av Mea.av at *
  simp only at *
  repeat' (first|refine Jl (f:=Kid.av) rfl rfl qk (fun _=>rfl) ?_|refine ZA rfl rfl hwk hc ?_|refine ZE ?_|refine ZD ?_|refine ZG rfl ?_|refine ZQ rfl rfl ?_|refine ZB rfl ?_|refine ZC ?_|refine Qe rfl rfl rfl ?_|refine QQ rfl rfl ?_|(refine Zi rfl rfl (fun _=>?_) (fun _=>?_)<;>try (exfalso;omega))|refine ZU rfl ?_|refine Zl rfl rfl (by omega) ?_|refine Zt rfl rfl rfl ?_|refine JV rfl rfl rfl rfl rfl rfl ?_|refine ZI ?_|refine ZL ?_|refine Z1 ?_|refine QB ?_)
  all_goals try contradiction
  all_goals try (exfalso;omega)
  refine ⟨(i+1,G++[.arr 4 0 [Kid.av ⟨ka,km⟩]]),⟨rfl,?_⟩,by simp only;omega,by simp only;omega⟩
  simp only
  rw [<- hG3] at hG;exact congrArg (St.mk _ false) hG
 ·obtain rfl:i=ks.length:=by omega
  repeat' (first|refine ZE ?_|refine ZD ?_|refine ZB rfl ?_|refine ZC ?_|(refine Zi rfl rfl (fun _=>?_) (fun _=>?_)<;>try (exfalso;omega))|refine ZH rfl ?_|refine Zv ?_|refine Zf ?_|refine Zd rfl ?_|refine Zo ?_)
  all_goals try (exfalso;omega)
  unfold ZAh;rw [List.take_length];exact hQ G
theorem Zl5 {O:Orc} {k:List Fr} {Q:Jw} {e:Env} {st:St} {keep:List Nat} {is:List QAbs.PI} {d:Nat} {α:Type} {f:α->AV} {l:List α} {w:Nat} {x i:Opd} {bs:List Opd} {n:Int} {a:α} (hx:Zb e x=some (.lit (l.map f))) (hi:Zb e i=some (.int .i64 n)) (ha:0<=n/\l[n.toNat]?=some a) (hw:(f a).wide=some w)
 (h:Is O is keep k Q ((d,.lptr (f a) 0)::e) st):Is O (⟨some d,none,false,.w (.hide bs) (.ixS w x i)⟩::is) keep k Q e st:=by
 have hlt:=(List.getElem?_eq_some_iff.1 ha.2).1
 have hn:0<=n/\n<((l.map f).length:Nat):=by rw [List.length_map];omega
 have hv:(l.map f)[n.toNat]?=some (f a):=by rw [jG,ha.2];rfl
 exact Zfu (st':=st) (by simp only [Z7,PO.reads,if_true,evalPO,ZF hx,ZF hi,ixSV,Yi,if_pos hn,hv,if_pos hw,oS,QW,QL]) h
theorem Zjn {O:Orc} {k:List Fr} {Q:Jw} {e:Env} {st:St} {keep:List Nat} {is:List QAbs.PI} {d:Nat} {n:Nat} {a:Opd} {bs:List Opd} {x:AV} {o:Nat} {v:AV} {agg:Bool} (ha:Zb e a=some (.lptr x o)) (hv:JG x agg o n=some v) (h:Is O is keep k Q ((d,v)::e) st):Is O (⟨some d,none,false,.w (.hide bs) (.ld agg n a)⟩::is) keep k Q e st :=
 Zfu (st':=st) (by simp only [Z7,PO.reads,if_true,evalPO,ZF ha,loadP,hv,oS,QW,QL]) h
def Zjo (M:Nat) (G:List Blk) (pv:AV) (path:List Nat):Prop:=(path=[]/\pv=.nils)\/∃ j ver,pv=.ref M (j+3) ver 0 path.length/\G[j]?=some (.arr 1 ver (path.map Z9))
theorem Zl6 {A:List (Bool × List Blk)} {b0 b1 box:Blk} {s:List UInt8} {z:Int} {pv v0 v3 v4 v10 v14 v15 v31:AV} {path:List Nat} {o:Nat} {G:List Blk} {k:List Fr} {Q:Jw} (hP:Zjo A.length G pv path) (hl:path.length<100)
 (h:∀ G' pv',Zjo A.length G' pv' (path++[o])->G'[G.length]?=some box->Rk (S Tb) k Q .norm [(0,v0),(3,v3),(4,v4),(10,v10),(12,.ptr A.length 2 0 0 0),(14,v14)] ⟨A,false,b0::b1::.arr 3 0 [.agg [.str s,.int .i64 z,pv']]::G'⟩) :
 Ru (S Tb) ZJh k Q [(0,v0),(3,v3),(4,v4),(10,v10),(12,.ptr A.length 2 0 0 0),(13,.int .u64 o),(14,v14),(15,v15),(31,v31)] ⟨A,false,b0::b1::.arr 3 0 [.agg [.str s,.int .i64 z,pv]]::(G++[box])⟩:=by
 rcases hP with ⟨rfl,rfl⟩|⟨j,ver,rfl,hg⟩
 ·repeat' (first|refine ZD ?_|refine ZG rfl ?_|refine ZQ rfl rfl ?_|refine ZS rfl rfl rfl rfl ?_|refine QZ rfl rfl rfl rfl ?_)
  refine ZFb (vx:=.lit [.int .u64 o]) (ys:=[.int .u64 o]) (bytes:=8) rfl rfl rfl (by simp) (by decide) rfl ?_
  repeat' (first|refine ZQ rfl rfl ?_|refine ZB rfl ?_|refine JH rfl rfl rfl rfl (Q8 _ (Nat.lt_succ_self _)) rfl ?_)
  refine h (G++[box]++[.arr 1 0 [.int .u64 o]]) _ (.inr ⟨(G++[box]).length,0,?_,List.getElem?_concat_length ..⟩) ?_
  ·rfl
  ·rw [jL (by simp)];exact List.getElem?_concat_length ..
 ·have hj:=(List.getElem?_eq_some_iff.1 hg).1
  have hg2:(b0::b1::Blk.arr 3 0 [.agg [.str s,.int .i64 z,.ref A.length (j+3) ver 0 path.length]]::(G++[box]))[j+3]?=some (.arr 1 ver (path.map Z9)):=by
   show (G++[box])[j]?=_
   rw [jL hj];exact hg
  repeat' (first|refine ZD ?_|refine ZG rfl ?_|refine ZQ rfl rfl ?_|refine ZS rfl rfl rfl rfl ?_|refine QZ rfl rfl rfl rfl ?_)
  refine ZAH (es:=path.map Z9) (ys:=[.int .u64 o]) rfl rfl hg2 (by rw [List.length_map]) rfl rfl (by simp;omega) (by decide) ?_
  repeat' (first|refine ZQ rfl rfl ?_|refine ZB rfl ?_|refine JH rfl rfl rfl rfl (Q8 _ (Nat.lt_succ_self _)) rfl ?_)
  refine h ((G++[box]).set j (.arr 1 (ver+1) (path.map Z9++[.int .u64 o]))) (.ref A.length (j+3) (ver+1) 0 (path.length+1)) (.inr ⟨j,ver+1,by simp,?_⟩) ?_
  ·rw [List.getElem?_set_self (by simp;omega),List.map_append];rfl
  ·rw [jS (by omega)];exact List.getElem?_concat_length ..
theorem ZoQ {b lv ix ver q n:Nat} {z:Int} {s:List UInt8} (st:St) (hl:lv<b):ZY QG b st (.agg [.str s,.int .i64 z,.ref lv ix ver q n])=some (.agg [.str s,.int .i64 z,.ref lv ix ver q n],st):=by
 show (mapSt (keepN (ZY 5 b)) _ _).bind ZIz=_
 simp only [mapSt,keepN,XW,jB,if_false,ZY,oS,if_pos hl,Yg,ZIz]
theorem Zq9 {A:List (Bool × List Blk)} {L:List Blk} {ix ver n:Nat} {s:List UInt8} {z z2:Int} {l:List Nat} (hg:L[ix]?=some (.arr 1 ver (l.map Z9))) (hn:n=l.length) :
 ZY QG A.length ⟨A,false,L⟩ (.tup [.agg [.str s,.int .i64 z,.ref A.length ix ver 0 n],.int .i64 z2])=some (.tup [.agg [.str s,.int .i64 z,.lit (l.map Z9)],.int .i64 z2],⟨A,false,L.set ix .dead⟩):=by
 subst hn
 have h1:=ZIj (n:=3) (A:=A) (s:=0) (m:=l.length) hg (by simp) (es':=l.map Z9) (by
  rw [List.drop_zero,List.take_of_length_le (by simp)]
  exact ZQp (k:=.u64) (fun n:Nat=>(n:Int)) 2 0 _ l)
 show (mapSt (ZY 5 A.length) _ _).bind Zde=_
 have h2:ZY 5 A.length ⟨A,false,L⟩ (.agg [.str s,.int .i64 z,.ref A.length ix ver 0 l.length])=some (.agg [.str s,.int .i64 z,.lit (l.map Z9)],⟨A,false,L.set ix .dead⟩):=by
  show (mapSt (keepN (ZY 4 A.length)) _ _).bind ZIz=_
  simp only [mapSt,keepN,XW,jB,if_false,oS];simp only [ZY,oS] at h1 ⊢;simp only [h1,oS,Yg,ZIz]
 simp only [mapSt,h2,oS];rfl
theorem ZsH {e:Env} {A:List (Bool × List Blk)} {st:St} {L:List Blk} {x:Ex} {c4 c5 j4 w4 v4 ix ver n:Nat} {s:List UInt8} {z z2:Int} {l:List Nat} (hA:A=st.A++[(st.ro,st.L)]) (hx:x=.norm\/x=.ret) (h4:Jm e c4=some (.ptr A.length j4 v4 0 0)) (hg4:L[j4]?=some (.arr w4 v4 [.agg [.str s,.int .i64 z,.ref A.length ix ver 0 n]]))
 (hg:L[ix]?=some (.arr 1 ver (l.map Z9))) (hn:n=l.length) (h5:Jm e c5=some (.int .i64 z2)):Jd false [.c c4 true 3,.s c5] (x,e,⟨A,false,L⟩)=some (.tup [.agg [.str s,.int .i64 z,.lit (l.map Z9)],.int .i64 z2],st):=by
 refine ZCO (v:=.tup [.agg [.str s,.int .i64 z,.ref A.length ix ver 0 n],.int .i64 z2]) hA hx ?_ (Zq9 hg hn) rfl
 have h1:ZAK ⟨A,false,L⟩ e (.c c4 true 3)=some (.agg [.str s,.int .i64 z,.ref A.length ix ver 0 n]):=by
  simp only [ZAK,QF h4,loadP,St.get_cur,hg4,vis,ZCC,if_true,List.getElem?_cons_zero,oS];rfl
 simp only [QU,ZCz,h1,oS];simp only [ZAK,QF h5,oS,Option.map_some,ZDg]
end Go.Q15
namespace Go.QAbs
section
variable {O:Orc} {k:List Fr} {Q:Jw} {e:Env} {A:List (Bool × List Blk)} {L:List Blk} {keep:List Nat} {is:List PI} {d:Nat} {st:St}
theorem ZiI {a x b:Opd} {n lv ix v1 i1 o1 v2 i2 o2:Nat} {vx:AV} (ha:Zb e a=some (.ptr lv ix v1 i1 o1)) (hb:Zb e b=some (.ptr lv ix v2 i2 o2)) (hx:Zb e x=some vx) (hi:imm 6 vx=true)
 (h:Is O (⟨none,none,false,.st n a x⟩::is) keep k Q e st):Is O (⟨none,none,false,.w (.plain b) (.st n a x)⟩::is) keep k Q e st:=by
 refine Zf0 ?_ h
 have hs:ZEX (.ptr lv ix v1 i1 o1) (.ptr lv ix v2 i2 o2)=true:=by simp [ZEX]
 simp only [Zg,Z7,ZJw,ZF ha,ZF hb,ZF hx,hs,hi,and_self,if_true]
end
end Go.QAbs
namespace Go.Q15
open Go Go.QAbs
set_option maxRecDepth 100000
set_option maxHeartbeats 8000000
structure NextOk (f:FuncId) (ch:List Kid->Int->Nat × Int) (D:Mea->Int->Prop):Prop where
 call:∀ n ks,NdOk ⟨n+1,[],some ks⟩->∀ a,D (QJ (ks.map Kid.m)) a->∀ st,S Tb f [Nd.av ⟨n+1,[],some ks⟩,.int .i64 a] st=some (.tup [.int .i64 (ch ks a).1,.int .i64 (ch ks a).2,.int .i64 0],st)
 ok:∀ ks a,(∀ k∈ks,k.m.Fit 65536)->D (QJ (ks.map Kid.m)) a->(ch ks a).1<ks.length/\∀ k,ks[(ch ks a).1]?=some k->D k.m (ch ks a).2
theorem ZoR:NextOk ZBo (QR Mea.b) (fun m a=>0<=a/\a<m.b/\m.b<=1000000) where
 call n ks hx a ha st:=Zq7 n ks hx a ha.1 ha.2.1 (by omega) st
 ok ks a hf ha:=by
  obtain ⟨h1,h2,h3,h4⟩:=ZN5 ZQu ks a hf ha.1 ha.2.1
  exact ⟨h1,fun k hk=>⟨h3,h4 k hk,by have:=(hf k (jM hk)).2;omega⟩⟩
def JF (ch:List Kid->Int->Nat × Int) (q:Mea->Int) (N:ZO):Nat->Nat->Int->(List UInt8 × Int) × List Nat × Int
 | 0,o,a=>(((ZAe N o).text,a),[o],0)
 | n+1,o,a =>
  let c:=ch (ZAe N o).ks a
  let r:=JF ch q N n (((ZAe N o).ks[c.1]?.map Kid.at_).getD 0) c.2
  (r.1,o::r.2.1,ZAh q (ZAe N o).ks c.1+r.2.2)
structure WkS where
 n:Nat
 o:Nat
 a:Int
 s:Int
 path:List Nat
 pv:AV
 G:List Blk
structure WkInv (N:ZO) (D:Mea->Int->Prop) (M:Nat) (p:WkS) (ch:List Kid->Int->Nat × Int) (q:Mea->Int) (s0:Int) (R:(List UInt8 × Int) × List Nat × Int):Prop where
 nd:∃ x,lk N p.o=some x/\NdOk x/\x.h=p.n/\D x.mea p.a
 path:Zjo M p.G p.pv p.path
 len:p.path.length+p.n<100
 sb:0<=p.s/\p.s<=1000+300000*p.path.length
 res:R=((JF ch q N p.n p.o p.a).1,p.path++(JF ch q N p.n p.o p.a).2.1,p.s-s0+(JF ch q N p.n p.o p.a).2.2)
theorem ZoS {σ:Int->St} {q:Mea->Int} {g f:FuncId} {caps:List AV} {M:Nat} (hp:Pass σ q g caps M) {ch:List Kid->Int->Nat × Int} {D:Mea->Int->Prop} (hf:NextOk f ch D) {N:ZO} (hN:GoodN N) {la b:Nat} (hR:∀ s,Rd (σ s) la (b+5) N) {r:Ro} (hr:RtOk N r) (h0:r.at_≠0) (a:Int) (ha:D r.m a) (s0:Int) (hs0:0<=s0/\s0<=1000) :
 S Tb ZHC [.ptr la (b+5) 0 0 0,r.av,.int .i64 a,.func (.func f) [] [],.func (.func g) [] caps] (σ s0)=some (.tup [.agg [.str (JF ch q N r.h r.at_ a).1.1,.int .i64 (JF ch q N r.h r.at_ a).1.2,.lit ((JF ch q N r.h r.at_ a).2.1.map Z9)],.int .i64 0],σ (s0+(JF ch q N r.h r.at_ a).2.2)):=by
 refine ZBg rfl (fun A hA=>?_)
 obtain ⟨x0,x1,x2,x3,x4⟩:∃ x,lk N r.at_=some x/\NdOk x/\x.h=r.h/\x.mea=r.m:=by
  rcases hr with rfl|w
  ·exact absurd rfl h0
  ·exact w.2
 have h13:=hr.h13 hN;have hM:=hp.len s0;obtain ⟨R,hRes⟩:∃ R,R=JF ch q N r.h r.at_ a:=⟨_,rfl⟩;rw [<- hRes];have hA':A=(σ s0).ps:=hA
 have hAM:A.length=M:=by rw [hA'];exact hM
 unfold Ro.av
 repeat' (first|refine Zt rfl rfl rfl ?_|refine ZE ?_|refine ZD ?_|refine ZG rfl ?_|refine ZQ rfl rfl ?_|refine ZS rfl rfl rfl rfl ?_|refine ZB rfl ?_|refine ZC ?_|refine Zq rfl rfl rfl ?_|refine JV rfl rfl rfl rfl rfl rfl ?_|refine ZL ?_)
 rw [hAM,hA']
 refine Zx (α:=WkS) (fun p=>[(0,.ptr la (b+5) 0 0 0),(3,.func (.func f) [] []),(4,.func (.func g) [] caps),(10,.ptr M 1 0 0 0),(12,.ptr M 2 0 0 0),(13,.int .u64 p.o)])
  (fun p=>⟨(σ p.s).ps,false,.arr 5 0 [r.av]::.arr 3 0 [.agg [.str [],.int .i64 0,.nils]]::.arr 3 0 [.agg [.str [],.int .i64 p.a,p.pv]]::p.G⟩)
  (fun p=>WkInv N D M p ch q s0 R) (fun p=>p.n) ⟨r.h,r.at_,a,s0,[],.nils,[]⟩ rfl rfl ⟨⟨x0,x1,x2,x3,by rw [x4];exact ha⟩,.inl ⟨rfl,rfl⟩,by simp only [List.length_nil];omega,by simp only [List.length_nil];omega,by rw [hRes];simp⟩ ?_
 rintro ⟨n,o,a,s,path,pv,G⟩ hI
 obtain ⟨⟨x,y1,y2,y3,y4⟩,hPa,hln,hsb,hres⟩:=hI
 simp only at y1 y3 y4 hPa hln hsb hres ⊢
 have hG:=fun L=>ZZT ((hR s).push rfl (ro:=false) (L:=L)) y1 y2.len
 have hcp:x.copy.av=.agg [.int .i64 x.h,.str x.text,.lit (x.ks.map Kid.av)]:=rfl;rw [hcp,y3] at hG;have hlA:=hp.len s;obtain ⟨A1,hA1⟩:∃ A1,A1=(σ s).ps:=⟨_,rfl⟩
 have e1:M=A1.length:=by rw [hA1];exact hlA.symm
 have hpl:=fun s'=>hp.len s'
 simp only [show (σ s).A++[((σ s).ro,(σ s).L)]=(σ s).ps from rfl,<- hA1] at hG
 rw [<- hA1];clear hlA;subst e1
 have hpath:=fun (v0 v3 v4 v10 v14 v15 v31:AV) (box b0 b1:Blk) (k:List Fr) (Q:Jw)=>Zl6 (A:=A1) (b0:=b0) (b1:=b1) (box:=box) (s:=[]) (z:=a) (v0:=v0) (v3:=v3) (v4:=v4) (v10:=v10) (v14:=v14) (v15:=v15) (v31:=v31) (o:=o) (k:=k) (Q:=Q) hPa (by omega)
 have hnd:=QY y1
 cases n with
 | zero =>
  repeat' (first|refine hpath _ _ _ _ _ _ _ _ _ _ _ _ (fun G' pv' hP' hb=>?_)|refine ZE ?_|refine ZD ?_|refine ZG rfl ?_|refine ZQ rfl rfl ?_|refine Zy rfl rfl ?_|refine ZB rfl ?_|refine ZC ?_|(refine Zj rfl rfl (fun _=>?_) (fun _=>?_)<;>try (exfalso;omega))|refine ZH rfl ?_|refine Zt rfl rfl rfl ?_|refine JV rfl rfl rfl rfl rfl rfl ?_|refine ZA rfl rfl rfl (hG _) ?_|refine ZI ?_|refine ZL ?_)
  all_goals try contradiction
  rcases hP' with ⟨w,_⟩|⟨j,ver,rfl,hg⟩
  ·exact absurd w (by simp)
  have hg3:∀ b0 b1 b2:Blk,(b0::b1::b2::G')[j+3]?=some (.arr 1 ver ((path++[o]).map Z9)):=fun _ _ _=>hg
  repeat' (first|refine ZS rfl hb rfl rfl ?_|refine JH rfl rfl rfl rfl (ZoQ _ (Nat.lt_succ_self _)) rfl ?_|refine ZE ?_|refine ZD ?_|refine ZG rfl ?_|refine ZQ rfl rfl ?_|refine ZS rfl rfl rfl rfl ?_|refine ZB rfl ?_|refine ZC ?_|(refine Zn rfl rfl (fun _=>?_) (fun _=>?_)<;>try (exfalso;omega))|refine ZU rfl ?_|refine JH rfl rfl rfl rfl rfl rfl ?_|refine ZP ?_|refine ZJ ?_|refine ZZ ?_|refine QX ?_|refine ZAV ?_)
  all_goals try contradiction
  refine (ZsH (st:=σ s) hA1 (.inr rfl) rfl rfl (hg3 _ _ _) rfl rfl).trans ?_;rw [hres];simp only [JF,hnd,Int.add_zero]
  rw [show s0+(s-s0)=s by omega]
 | succ n =>
  obtain ⟨ks,hi⟩:∃ ks,InnerOk x n ks:=by
   rcases y2 with w|⟨m,ks,w⟩
   ·have:=w.h;omega
   ·have e:=w.eq
    have:m=n:=by rw [e] at y3;simpa using y3
    exact ⟨ks,this▸w⟩
  have e:=hi.eq;have hkids:=(hN o x y1).2
  have hfit:∀ k∈ks,k.m.Fit 65536:=fun k hk=>(hi.kid k hk).fit
  subst e;have hks:Nd.ks ⟨n+1,[],some ks⟩=ks:=rfl;rw [hks] at hG;have hD:D (QJ (ks.map Kid.m)) a:=y4
  have hCl:=fun st=>hf.call n ks y2 a hD st
  obtain ⟨c1,c2⟩:=hf.ok ks a hfit hD;obtain ⟨k,hk⟩:∃ k,ks[(ch ks a).1]?=some k:=⟨_,jE c1⟩;have c3:=c2 k hk
  have hseek:JF ch q N (n+1) o a=((JF ch q N n k.at_ (ch ks a).2).1,o::(JF ch q N n k.at_ (ch ks a).2).2.1,ZAh q ks (ch ks a).1+(JF ch q N n k.at_ (ch ks a).2).2.2):=by
   rw [JF,hnd];simp only [hks,hk,Option.map_some,Option.getD_some]
  have hi2:=hi.hi
  have qk:0<=(((ch ks a).1:Nat):Int)/\ks[(((ch ks a).1:Nat):Int).toNat]?=some k:=⟨by omega,by rw [show (((ch ks a).1:Nat):Int).toNat=(ch ks a).1 by omega];exact hk⟩
  have hsf:=hp.comp.fit _ _ (ZCt (l:=(ks.take (ch ks a).1).map Kid.m) (fun m hm=>by obtain ⟨z,hz,rfl⟩:=List.mem_map.1 hm;exact hfit z (List.mem_of_mem_take hz)))
  rw [List.length_map,List.length_take,Nat.min_eq_left (Nat.le_of_lt c1)] at hsf
  change 0<=ZAh q ks (ch ks a).1/\ZAh q ks (ch ks a).1<=_ at hsf
  have hsumK:q (QJ ((ks.take (ch ks a).1).map Kid.m))=ZAh q ks (ch ks a).1:=rfl
  generalize (ch ks a).1=ci at *
  generalize (ch ks a).2=cr at *
  unfold Nd.av at hCl;simp only [slV] at hCl
  have hlt:(ks.take ci).length=ci:=by simp;omega
  repeat' (first|refine hpath _ _ _ _ _ _ _ _ _ _ _ _ (fun G' pv' hP' hb=>?_)|refine ZE ?_|refine ZD ?_|refine ZG rfl ?_|refine ZQ rfl rfl ?_|refine Zy rfl rfl ?_|refine ZB rfl ?_|refine ZC ?_|(refine Zj rfl rfl (fun _=>?_) (fun _=>?_)<;>try (exfalso;omega))|refine ZH rfl ?_|refine Zt rfl rfl rfl ?_|refine JV rfl rfl rfl rfl rfl rfl ?_|refine ZA rfl rfl rfl (hG _) ?_|refine ZI ?_|refine ZL ?_)
  all_goals try contradiction
  repeat' (first|refine ZS rfl hb rfl rfl ?_|refine Zq8 rfl rfl (Nat.le_of_lt c1) ?_|refine XL rfl ?_|refine ZE ?_|refine ZD ?_|refine ZG rfl ?_|refine ZQ rfl rfl ?_|refine ZS rfl rfl rfl rfl ?_|refine Zy rfl rfl ?_|refine ZB rfl ?_|refine ZC ?_|(refine Zn rfl rfl (fun _=>?_) (fun _=>?_)<;>try (exfalso;omega))|(refine Zj rfl rfl (fun _=>?_) (fun _=>?_)<;>try (exfalso;omega))|refine ZH rfl ?_|refine ZA rfl rfl rfl (hCl _) ?_|refine ZI ?_|refine ZL ?_)
  all_goals try contradiction
  all_goals try (exfalso;omega)
  refine Zl4 hp s hA1 (fun G2=>?_) (by omega) (by omega) (fun z hz=>hfit z (List.mem_of_mem_take hz))
  rw [hsumK];obtain ⟨A2,hA2⟩:∃ A2,A2=(σ (s+ZAh q ks ci)).ps:=⟨_,rfl⟩
  have e2:A1.length=A2.length:=by rw [hA2];exact (hpl _).symm
  rw [<- hA2,e2];rw [e2] at hP';have hb2:=hb.symm▸jL (m:=G2) (List.getElem?_eq_some_iff.1 hb).1
  have hb3:∀ b0 b1 b2:Blk,(b0::b1::b2::G'++G2)[G.length+1+1+1]?=_:=fun _ _ _=>hb2
  rcases hP' with ⟨w,_⟩|⟨j,ver,rfl,hg⟩
  ·exact absurd w (by simp)
  repeat' (first|refine ZEL rfl rfl rfl (hb3 _ _ _) rfl rfl ?_|refine Zl5 (f:=Kid.av) rfl rfl qk rfl ?_|refine Zjn rfl rfl ?_|refine ZiI rfl rfl rfl rfl ?_|refine JH rfl rfl rfl rfl rfl rfl ?_|refine ZD ?_|refine ZG rfl ?_|refine ZQ rfl rfl ?_|refine ZB rfl ?_|refine ZC ?_|refine Z1 ?_|refine QB ?_)
  all_goals try contradiction
  obtain ⟨_,y,z1,z2,z3⟩:=hkids k (jM hk);rw [hA2]
  refine ⟨⟨n,k.at_,cr,s+ZAh q ks ci,path++[o],.ref (σ (s+ZAh q ks ci)).ps.length (j+3) ver 0 (path++[o]).length,G'++G2⟩,⟨rfl,rfl⟩,⟨⟨y,z1,(hN _ y z1).1,by simp only at z2 ⊢;omega,by rw [z3];exact c3⟩,.inr ⟨j,ver,rfl,?_⟩,by simp only [lL,List.length_singleton];omega,by simp only [lL,List.length_singleton];omega,?_⟩,Nat.lt_succ_self _⟩
  ·show (G'++G2)[j]?=_
   rw [jL (List.getElem?_eq_some_iff.1 hg).1];exact hg
  ·rw [hres,hseek]
   simp only [List.append_assoc,List.singleton_append]
   congr 2
   omega
end Go.Q15
