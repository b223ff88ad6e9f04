/- A part of the proof: RH, RI, RJ, RK, M52, RL, S4, S5, S6, YX, W7, RN, RO, W8, RP, SA, SC, RS, RQ, RT, RU, RV, M18, PO, RW, RX, SO, RY, SPa, SPb, SPc, W9, SPd, SQa, SQb, W10, SLa, S8, SB, RZ, SD, SE, SF, SG, SI, SJ, SK, SL, SN, SSa, SSb, SSc. No condition. -/
import Derived.Lib.Index
import Derived.Lib.Bytealg
import Derived.Test.YtleajkoecgbnlaaGreatSpT7
set_option linter.unusedVariables false
set_option linter.unusedSimpArgs false
namespace Go.Q15
open Go Go.QAbs
set_option maxRecDepth 100000
def Ext (N M:ZL):Prop:=∀ o x,lk N o=some x->lk M o=some x
theorem Ext.refl (N:ZL):Ext N N:=fun _ _ h=>h
theorem Ext.trans {N M K:ZL} (h:Ext N M) (g:Ext M K):Ext N K:=fun o x q=>g o x (h o x q)
theorem ZIc {N M:ZL} (hN:GoodN N) (hs:Ext N M):∀ n o x,lk N o=some x->x.h=n->QI M n o=QI N n o:=by
 intro n
 induction n with
 | zero=>intro o x hx hh;rw [QI,QI,hx,hs _ _ hx]
 | succ n ih =>
  intro o x hx hh;rw [QI,QI,hx,hs _ _ hx];simp only [Option.map_some,Option.getD_some];have hk:=(hN o x hx).2
  have key:∀ l:List Kid,(∀ k∈l,k∈x.ks)->(l.flatMap fun k=>QI M n k.at_)=l.flatMap fun k=>QI N n k.at_:=by
   intro l
   induction l with
   | nil=>intro _;rfl
   | cons k l ih2 =>
    intro h
    obtain ⟨_,y,y1,y2,_⟩:=hk k (h k (by simp))
    rw [List.flatMap_cons,List.flatMap_cons,ih k.at_ y y1 (by omega),ih2 (fun q hq=>h q (by simp [hq]))]
  exact key _ fun _ h=>h
theorem Zea {r:AR} (ho:AROk r) (hn:0<r.n) (x:Nd):Ext r.nodes (r.add x).nodes:=fun o y h=>by
 rw [ZIB ho hn,if_neg]
 ·exact h
 ·intro q;rw [q,ho.new hn] at h;simp at h
def ZQS (N:ZL) (x:Nd):Prop:=∀ k∈x.ks,∃ y,lk N k.at_=some y/\NdOk y/\y.h+1=x.h/\y.mea=k.m
theorem ZmU {r:AR} (ho:AROk r) (hn:0<r.n) (hg:GoodN r.nodes) {x:Nd} (hx:NdOk x) (hk:ZQS r.nodes x) (h0:∀ k∈x.ks,k.at_≠0):GoodN (r.add x).nodes:=by
 intro o y h;have hE:=Zea ho hn x;rw [ZIB ho hn] at h
 split at h
 ·simp only [oJ] at h
  subst h
  refine ⟨hx.copy,fun k hkk=>?_⟩
  have hkk':k∈x.ks:=hkk;obtain ⟨z,z1,z2,z3,z4⟩:=hk k hkk';exact ⟨h0 k hkk',z,hE _ _ z1,z3,z4⟩
 ·obtain ⟨h1,h2⟩:=hg o y h
  refine ⟨h1,fun k hkk=>?_⟩
  obtain ⟨g0,z,z1,z2,z3⟩:=h2 k hkk;exact ⟨g0,z,hE _ _ z1,z2,z3⟩
theorem AROk.hnd {r:AR} (h:AROk r) {o:Nat} {x:Nd} (hx:lk r.nodes o=some x):ZBf o/\o≠0:=by
 obtain ⟨s,g,h1,h2,h3,h4⟩:=h.key o x hx;obtain ⟨g',g1,g2,g3⟩:=h.gen s h2;rw [h4] at g1;simp only [oJ] at g1
 have:=h.n16
 have:=h.most
 unfold ZBf;omega
def ZNl (ρ:Nat->Ro) (k h:Nat):Nat->Ro:=fun i=>if i=k then (ρ i).wr h else ρ i
inductive RunOk:List It->AR->(Nat->Ro)->AR->(Nat->Ro)->List Nat->Prop
 | nil {r ρ}:RunOk [] r ρ r ρ []
 | cons {it its r ρ r' ρ' hs} (hn:0<r.n) (hx:NdOk (Q4 ρ it.c)) (hk:ZQS r.nodes (Q4 ρ it.c)) (h:RunOk its (r.add (Q4 ρ it.c)) (ZNl ρ it.rx r.next) r' ρ' hs):RunOk (it::its) r ρ r' ρ' (r.next::hs)
theorem RunOk.append {i1 i2:List It} {r r1 r2:AR} {ρ ρ1 ρ2:Nat->Ro} {h1 h2:List Nat} (h:RunOk i1 r ρ r1 ρ1 h1) (g:RunOk i2 r1 ρ1 r2 ρ2 h2):RunOk (i1++i2) r ρ r2 ρ2 (h1++h2):=by
 induction h with
 | nil=>exact g
 | cons hn hx hk h ih=>exact .cons hn hx hk (ih g)
namespace Tr
mutual
def wr:Tr->AR->AR × Ro × List Nat
 | .mk o h m s k,r =>
  if o≠0 then (r,⟨o,h,m⟩,[])
  else if h=0 then (r.add ⟨0,s,none⟩,⟨r.next,0,Qk s⟩,[r.next])
  else ((wrO k r).1.add ⟨h,[],some (wrO k r).2.1⟩,⟨(wrO k r).1.next,h,Z7 ((wrO k r).2.1.map Kid.m)⟩,(wrO k r).2.2++[(wrO k r).1.next])
def wrO:Option (List Tr)->AR->AR × List Kid × List Nat
 | none,r=>(r,[],[])
 | some l,r=>wrL l r
def wrL:List Tr->AR->AR × List Kid × List Nat
 | [],r=>(r,[],[])
 | t::l,r=>((wrL l (t.wr r).1).1,(t.wr r).2.1.kid::(wrL l (t.wr r).1).2.1,(t.wr r).2.2++(wrL l (t.wr r).1).2.2)
end
end Tr
structure WrB (r:AR) (c:Nat) (r':AR) (hs:List Nat):Prop where
 ok:AROk r'
 good:GoodN r'.nodes
 ext:Ext r.nodes r'.nodes
 n:r'.n+c=r.n
 len:hs.length=c
 new:∀ h∈hs,lk r.nodes h=none
 all:∀ h x,lk r'.nodes h=some x->lk r.nodes h=some x\/h∈hs
 has:∀ h∈hs,∃ x,lk r'.nodes h=some x
 nodup:hs.Nodup
 frees:r'.frees=r.frees
 stale:r'.stale=r.stale
 slots:r'.slots=r.slots
 allocs:r'.allocs=r.allocs+c
 nl:r'.nodes.length=r.nodes.length+c
theorem WrB.refl {r:AR} (ho:AROk r) (hg:GoodN r.nodes):WrB r 0 r [] :=
 ⟨ho,hg,.refl _,by simp,rfl,fun h q=>by simp at q,fun h x q=>.inl q,fun h q=>by simp at q,by simp,rfl,rfl,rfl,by simp,by simp⟩
theorem WrB.trans {r r1 r2:AR} {c d:Nat} {h1 h2:List Nat} (h:WrB r c r1 h1) (g:WrB r1 d r2 h2):WrB r (c+d) r2 (h1++h2):=by
 refine ⟨g.ok,g.good,h.ext.trans g.ext,by have:=h.n;have:=g.n;omega,by rw [lL,h.len,g.len],fun o ho=>?_,fun o x ho=>?_,fun o ho=>?_,?_,g.frees.trans h.frees,g.stale.trans h.stale,g.slots.trans h.slots,by rw [g.allocs,h.allocs];omega,by rw [g.nl,h.nl];omega⟩
 ·rcases List.mem_append.1 ho with q|q
  ·exact h.new o q
  ·cases hk:lk r.nodes o with
   | none=>rfl
   | some x=>have:=g.new o q;rw [h.ext _ _ hk] at this;simp at this
 ·rcases g.all o x ho with q|q
  ·rcases h.all o x q with w|w
   ·exact .inl w
   ·exact .inr (by simp [w])
  ·exact .inr (by simp [q])
 ·rcases List.mem_append.1 ho with q|q
  ·obtain ⟨x,hx⟩:=h.has o q
   exact ⟨x,g.ext _ _ hx⟩
  ·exact g.has o q
 ·rw [List.nodup_append]
  refine ⟨h.nodup,g.nodup,fun x hx y hy e=>?_⟩
  subst e;obtain ⟨z,hz⟩:=h.has x hx;rw [g.new x hy] at hz
  simp at hz
theorem WrB.one {r:AR} (ho:AROk r) (hn:0<r.n) (hg:GoodN r.nodes) {x:Nd} (hx:NdOk x) (hk:ZQS r.nodes x) (h0:∀ k∈x.ks,k.at_≠0):WrB r 1 (r.add x) [r.next]:=by
 refine ⟨ho.add hn x,ZmU ho hn hg hx hk h0,Zea ho hn x,?_,rfl,fun o q=>?_,fun o y q=>?_,fun o q=>?_,by simp,rfl,rfl,rfl,rfl,by simp [AR.add,AR.alloc]⟩
 ·show r.n-1+1=r.n;omega
 ·simp only [List.mem_singleton] at q;subst q;exact ho.new hn
 ·rw [ZIB ho hn] at q
  split at q
  ·rename_i e;exact .inr (by simp [e])
  ·exact .inl q
 ·simp only [List.mem_singleton] at q
  exact ⟨x.copy,by rw [ZIB ho hn,if_pos q]⟩
end Go.Q15
namespace Go.Q15
open Go Go.QAbs
set_option maxRecDepth 100000
structure WrOk (N:ZL) (t:Tr) (r':AR) (ro:Ro):Prop where
 rm:ro.m=t.mea
 rh:ro.h=t.h
 live:∃ y,lk r'.nodes ro.at_=some y/\NdOk y/\y.h=t.h/\y.mea=t.mea
 txt:QI r'.nodes t.h ro.at_=t.txt N
def Exec (N:ZL) (t:Tr):Prop:=∀ (r:AR),AROk r->GoodN r.nodes->Ext N r.nodes->t.cnt<=r.n->∀ (rx:Nat) (its:List It) (R:List (Nat × Ro)) (ρ:Nat->Ro),AddT t rx its R->(∀ p∈R,ρ p.1=p.2)->(R.map Prod.fst).Nodup ->
 ∃ ρ',RunOk its r ρ (t.wr r).1 ρ' (t.wr r).2.2/\ρ' rx=(t.wr r).2.1/\(∀ k,k∉R.map Prod.fst->ρ' k=ρ k)/\WrB r t.cnt (t.wr r).1 (t.wr r).2.2/\WrOk N t (t.wr r).1 (t.wr r).2.1
structure WrLs (N:ZL) (l:List Tr) (h:Nat) (r':AR) (ks:List Kid):Prop where
 len:ks.length=l.length
 m:ks.map Kid.m=l.map Tr.mea
 ok:∀ k∈ks,KidOk h k/\k.at_≠0/\∃ y,lk r'.nodes k.at_=some y/\NdOk y/\y.h=h/\y.mea=k.m
 txt:(ks.flatMap fun k=>QI r'.nodes h k.at_)=Tr.txtL N l
theorem Zqt {N:ZL} (hN:GoodN N) {h:Nat}:∀ (l:List Tr),(∀ u∈l,Val N u/\u.h=h/\Big u)->(∀ u∈l,Exec N u)->∀ (r:AR),AROk r->GoodN r.nodes->Ext N r.nodes->Tr.cntL l<=r.n->∀ (rs:List Nat) (its:List It) (R:List (Nat × Ro)) (ρ:Nat->Ro),AddL l rs its R->(∀ p∈R,ρ p.1=p.2)->(R.map Prod.fst).Nodup ->
 ∃ ρ',RunOk its r ρ (Tr.wrL l r).1 ρ' (Tr.wrL l r).2.2/\(rs.map fun k=>(ρ' k).kid)=(Tr.wrL l r).2.1/\(∀ k,k∉R.map Prod.fst->ρ' k=ρ k)/\WrB r (Tr.cntL l) (Tr.wrL l r).1 (Tr.wrL l r).2.2/\WrLs N l h (Tr.wrL l r).1 (Tr.wrL l r).2.1:=by
 intro l
 induction l with
 | nil =>
  intro _ _ r ho hg hE hc rs its R ρ ha hR hnd
  cases ha
  exact ⟨ρ,.nil,rfl,fun _ _=>rfl,.refl ho hg,⟨rfl,rfl,fun k hk=>by simp [Tr.wrL] at hk,rfl⟩⟩
 | cons t l ih =>
  intro hv hx r ho hg hE hc rs its R ρ ha hR hnd
  cases ha with
  | @cons _ _ rx rs i1 i2 R1 R2 ht hl =>
   rw [Tr.cntL] at hc;rw [List.map_append,List.nodup_append] at hnd;obtain ⟨nd1,nd2,nd3⟩:=hnd
   obtain ⟨ρ1,a1,a2,a3,a4,a5⟩:=hx t (by simp) r ho hg hE (by omega) rx i1 R1 ρ ht (fun p hp=>hR p (by simp [hp])) nd1
   have hn1:=a4.n
   have hd:∀ p∈R2,p.1∉R1.map Prod.fst:=fun p hp q=>nd3 _ q _ (List.mem_map.2 ⟨p,hp,rfl⟩) rfl
   obtain ⟨ρ2,b1,b2,b3,b4,b5⟩:=ih (fun u hu=>hv u (by simp [hu])) (fun u hu=>hx u (by simp [hu])) _ a4.ok a4.good (hE.trans a4.ext) (by omega) rs i2 R2 ρ1 hl (fun p hp=>by rw [a3 _ (hd p hp)];exact hR p (by simp [hp])) nd2
   obtain ⟨rr,hrr,_,_⟩:=ht.root
   have hrx:rx∉R2.map Prod.fst:=fun q=>nd3 rx (List.mem_map.2 ⟨_,hrr,rfl⟩) rx q rfl
   obtain ⟨v1,v2,v3⟩:=hv t (by simp)
   refine ⟨ρ2,a1.append b1,?_,?_,?_,?_⟩
   ·rw [jC,b3 rx hrx,a2,b2];rfl
   ·intro k hk
    rw [List.map_append,List.mem_append,not_or] at hk;rw [b3 k hk.2,a3 k hk.1]
   ·rw [Tr.cntL];exact a4.trans b4
   ·obtain ⟨y,y1,y2,y3,y4⟩:=a5.live
    have hh:=a4.ok.hnd y1;have hkm:((t.wr r).2.1.kid).m=t.mea:=a5.rm;have hka:((t.wr r).2.1.kid).at_=(t.wr r).2.1.at_:=rfl
    refine ⟨by show _+1=_;rw [b5.len];rfl,?_,?_,?_⟩
    ·show ((t.wr r).2.1.kid).m::_=_
     rw [hkm,b5.m];rfl
    ·intro k hk
     rcases List.mem_cons.1 hk with rfl|q
     ·refine ⟨?_,hh.2,y,b4.ext _ _ y1,y2,by rw [y3,v2],by rw [y4];exact hkm.symm⟩
      have hs:=v1.size hN v3;have hb:=v1.mea_ok.1
      have:=y2.kid (a:=(t.wr r).2.1.at_) (by rw [y3,y4,hb];exact hs) hh.1
      rw [y3,v2,y4,<- a5.rm] at this;exact this
     ·exact b5.ok k q
    ·show QI (Tr.wrL l (t.wr r).1).1.nodes h (t.wr r).2.1.at_++((Tr.wrL l (t.wr r).1).2.1.flatMap fun k=>QI (Tr.wrL l (t.wr r).1).1.nodes h k.at_)=_
     rw [b5.txt,Tr.txtL,<- a5.txt,v2]
     congr 1
     exact ZIc a4.good b4.ext h _ y y1 (by rw [y3,v2])
theorem exec_ok {N:ZL} (hN:GoodN N) {t:Tr} (hv:Val N t):t.bytes<=65536->Exec N t:=by
 induction hv with
 | @kept o h m k x h0 hx hok hh hm hk =>
  intro _ r ho hg hE hc rx its R ρ ha hR hnd
  have e:(Tr.mk o h m [] k).wr r=(r,⟨o,h,m⟩,[]):=by rw [Tr.wr,if_pos h0]
  have ec:(Tr.mk o h m [] k).cnt=0:=by rw [Tr.cnt,Tr.cntO_getD,hk,if_neg h0];rfl
  rw [e,ec]
  cases ha with
  | kept _ =>
   refine ⟨ρ,.nil,hR (rx,⟨o,h,m⟩) (by simp),fun _ _=>rfl,.refl ho hg,⟨(ZNk h0).symm,rfl,⟨x,hE _ _ hx,hok,hh,by rw [ZNk h0];exact hm⟩,?_⟩⟩
   show QI r.nodes h o=_
   rw [ZIc hN hE h o x hx hh,Tr.txt,if_neg h0,Tr.txtO_getD,hk]
   simp [Tr.txtL]
  | leaf=>exact absurd rfl h0
  | inner=>exact absurd rfl h0
 | @leaf s k h1 h2 hk =>
  intro _ r ho hg hE hc rx its R ρ ha hR hnd
  have e:(Tr.mk 0 0 .zero s k).wr r=(r.add ⟨0,s,none⟩,⟨r.next,0,Qk s⟩,[r.next]):=by rw [Tr.wr];simp
  have ec:(Tr.mk 0 0 .zero s k).cnt=1:=by rw [Tr.cnt,Tr.cntO_getD,hk];rfl
  rw [ec] at hc;rw [e,ec];have hx:NdOk ⟨0,s,none⟩:=.inl ⟨rfl,h1,h2,rfl⟩
  cases ha with
  | kept h0=>exact absurd rfl h0
  | leaf =>
   have hρ:ρ rx=⟨0,0,Qk s⟩:=hR (rx,⟨0,0,Qk s⟩) (by simp)
   refine ⟨ZNl ρ rx r.next,.cons (by omega) hx (fun k hk=>by simp [Q4,Nd.ks] at hk) .nil,?_,fun k hk=>?_,.one ho (by omega) hg hx (fun k hk=>by simp [Nd.ks] at hk) (fun k hk=>by simp [Nd.ks] at hk),⟨(ZNj s k).symm,rfl,⟨(⟨0,s,none⟩:Nd).copy,?_,hx.copy,rfl,?_⟩,?_⟩⟩
   ·simp only [ZNl,if_true,hρ];rfl
   ·simp only [jC,List.map_nil,List.mem_singleton] at hk
    simp only [ZNl,if_neg hk]
   ·rw [ZIB ho (by omega),if_pos rfl]
   ·rw [ZNj];rfl
   ·show QI _ 0 r.next=_
    rw [QI,ZIB ho (by omega),if_pos rfl,Tr.txt,if_pos rfl,Tr.txtO_getD,hk]
    simp [Tr.txtL,Nd.copy]
 | @inner h l hh h2 h4 hl hb hv ih =>
  intro hb2 r ho hg hE hc rx its R ρ ha hR hnd
  have eb:(Tr.mk 0 (h+1) .zero [] (some l)).bytes=Tr.bytesL l:=by rw [Tr.bytes,Tr.bytesO];simp [Mea.zero]
  have hbs:∀ u∈l,u.bytes<=65536:=fun u hu=>by
   obtain ⟨i,hi,rfl⟩:=List.getElem_of_mem hu
   have h3:Tr.bytesL l=Tr.bytesL (l.take i)+(l[i].bytes+Tr.bytesL (l.drop (i+1))):=by
    conv=>lhs;rw [<- List.take_append_drop (i+1) l,Zi (jE hi),Tr.bytesL_append,Tr.bytesL_append]
    simp [Tr.bytesL];omega
   have n1:=Tr.bytesL_nonneg (l:=l.take i) (fun t ht=>by have:=(hv t (List.mem_of_mem_take ht)).pos.2;omega)
   have n2:=Tr.bytesL_nonneg (l:=l.drop (i+1)) (fun t ht=>by have:=(hv t (List.mem_of_mem_drop ht)).pos.2;omega)
   omega
  have ec:(Tr.mk 0 (h+1) .zero [] (some l)).cnt=Tr.cntL l+1:=by rw [Tr.cnt,Tr.cntO];simp;omega
  rw [ec] at hc
  have hbl:(Z7 (l.map Tr.mea)).b=Tr.bytesL l:=Zh2 l fun u hu=>(hv u hu).mea_ok.1
  have e:(Tr.mk 0 (h+1) .zero [] (some l)).wr r=((Tr.wrL l r).1.add ⟨h+1,[],some (Tr.wrL l r).2.1⟩,⟨(Tr.wrL l r).1.next,h+1,Z7 ((Tr.wrL l r).2.1.map Kid.m)⟩,(Tr.wrL l r).2.2++[(Tr.wrL l r).1.next]):=by
   rw [Tr.wr];simp [Tr.wrO]
  rw [e,ec]
  cases ha with
  | kept h0=>exact absurd rfl h0
  | @inner _ _ _ rs i1 R1 hal hn1 hx1 =>
   obtain ⟨ρ1,a1,a2,a3,a4,a5⟩:=Zqt hN l (fun u hu=>⟨hv u hu,hl u hu,fun q=>hb u hu (by rw [<- hl u hu];exact q)⟩) (fun u hu=>ih u hu (hbs u hu)) r ho hg hE (by omega) rs i1 R1 ρ hal (fun p hp=>hR p (by simp [hp])) hn1
   have hρ:ρ1 rx=⟨0,h+1,Z7 (l.map Tr.mea)⟩:=by rw [a3 rx hx1];exact hR (rx,⟨0,h+1,Z7 (l.map Tr.mea)⟩) (by simp)
   have hn:0<(Tr.wrL l r).1.n:=by have:=a4.n;omega
   generalize hks:(Tr.wrL l r).2.1=ks at *
   generalize (Tr.wrL l r).1=r1 at *
   have hx:NdOk ⟨h+1,[],some ks⟩:=.inr ⟨h,ks,rfl,by omega,by have:=a5.len;omega,by have:=a5.len;omega,fun k hk=>(a5.ok k hk).1,by rw [a5.m,hbl];omega⟩
   have hki:ZQS r1.nodes ⟨h+1,[],some ks⟩:=fun k hk=>by
    obtain ⟨_,_,y,y1,y2,y3,y4⟩:=a5.ok k hk
    exact ⟨y,y1,y2,by show y.h+1=h+1;omega,y4⟩
   have hnd2:Q4 ρ1 (.inn (h+1) rs)=⟨h+1,[],some ks⟩:=by rw [Q4,a2]
   have hrun:RunOk [⟨rx,.inn (h+1) rs⟩] r1 ρ1 (r1.add ⟨h+1,[],some ks⟩) (ZNl ρ1 rx r1.next) [r1.next]:=by
    have:=RunOk.cons (it:=⟨rx,.inn (h+1) rs⟩) (ρ:=ρ1) hn (by rw [hnd2];exact hx) (by rw [hnd2];exact hki) .nil
    rw [hnd2] at this;exact this
   refine ⟨ZNl ρ1 rx r1.next,a1.append hrun,?_,fun k hk=>?_,a4.trans (.one a4.ok hn a4.good hx hki (fun k hk=>(a5.ok k hk).2.1)),⟨?_,rfl,⟨(⟨h+1,[],some ks⟩:Nd).copy,?_,hx.copy,rfl,?_⟩,?_⟩⟩
   ·simp only [ZNl,if_true,hρ,Ro.wr,a5.m]
   ·rw [List.map_append,List.mem_append,not_or] at hk
    have:k≠rx:=fun q=>hk.2 (by simp [q])
    simp only [ZNl,if_neg this];exact a3 k hk.1
   ·rw [ZeZ]
    show Z7 (ks.map Kid.m)=_
    rw [a5.m]
   ·rw [ZIB a4.ok hn,if_pos rfl]
   ·rw [ZeZ,<- a5.m];rfl
   ·show QI _ (h+1) r1.next=_
    rw [QI,ZIB a4.ok hn,if_pos rfl,Tr.txt,if_pos rfl,Tr.txtO,<- a5.txt]
    show (ks.flatMap fun k=>QI (r1.add _).nodes h k.at_)=_
    have key:∀ m:List Kid,(∀ k∈m,k∈ks)->(m.flatMap fun k=>QI (r1.add ⟨h+1,[],some ks⟩).nodes h k.at_)=m.flatMap fun k=>QI r1.nodes h k.at_:=by
     intro m
     induction m with
     | nil=>intro _;rfl
     | cons k m ih2 =>
      intro q
      obtain ⟨_,_,y,y1,y2,y3,y4⟩:=a5.ok k (q k (by simp))
      rw [List.flatMap_cons,List.flatMap_cons,ZIc a4.good (Zea a4.ok hn _) h k.at_ y y1 y3,ih2 (fun w hw=>q w (by simp [hw]))]
    exact key ks fun _ h=>h
set_option maxHeartbeats 8000000
theorem ClsOk.get {n ip:Nat} {F:List (Nat × Blk)} {cs:List AV} {is:List It} (h:ClsOk n ip F cs is):∀ {j:Nat} {it:It},is[j]?=some it->∃ c,cs[j]?=some c/\ClOk n ip F c it:=by
 induction h with
 | nil=>intro j it hj;simp at hj
 | cons hc ht ih =>
  intro j it hj
  cases j with
  | zero =>
   simp only [List.getElem?_cons_zero,oJ] at hj;subst hj;exact ⟨_,rfl,hc⟩
  | succ j=>exact ih hj
def TdOk (st:St) (n tx ver j:Nat) (cls:List AV) (td:AV):Prop:=(cls=[]/\td=.nils)\/(cls≠[]/\td=.ref n tx ver j (cls.length-j)/\st.get n tx=some (.arr 1 ver cls))
structure PenS (st:St) (n ip tx ver la b:Nat) (cls:List AV) (its:List It) (F:List (Nat × Blk)) (keys:List Nat) (rx:Nat) (ρ:Nat->Ro) (j:Nat):Prop where
 wr:st.wr n
 pen:∃ td,st.get n ip=some (.arr 3 0 [.agg [.ptr la (b+5) 0 0 0,td,.ptr n rx 0 0 0]])/\TdOk st n tx ver j cls td
 cl:ClsOk n ip F cls its
 fx:∀ p∈F,st.get n p.1=some p.2
 rts:∀ k∈keys,st.get n k=some (.arr 5 0 [(ρ k).av])
 key:∀ it∈its,it.rx∈keys/\∀ k∈Zh3 it.c,k∈keys
 rk:rx∈keys
 s1:∀ k∈keys,k≠ip/\k≠tx
 s2:tx≠ip
 s3:∀ p∈F,p.1∉keys/\p.1≠ip/\p.1≠tx
 ar:∀ i,i=ip\/(cls≠[]/\i=tx)\/i∈keys\/(∃ p∈F,i=p.1)->¬ (n=la/\b<=i/\i<=b+5)
 len:cls.length<1000000
 jl:j<=cls.length
theorem ZqG {st:St} {n ip tx ver la b:Nat} {cls:List AV} {its:List It} {F:List (Nat × Blk)} {keys:List Nat} {rx:Nat} {ρ:Nat->Ro} {j:Nat} (h:PenS st n ip tx ver la b cls its F keys rx ρ j) (hj:j=cls.length):S Tb ZA0 [.ptr n ip 0 0 0] st=some (.tup [(ρ rx).av,.int .i64 0],st):=by
 obtain ⟨td,h1,h2⟩:=h.pen;have h3:=h.rts rx h.rk
 refine QE rfl (fun A hA=>?_)
 have g1:=fun L=>ZV hA (ro:=false) (L:=L) h1
 have g3:=fun L=>ZV hA (ro:=false) (L:=L) h3
 unfold Ro.av at g3 ⊢
 rcases h2 with ⟨_,rfl⟩|⟨_,rfl,_⟩
 all_goals repeat' (first|refine ZE ?_|refine ZD ?_|refine ZG rfl ?_|refine ZO rfl rfl ?_|refine ZB rfl ?_|refine ZC ?_|refine Zl rfl rfl ?_|refine Qf rfl ?_|refine J3 rfl ?_|(refine QR rfl rfl (fun _=>?_) (fun _=>?_)<;>try (exfalso;omega))|refine ZH rfl ?_|refine JB rfl rfl rfl rfl ?_|refine Zf rfl rfl rfl ?_|refine Z5 rfl rfl rfl rfl rfl rfl ?_|refine Z2 rfl (g1 _) rfl rfl ?_|refine Z2 rfl (g3 _) rfl rfl ?_|refine ZI ?_|refine ZP ?_|refine ZJ ?_)
 all_goals try (exfalso;omega)
 all_goals refine Y8 hA (by first|exact .inl rfl|exact .inr rfl) rfl rfl rfl rfl rfl ?_
 all_goals rfl
def ZFN (st:St) (n ip tx ver la b:Nat) (len:Nat) (rx:Nat) (r':AR) (k:Nat) (ro:Ro) (j:Nat):St :=
 ((Q3 st la b r').upd n k (.arr 5 0 [ro.av])).upd n ip (.arr 3 0 [.agg [.ptr la (b+5) 0 0 0,.ref n tx ver (j+1) (len-j-1),.ptr n rx 0 0 0]])
theorem PenS.step {st:St} {n ip tx ver la b:Nat} {cls:List AV} {its:List It} {F:List (Nat × Blk)} {keys:List Nat} {rx:Nat} {ρ:Nat->Ro} {j:Nat} (h:PenS st n ip tx ver la b cls its F keys rx ρ j) {r:AR} (hA:Has st la b r) (ho:AROk r) (hn:0<r.n) {it:It} (hj:its[j]?=some it)
 (hx:NdOk (Q4 ρ it.c)) (hk:ZQS r.nodes (Q4 ρ it.c)) :
 S Tb XQ [.ptr n ip 0 0 0] st=some (.tup [.int .u64 r.next,.bool (decide (cls.length=j+1)),.int .i64 0],ZFN st n ip tx ver la b cls.length rx (r.add (Q4 ρ it.c)) it.rx ((ρ it.rx).wr r.next) j) /\
 PenS (ZFN st n ip tx ver la b cls.length rx (r.add (Q4 ρ it.c)) it.rx ((ρ it.rx).wr r.next) j) n ip tx ver la b cls its F keys rx (ZNl ρ it.rx r.next) (j+1) /\
 Has (ZFN st n ip tx ver la b cls.length rx (r.add (Q4 ρ it.c)) it.rx ((ρ it.rx).wr r.next) j) la b (r.add (Q4 ρ it.c)):=by
 obtain ⟨td,h1,h2⟩:=h.pen;obtain ⟨cl,c1,c2⟩:=h.cl.get hj;have hjl:=(List.getElem?_eq_some_iff.1 c1).1;have hm:=jM hj;obtain ⟨k1,k2⟩:=h.key it hm;have hrx:=h.rts it.rx k1;have hrp:=h.s1 it.rx k1
 have hne:cls≠[]:=fun q=>by rw [q] at c1;simp at c1
 rcases h2 with ⟨q,_⟩|⟨_,rfl,h3⟩
 ·exact absurd q hne
 have hS:=ZqF (it:=it) (ρ:=ρ) (b0:=0) (b1:=0) (b2:=0) (cv:=.nils) h3 c1 c2 h.len h1 h.fx (fun k hk=>h.rts k (k2 k hk)) hrx hA ho hn hx hk h.wr (fun i hi=>h.ar i (by
  rcases hi with rfl|rfl|rfl|q
  ·exact .inr (.inr (.inl k1))
  ·exact .inl rfl
  ·exact .inr (.inl ⟨hne,rfl⟩)
  ·exact .inr (.inr (.inr q)))) ⟨hrp.1,hrp.2,h.s2⟩
 have a1:∀ i,¬ (n=la/\b<=i/\i<=b+5)->(Q3 st la b (r.add (Q4 ρ it.c))).get n i=st.get n i:=fun i hi=>hA.out _ hi
 have g1:∀ l' i',((Q3 st la b (r.add (Q4 ρ it.c))).upd n it.rx (.arr 5 0 [((ρ it.rx).wr r.next).av])).get l' i'=if l'=n/\i'=it.rx then some (.arr 5 0 [((ρ it.rx).wr r.next).av]) else (Q3 st la b (r.add (Q4 ρ it.c))).get l' i' :=
  fun l' i'=>St.get_upd ((a1 _ (h.ar _ (.inr (.inr (.inl k1))))).trans hrx) rfl
 have hp0:((Q3 st la b (r.add (Q4 ρ it.c))).upd n it.rx (.arr 5 0 [((ρ it.rx).wr r.next).av])).get n ip=_:=(g1 n ip).trans ((if_neg (fun q=>hrp.1 q.2.symm)).trans ((a1 _ (h.ar _ (.inl rfl))).trans h1))
 have g2:∀ l' i',(ZFN st n ip tx ver la b cls.length rx (r.add (Q4 ρ it.c)) it.rx ((ρ it.rx).wr r.next) j).get l' i'=if l'=n/\i'=ip then some (.arr 3 0 [.agg [.ptr la (b+5) 0 0 0,.ref n tx ver (j+1) (cls.length-j-1),.ptr n rx 0 0 0]]) else if l'=n/\i'=it.rx then some (.arr 5 0 [((ρ it.rx).wr r.next).av]) else (Q3 st la b (r.add (Q4 ρ it.c))).get l' i':=fun l' i'=>by
  rw [ZFN,St.get_upd hp0 rfl,g1]
 have hw1:(Q3 st la b (r.add (Q4 ρ it.c))).wr n:=ZNU hA.cl.wr h.wr;have hwl:(Q3 st la b (r.add (Q4 ρ it.c))).wr la:=(hA.put _).wr
 have hw2:∀ {l:Nat},(Q3 st la b (r.add (Q4 ρ it.c))).wr l->(ZFN st n ip tx ver la b cls.length rx (r.add (Q4 ρ it.c)) it.rx ((ρ it.rx).wr r.next) j).wr l:=fun w=>St.wr_upd (St.wr_upd hw1 hw1) (St.wr_upd hw1 w)
 refine ⟨hS,⟨hw2 hw1,⟨_,by rw [g2,if_pos ⟨rfl,rfl⟩,Nat.sub_sub],.inr ⟨hne,rfl,?_⟩⟩,h.cl,fun p hp=>?_,fun k hk=>?_,h.key,h.rk,h.s1,h.s2,h.s3,h.ar,h.len,hjl⟩,?_⟩
 ·rw [g2,if_neg (fun q=>h.s2 q.2),if_neg (fun q=>hrp.2 q.2.symm),a1 _ (h.ar _ (.inr (.inl ⟨hne,rfl⟩)))];exact h3
 ·obtain ⟨q1,q2,q3⟩:=h.s3 p hp
  rw [g2,if_neg (fun q=>q2 q.2),if_neg (fun q=>q1 (by rw [q.2];exact k1)),a1 _ (h.ar _ (.inr (.inr (.inr ⟨p,hp,rfl⟩))))];exact h.fx p hp
 ·obtain ⟨q1,q2⟩:=h.s1 k hk
  rw [g2,if_neg (fun q=>q1 q.2)]
  unfold ZNl
  by_cases e:k=it.rx
  ·subst e;rw [if_pos ⟨rfl,rfl⟩,if_pos rfl]
  ·rw [if_neg (fun q=>e q.2),if_neg e,a1 _ (h.ar _ (.inr (.inr (.inl hk))))];exact h.rts k hk
 ·have hP:=hA.put (r.add (Q4 ρ it.c))
  have n1:∀ i,b<=i->i<=b+5->¬ (la=n/\i=ip)/\¬ (la=n/\i=it.rx):=fun i i1 i2=>⟨fun q=>h.ar ip (.inl rfl) ⟨q.1.symm,by omega,by omega⟩,fun q=>h.ar it.rx (.inr (.inr (.inl k1))) ⟨q.1.symm,by omega,by omega⟩⟩
  have gg:∀ i,b<=i->i<=b+5->(ZFN st n ip tx ver la b cls.length rx (r.add (Q4 ρ it.c)) it.rx ((ρ it.rx).wr r.next) j).get la i=(Q3 st la b (r.add (Q4 ρ it.c))).get la i:=fun i i1 i2=>by
   rw [g2,if_neg (n1 i i1 i2).1,if_neg (n1 i i1 i2).2]
  exact ⟨hw2 hwl,(gg _ (by omega) (by omega)).trans hP.h0,(gg _ (by omega) (by omega)).trans hP.h1,(gg _ (by omega) (by omega)).trans hP.h2,(gg _ (by omega) (by omega)).trans hP.h3,(gg _ (by omega) (by omega)).trans hP.h4,(gg _ (by omega) (by omega)).trans hP.h5⟩
theorem ZDz {A:List (Bool × List Blk)} {ro:Bool} {L:List Blk} {lv ix:Nat} {b:Blk} (T:List Blk) (h:St.get ⟨A,ro,L⟩ lv ix=some b):St.get ⟨A,ro,L++T⟩ lv ix=some b:=by
 unfold St.get at h ⊢
 simp only at h ⊢
 split
 ·rename_i q
  rw [if_pos q] at h;have h2:=(ZAf h).1;rw [jL (List.getElem?_eq_some_iff.1 h2).1];exact h
 ·rename_i q
  rw [if_neg q] at h;exact h
theorem HasR.app {A:List (Bool × List Blk)} {ro:Bool} {L:List Blk} {la b:Nat} {r:AR} (h:HasR ⟨A,ro,L⟩ la b r) (T:List Blk):HasR ⟨A,ro,L++T⟩ la b r :=
 ⟨ZDz T h.h0,ZDz T h.h1,ZDz T h.h2,ZDz T h.h3,ZDz T h.h4,ZDz T h.h5⟩
mutual
theorem AddT.keys:∀ {t:Tr} {rx:Nat} {its:List It} {R:List (Nat × Ro)},AddT t rx its R->rx∈R.map Prod.fst/\∀ it∈its,it.rx∈R.map Prod.fst/\∀ k∈Zh3 it.c,k∈R.map Prod.fst
 | _,_,_,_,.kept h0=>⟨by simp,fun it h=>by simp at h⟩
 | _,_,_,_,.leaf=>⟨by simp,fun it h=>by simp only [List.mem_singleton] at h;subst h;exact ⟨by simp,fun k hk=>by simp [Zh3] at hk⟩⟩
 | _,_,_,_,.inner hl hn hx=>by
  obtain ⟨h1,h2⟩:=AddL.keys hl
  refine ⟨by simp,fun it h=>?_⟩
  rcases List.mem_append.1 h with q|q
  ·obtain ⟨a1,a2⟩:=h2 it q
   exact ⟨by rw [List.map_append];exact List.mem_append_left _ a1,fun k hk=>by rw [List.map_append];exact List.mem_append_left _ (a2 k hk)⟩
  ·simp only [List.mem_singleton] at q
   subst q
   exact ⟨by simp,fun k hk=>by rw [List.map_append];exact List.mem_append_left _ (h1 k hk)⟩
theorem AddL.keys:∀ {l:List Tr} {rs:List Nat} {its:List It} {R:List (Nat × Ro)},AddL l rs its R->(∀ r∈rs,r∈R.map Prod.fst)/\∀ it∈its,it.rx∈R.map Prod.fst/\∀ k∈Zh3 it.c,k∈R.map Prod.fst
 | _,_,_,_,.nil=>⟨fun r h=>by simp at h,fun it h=>by simp at h⟩
 | _,_,_,_,.cons ht hl=>by
  obtain ⟨a1,a2⟩:=ht.keys;obtain ⟨b1,b2⟩:=hl.keys
  refine ⟨fun r h=>?_,fun it h=>?_⟩
  ·rw [List.map_append]
   rcases List.mem_cons.1 h with rfl|q
   ·exact List.mem_append_left _ a1
   ·exact List.mem_append_right _ (b1 r q)
  ·rw [List.map_append]
   rcases List.mem_append.1 h with q|q
   ·exact ⟨List.mem_append_left _ (a2 it q).1,fun k hk=>List.mem_append_left _ ((a2 it q).2 k hk)⟩
   ·exact ⟨List.mem_append_right _ (b2 it q).1,fun k hk=>List.mem_append_right _ ((b2 it q).2 k hk)⟩
end
def ZqH (R:List (Nat × Ro)) (k:Nat):Ro:=((R.find? fun p=>p.1 == k).map Prod.snd).getD .zero
theorem Zeb:∀ {R:List (Nat × Ro)},(R.map Prod.fst).Nodup->∀ p∈R,ZqH R p.1=p.2
 | [],_,p,hp=>by simp at hp
 | q::R,hn,p,hp=>by
  rw [jC,List.nodup_cons] at hn;unfold ZqH;rw [List.find?_cons]
  rcases List.mem_cons.1 hp with rfl|w
  ·simp
  ·have:q.1≠p.1:=fun e=>hn.1 (by rw [e];exact List.mem_map.2 ⟨p,w,rfl⟩)
   rw [show (q.1 == p.1)=false by simp [this]]
   exact Zeb hn.2 p w
def PI (t:Tr) (its:List It) (rx:Nat) (ρ:Nat->Ro):Prop:=(IsEmpty t/\its=[]/\ρ rx=.zero)\/(∃ N,Val N t)/\∃ R,AddT t rx its R/\(∀ p∈R,ρ p.1=p.2)/\(R.map Prod.fst).Nodup
def nw (t:Tr):Nat:=if t.old=0/\t.h=0/\t.text=[] then 0 else t.cnt
theorem ZQT {N:ZL} {t:Tr} (hv:Val N t):nw t=t.cnt:=by
 unfold nw
 cases hv with
 | kept h0=>rw [if_neg];simp [Tr.old,h0]
 | leaf h1=>rw [if_neg];rintro ⟨_,_,q⟩;simp only [Tr.text] at q;rw [q] at h1;simp at h1
 | inner=>rw [if_neg];simp [Tr.h]
structure Begun (A:List (Bool × List Blk)) (L L2:List Blk) (la b:Nat) (t:Tr) (tx ver:Nat) (cs:List AV) (its:List It) (F:List (Nat × Blk)) (keys:List Nat) (rx:Nat) (ρ:Nat->Ro):Prop where
 ps:PenS ⟨A,false,L2⟩ A.length (L.length+1) tx ver la b cs its F keys rx ρ 0
 len:L.length+2<=L2.length
 old:∀ i,i<L.length->L2[i]?=L[i]?
 klo:∀ k∈keys,L.length+2<=k
 flo:∀ p∈F,L.length+2<=p.1
 tlo:cs≠[]->L.length+2<=tx
 pi:PI t its rx ρ
theorem ZkS {N:ZL} {A:List (Bool × List Blk)} {L:List Blk} {la b:Nat} {r:AR} (hA:HasR ⟨A,false,L⟩ la b r) (hN:r.n<=r.blk.length) (h16:r.states.length<=16384) (h6:r.n<65536) {t:Tr} (hv:Val r.nodes t) (hb:t.bytes<=65536) (hn:t.cnt<=r.n) :
 ∃ L2 tx ver cs its F keys rx ρ,S Tb Yz [.ptr la (b+5) 0 0 0,t.av] ⟨A,false,L⟩=some (.tup [.ptr A.length (L.length+1) 0 0 0,.int .i64 0],⟨A,false,L2⟩)/\Begun A L L2 la b t tx ver cs its F keys rx ρ:=by
 have hCk:=fun T=>ZQJ (hA.app T).rd hv hb
 have hNw:=fun st=>Zpb hv (by omega) st
 have hSt:=fun T=>ZeW (hA.app T) hN h16 h6
 unfold AR.statsAV at hSt;obtain ⟨T,hT⟩:∃ T:List Blk,T=[.arr 7 0 [t.av],.arr 3 0 [.agg [.ptr la (b+5) 0 0 0,.nils,.nilptr]]]:=⟨_,rfl⟩
 have hTl:T.length=2:=by rw [hT];rfl
 have hip:(L++T)[L.length+1]?=some (.arr 3 0 [.agg [.ptr la (b+5) 0 0 0,.nils,.nilptr]]):=by rw [Qr,hT];rfl
 have hP:Pen A (L++T) (L.length+1) (.ptr la (b+5) 0 0 0) .nils []:=⟨⟨_,hip⟩,.inl ⟨rfl,rfl⟩⟩
 obtain ⟨L1,td1,rx,its,cs,R,F,hS,ha⟩:=Zqs hv hb hP (by simp;omega)
 obtain ⟨⟨rp,p1⟩,p2⟩:=ha.pen;rw [lE] at p2;have hl1:=ha.frm.len;rw [lL,hTl] at hl1;have hlt1:L.length+1<L1.length:=(List.getElem?_eq_some_iff.1 p1).1
 have hkl:∀ k∈R.map Prod.fst,L.length+2<=k:=fun k hk=>by
  obtain ⟨p,hp,rfl⟩:=List.mem_map.1 hk
  have:=ha.rlo p hp
  rwa [lL,hTl] at this
 have hfl:∀ p∈F,L.length+2<=p.1:=fun p hp=>by
  have:=ha.flo p hp
  rwa [lL,hTl] at this
 have hg:∀ i,i≠L.length+1->∀ B,(L1.set (L.length+1) B)[i]?=L1[i]?:=fun i hi B=>jS (fun q=>hi q.symm)
 obtain ⟨q1,q2⟩:=ha.tr.keys
 have hbl:la=A.length->b+5<L.length:=fun e=>by
  have:=hA.h5
  subst e;rw [St.get_cur] at this;exact (List.getElem?_eq_some_iff.1 (ZAf this).1).1
 -- where the list lies
 obtain ⟨tx,ver,t1,t2,t3⟩:∃ tx ver,(cs=[]/\td1=.nils/\tx=L.length\/cs≠[]/\td1=.ref A.length tx ver 0 cs.length/\L1[tx]?=some (.arr 1 ver cs)/\L.length+2<=tx/\YB (L.length+1) td1 tx)/\tx≠L.length+1/\(∀ k,L.length+2<=k->¬ YB (L.length+1) td1 k->k≠tx):=by
  rcases p2 with ⟨e1,e2⟩|⟨tx,ver,e1,e2,e3,e4⟩
  ·exact ⟨L.length,0,.inl ⟨e2,e1,rfl⟩,by omega,fun k hk _=>by omega⟩
  ·have hX:YB (L.length+1) td1 tx:=.inr ⟨_,_,_,_,e1⟩
   refine ⟨tx,ver,.inr ⟨e4,e1,e2,?_,hX⟩,e3,fun k hk hn q=>hn (by rw [q];exact hX)⟩
   rcases ha.frm.own tx hX with w|w
   ·rcases w with w|⟨_,_,_,_,w⟩
    ·exact absurd w e3
    ·simp at w
   ·rwa [lL,hTl] at w
 refine ⟨L1.set (L.length+1) (.arr 3 0 [.agg [.ptr la (b+5) 0 0 0,td1,.ptr A.length rx 0 0 0]]),tx,ver,cs,its,F,R.map Prod.fst,rx,ZqH R,Xl rfl ?_,⟨⟨by simp [St.wr],⟨td1,by rw [St.get_cur,List.getElem?_set_self hlt1];rfl,?_⟩,ha.cl,?_,?_,q2,q1,?_,t2,?_,?_,?_,Nat.zero_le _⟩,by rw [List.length_set];omega,?_,hkl,hfl,fun hc=>(by
  rcases t1 with ⟨w,_⟩|⟨_,_,_,w,_⟩
  ·exact absurd w hc
  ·exact w),.inr ⟨⟨_,hv⟩,R,ha.tr,Zeb ha.nd,ha.nd⟩⟩⟩
 ·have e0:(⟨A,false,L⟩:St)=⟨A,false,L++[]⟩:=by rw [lN]
  rw [e0];rw [hT] at hS
  repeat' (first|refine Y4 rfl (Z9 _) (QM _) rfl rfl ?_|refine Y4 rfl rfl rfl rfl rfl ?_|refine X8 rfl rfl rfl (Zs _) ?_|refine ZE ?_|refine ZD ?_|refine ZG rfl ?_|refine ZO rfl rfl ?_|refine ZB rfl ?_|refine ZC ?_|refine ZU7 (agg:=false) rfl rfl ?_|refine Zl rfl rfl ?_|(refine QR rfl rfl (fun _=>?_) (fun _=>?_)<;>try (exfalso;omega))|(refine Zn rfl rfl (fun _=>?_) (fun _=>?_)<;>try (exfalso;omega))|refine ZH rfl ?_|refine Zq rfl rfl rfl ?_|refine ZA rfl rfl (by first|rfl|(simp only [lE,lN,lC,Zd,ZX,ZW];first|done|rfl)) (hCk _) ?_|refine ZA rfl rfl (by first|rfl|(simp only [lE,lN,lC,Zd,ZX,ZW];first|done|rfl)) (hNw _) ?_|refine ZA rfl rfl (by first|rfl|(simp only [lE,lN,lC,Zd,ZX,ZW];first|done|rfl)) (hSt _) ?_|refine ZA rfl rfl (by first|rfl|(simp only [lE,lN,lC,Zd,ZX,ZW];first|done|rfl)) (hS) ?_|refine ZI ?_)
  all_goals try (exfalso;omega)
  refine JC p1 rfl rfl rfl ?_ rfl ?_
  ·simp only [ZY,QJ,if_pos (Nat.lt_succ_self _)]
  repeat' (first|refine ZE ?_|refine ZD ?_|refine ZG rfl ?_|refine ZB rfl ?_|refine ZC ?_|refine ZP ?_|refine ZJ ?_)
  refine (Jv (.inr rfl) rfl rfl rfl rfl).trans ?_;rfl
 ·rcases t1 with ⟨e1,e2,e3⟩|⟨e0,e1,e2,e3⟩
  ·exact .inl ⟨e1,e2⟩
  ·exact .inr ⟨e0,e1,by rw [St.get_cur,hg _ t2,e2];rfl⟩
 ·intro p hp
  obtain ⟨f1,f2⟩:=ha.fx p hp;obtain ⟨w,v,es,f3,f4⟩:=ha.fw p hp
  have:p.1≠L.length+1:=fun q=>f2 (.inl q)
  rw [St.get_cur,hg _ this,f1,f3];rfl
 ·intro k hk
  obtain ⟨p,hp,rfl⟩:=List.mem_map.1 hk;obtain ⟨f1,f2⟩:=ha.rts.get hp
  have:p.1≠L.length+1:=fun q=>f2 (.inl q)
  rw [St.get_cur,hg _ this,f1,Zeb ha.nd p hp];rfl
 ·intro k hk
  have h1:=hkl k hk;obtain ⟨p,hp,rfl⟩:=List.mem_map.1 hk
  exact ⟨by omega,t3 _ h1 (ha.rts.get hp).2⟩
 ·intro p hp
  obtain ⟨f1,f2⟩:=ha.fx p hp;obtain ⟨w,v,es,f3,f4⟩:=ha.fw p hp;have h1:=hfl p hp
  refine ⟨fun q=>?_,by omega,t3 _ h1 f2⟩
  obtain ⟨u,hu,e⟩:=List.mem_map.1 q;have f5:=(ha.rts.get hu).1;rw [e,f1,f3] at f5;simp only [oJ,Blk.arr.injEq] at f5;exact f4 f5.1
 ·intro i hi ⟨e1,e2,e3⟩
  have:=hbl e1.symm
  rcases hi with rfl|⟨c1,rfl⟩|q|⟨p,hp,rfl⟩
  ·omega
  ·rcases t1 with ⟨w,_⟩|⟨_,_,_,w,_⟩
   ·exact c1 w
   ·omega
  ·have:=hkl i q;omega
  ·have:=hfl p hp;omega
 ·have h1:=ha.cl.len
  have h2:=ha.tr.cnt;omega
 ·intro i hi
  rw [hg i (by omega),ha.frm.old i (by rw [lL];omega) (fun q=>?_),jL hi]
  rcases q with q|⟨_,_,_,_,q⟩
  ·omega
  ·simp at q
theorem Zec {A:List (Bool × List Blk)} {ro:Bool} {L:List Blk} {i:Nat} {b:Blk} (h:L[i]?=some b) (hv:vis (some b)=some b):St.get ⟨A,ro,L⟩ A.length i=some b:=by rw [St.get_cur,h,hv]
theorem ZkT {t:Tr} (ht:IsEmpty t) (st:St):S Tb ZAS [t.av] st=some (.int .i64 (0:Nat),st) :=
 ZQR (c:=1) ht.ks (fun st=>ZCU t ht st) st
theorem ZgR {A:List (Bool × List Blk)} {L:List Blk} {la b:Nat} {r:AR} (hA:HasR ⟨A,false,L⟩ la b r) (hN:r.n<=r.blk.length) (h16:r.states.length<=16384) (h6:r.n<65536) {t:Tr} (ht:IsEmpty t) :
 ∃ L2 tx ver cs its F keys rx ρ,S Tb Yz [.ptr la (b+5) 0 0 0,t.av] ⟨A,false,L⟩=some (.tup [.ptr A.length (L.length+1) 0 0 0,.int .i64 0],⟨A,false,L2⟩)/\Begun A L L2 la b t tx ver cs its F keys rx ρ:=by
 have hCk:=fun T=>ZQx (st:=⟨A,false,L++T⟩) (lv:=la) (ix:=b+5) ht
 have hNw:=fun st=>ZkT ht st
 have hSt:=fun T=>ZeW (hA.app T) hN h16 h6
 unfold AR.statsAV at hSt
 have hbl:la=A.length->b+5<L.length:=fun e=>by
  have:=hA.h5
  subst e;rw [St.get_cur] at this;exact (List.getElem?_eq_some_iff.1 (ZAf this).1).1
 obtain ⟨T,hT⟩:∃ T:List Blk,T=[.arr 7 0 [t.av],.arr 3 0 [.agg [.ptr la (b+5) 0 0 0,.nils,.nilptr]]]:=⟨_,rfl⟩
 have hadd:S Tb Qm [.ptr A.length (L.length+1) 0 0 0,t.av] ⟨A,false,L++T⟩=some (.ptr A.length ((L++T).length+1) 0 0 0,⟨A,false,(L++T)++[.arr 7 0 [t.av],.arr 5 0 [Ro.zero.av]]⟩):=by
  refine Xl rfl ?_
  have e0:(⟨A,false,L++T⟩:St)=⟨A,false,(L++T)++[]⟩:=by rw [lN]
  rw [e0];generalize L++T=L0;obtain ⟨o,h,m,s,k⟩:=t;obtain ⟨h1,h2,h3,h4,h5⟩:=ht;simp only [Tr.old,Tr.h,Tr.m,Tr.text,Tr.ks] at h1 h2 h3 h4 h5;subst h1 h2 h3 h4
  obtain ⟨ka,hka,hka2⟩:∃ ka,Tr.avO k=ka/\(ka=.nils\/ka=.lit []):=by
   cases k with
   | none=>exact ⟨_,rfl,.inl rfl⟩
   | some l=>have:l=[]:=h5;subst this;exact ⟨_,rfl,.inr rfl⟩
  simp only [Tr.av,Mea.zero,hka] at *
  rcases hka2 with rfl|rfl
  all_goals repeat' (first|refine Y4 rfl rfl rfl rfl rfl ?_|refine X8 rfl rfl rfl rfl ?_|refine ZE ?_|refine ZD ?_|refine ZG rfl ?_|refine ZO rfl rfl ?_|refine QF rfl ?_|refine Zm rfl rfl rfl rfl ?_|refine ZB rfl ?_|refine ZC ?_|refine ZEO rfl rfl ?_|refine J3 rfl ?_|(refine Zj rfl rfl (fun _=>?_) (fun _=>?_)<;>try (exfalso;omega))|(refine Zn rfl rfl (fun _=>?_) (fun _=>?_)<;>try (exfalso;omega))|(refine Yb rfl rfl (fun _=>?_) (fun _=>?_)<;>try contradiction)|refine ZU rfl ?_|refine Zq rfl rfl rfl ?_|refine ZI ?_|refine ZP ?_|refine ZQ ?_|refine ZJ ?_|refine QB ?_)
  all_goals try contradiction
  all_goals try (exfalso;omega)
  all_goals refine (Jv (.inr rfl) rfl rfl rfl rfl).trans ?_
  all_goals rfl
 have hTl:T.length=2:=by rw [hT];rfl
 have hl2:(L++T).length=L.length+2:=by rw [lL,hTl]
 rw [hl2] at hadd
 have p1:((L++T)++[Blk.arr 7 0 [t.av],Blk.arr 5 0 [Ro.zero.av]])[L.length+1]?=some (.arr 3 0 [.agg [.ptr la (b+5) 0 0 0,.nils,.nilptr]]):=by
  rw [List.append_assoc,Qr,hT];rfl
 refine ⟨((L++T)++[Blk.arr 7 0 [t.av],Blk.arr 5 0 [Ro.zero.av]]).set (L.length+1) (Blk.arr 3 0 [.agg [.ptr la (b+5) 0 0 0,.nils,.ptr A.length (L.length+3) 0 0 0]]),L.length,0,[],[],[],[L.length+3],L.length+3,fun _=>.zero,Xl rfl ?_,⟨⟨by simp [St.wr],⟨.nils,?_,.inl ⟨rfl,rfl⟩⟩,.nil,fun p hp=>by simp at hp,fun k hk=>?_,fun it hi=>by simp at hi,by simp,fun k hk=>?_,by omega,fun p hp=>by simp at hp,fun i hi=>?_,by simp,Nat.zero_le _⟩,by simp,fun i hi=>?_,fun k hk=>?_,fun p hp=>by simp at hp,fun hc=>absurd rfl hc,.inl ⟨ht,rfl,rfl⟩⟩⟩
 ·have e0:(⟨A,false,L⟩:St)=⟨A,false,L++[]⟩:=by rw [lN]
  rw [e0];rw [hT] at hadd p1 ⊢
  repeat' (first|refine Y4 rfl (Z9 _) (QM _) rfl rfl ?_|refine Y4 rfl rfl rfl rfl rfl ?_|refine X8 rfl rfl rfl (Zs _) ?_|refine ZE ?_|refine ZD ?_|refine ZG rfl ?_|refine ZO rfl rfl ?_|refine ZB rfl ?_|refine ZC ?_|refine ZU7 (agg:=false) rfl rfl ?_|refine Zl rfl rfl ?_|(refine QR rfl rfl (fun _=>?_) (fun _=>?_)<;>try (exfalso;omega))|(refine Zn rfl rfl (fun _=>?_) (fun _=>?_)<;>try (exfalso;omega))|refine ZH rfl ?_|refine Zq rfl rfl rfl ?_|refine ZA rfl rfl (by first|rfl|(simp only [lE,lN,lC,Zd,ZX,ZW];first|done|rfl)) (hCk _) ?_|refine ZA rfl rfl (by first|rfl|(simp only [lE,lN,lC,Zd,ZX,ZW];first|done|rfl)) (hNw _) ?_|refine ZA rfl rfl (by first|rfl|(simp only [lE,lN,lC,Zd,ZX,ZW];first|done|rfl)) (hSt _) ?_|refine ZA rfl rfl (by first|rfl|(simp only [lE,lN,lC,Zd,ZX,ZW];first|done|rfl)) (hadd) ?_|refine ZI ?_)
  all_goals try (exfalso;omega)
  refine JC p1 rfl rfl rfl ?_ rfl ?_
  ·simp only [ZY,QJ,if_pos (Nat.lt_succ_self _)]
  repeat' (first|refine ZE ?_|refine ZD ?_|refine ZG rfl ?_|refine ZB rfl ?_|refine ZC ?_|refine ZP ?_|refine ZJ ?_)
  refine (Jv (.inr rfl) rfl rfl rfl rfl).trans ?_;rfl
 ·exact Zec (List.getElem?_set_self (by simp)) rfl
 ·simp only [List.mem_singleton] at hk
  subst hk;refine Zec ?_ rfl
  rw [jS (by omega),show L.length+3=(L++T).length+1 by rw [hl2],Qr];rfl
 ·simp only [List.mem_singleton] at hk
  omega
 ·rintro ⟨e1,e2,e3⟩
  have:=hbl e1.symm
  rcases hi with rfl|⟨c1,rfl⟩|q|⟨p,hp,rfl⟩
  ·omega
  ·exact c1 rfl
  ·simp only [List.mem_singleton] at q;omega
  ·simp at hp
 ·rw [jS (by omega),List.append_assoc,jL hi]
 ·simp only [List.mem_singleton] at hk
  omega
end Go.Q15
namespace Go.Q15
open Go Go.QAbs
set_option maxRecDepth 100000
set_option maxHeartbeats 8000000
def Y7 (h:Nat):AV:=.int .u64 h
namespace Tr
end Tr
end Go.Q15
namespace Go.Q15
open Go Go.QAbs
set_option maxRecDepth 100000
set_option maxHeartbeats 8000000
def wrV (t:Tr) (r:AR):AR × Ro × List Nat:=if t.old=0/\t.h=0/\t.text=[] then (r,.zero,[]) else t.wr r
theorem ZjF {N:ZL} {t:Tr} (hv:Val N t) (r:AR):wrV t r=t.wr r:=by
 unfold wrV
 cases hv with
 | kept h0=>rw [if_neg];simp [Tr.old,h0]
 | leaf h1=>rw [if_neg];rintro ⟨_,_,q⟩;simp only [Tr.text] at q;rw [q] at h1;simp at h1
 | inner=>rw [if_neg];simp [Tr.h]
theorem Zb7 {t:Tr} (h:IsEmpty t) (r:AR):wrV t r=(r,.zero,[]):=by
 unfold wrV;rw [if_pos ⟨h.old,h.h,h.text⟩]
theorem Val.not_empty {N:ZL} {t:Tr} (hv:Val N t):¬ IsEmpty t:=fun h=>by
 have:=hv.pos.2
 have:=h.bytes
 omega
theorem PI.run {r:AR} (ho:AROk r) (hg:GoodN r.nodes) {t:Tr} (hv:VE r.nodes t) (hb:t.bytes<=65536) (hn:nw t<=r.n) {its:List It} {rx:Nat} {ρ:Nat->Ro} (h:PI t its rx ρ) :
 ∃ ρ',RunOk its r ρ (wrV t r).1 ρ' (wrV t r).2.2/\ρ' rx=(wrV t r).2.1:=by
 rcases h with ⟨h1,rfl,h2⟩|⟨⟨M,hM⟩,R,h1,h2,h3⟩
 ·rw [Zb7 h1];exact ⟨ρ,.nil,h2⟩
 ·rcases hv with hv|hv
  ·exact absurd hv hM.not_empty
  ·rw [ZjF hv]
   rw [ZQT hv] at hn;obtain ⟨ρ',a1,a2,_⟩:=exec_ok hg hv hb r ho hg (.refl _) hn rx its R ρ h1 h2 h3;exact ⟨ρ',a1,a2⟩
theorem ZjG {A:List (Bool × List Blk)} {L:List Blk} {la b:Nat} {r:AR} (hA:HasR ⟨A,false,L⟩ la b r) (hN:r.n<=r.blk.length) (h16:r.states.length<=16384) (h6:r.n<65536) {t:Tr} (hv:VE r.nodes t) (hb:t.bytes<=65536) (hn:nw t<=r.n) :
 ∃ L2 tx ver cs its F keys rx ρ,S Tb Yz [.ptr la (b+5) 0 0 0,t.av] ⟨A,false,L⟩=some (.tup [.ptr A.length (L.length+1) 0 0 0,.int .i64 0],⟨A,false,L2⟩)/\Begun A L L2 la b t tx ver cs its F keys rx ρ:=by
 rcases hv with hv|hv
 ·exact ZgR hA hN h16 h6 hv
 ·rw [ZQT hv] at hn
  exact ZkS (N:=r.nodes) hA hN h16 h6 hv hb hn
theorem Zoz {A:List (Bool × List Blk)} {L:List Blk} {ix ver n:Nat} {l:List Nat} {ro:Ro} {e:Int} (hg:L[ix]?=some (.arr 1 ver (l.map Y7))) (hn:n=l.length) :
 ZY QJ A.length ⟨A,false,L⟩ (.tup [ro.av,.ref A.length ix ver 0 n,.int .i64 e])=some (.tup [ro.av,.lit (l.map Y7),.int .i64 e],⟨A,false,L.set ix .dead⟩):=by
 subst hn
 have h1:=ZIQ (n:=4) (A:=A) (s:=0) (m:=l.length) hg (by simp) (es':=l.map Y7) (by
  rw [List.drop_zero,List.take_of_length_le (by simp)]
  exact ZQQ (k:=.u64) (fun n:Nat=>(n:Int)) 3 0 _ l)
 show (mapSt (ZY 5 A.length) _ _).bind ZcN=_
 have h2:ZY 5 A.length ⟨A,false,L⟩ ro.av=some (ro.av,⟨A,false,L⟩):=rfl;simp only [mapSt,h2,oS,h1];rfl
theorem RunOk.len {its:List It} {r r':AR} {ρ ρ':Nat->Ro} {hs:List Nat} (h:RunOk its r ρ r' ρ' hs):hs.length=its.length:=by
 induction h with
 | nil=>rfl
 | cons hn hx hk h ih=>simp [ih]
theorem RunOk.inv {it:It} {its:List It} {r r':AR} {ρ ρ':Nat->Ro} {l:List Nat} (h:RunOk (it::its) r ρ r' ρ' l) :
 ∃ hs,l=r.next::hs/\0<r.n/\NdOk (Q4 ρ it.c)/\ZQS r.nodes (Q4 ρ it.c)/\RunOk its (r.add (Q4 ρ it.c)) (ZNl ρ it.rx r.next) r' ρ' hs:=by
 cases h with
 | cons hn hx hk h=>exact ⟨_,rfl,hn,hx,hk,h⟩
theorem RunOk.nil_inv {r r':AR} {ρ ρ':Nat->Ro} {l:List Nat} (h:RunOk [] r ρ r' ρ' l):l=[]/\r'=r/\ρ'=ρ:=by
 cases h;exact ⟨rfl,rfl,rfl⟩
theorem ZmV {st:St} {la b:Nat} (hl:la<=st.A.length) (rj r2:AR) {n:Nat} (hn:n=st.A.length+1) (L:List Blk) (ip tx ver len rx k:Nat) (ro:Ro) (j:Nat) :
 ZFN ⟨(Q3 st la b rj).ps,false,L⟩ n ip tx ver la b len rx r2 k ro j=⟨(Q3 st la b r2).ps,false,(L.set k (.arr 5 0 [ro.av])).set ip (.arr 3 0 [.agg [.ptr la (b+5) 0 0 0,.ref n tx ver (j+1) (len-j-1),.ptr n rx 0 0 0]])⟩:=by
 have e1:Q3 ⟨(Q3 st la b rj).ps,false,L⟩ la b r2=⟨(Q3 st la b r2).ps,false,L⟩:=by
  rw [ZIb rfl (by rw [ZQP];exact hl),ZkK]
 have e2:((Q3 st la b r2).ps).length=n:=by rw [hn];simp [ZQP]
 rw [ZFN,e1];unfold St.upd;simp only [e2,if_true]
theorem PenS.frm {A:List (Bool × List Blk)} {L L':List Blk} {n ip tx ver la b:Nat} {cls:List AV} {its:List It} {F:List (Nat × Blk)} {keys:List Nat} {rx:Nat} {ρ:Nat->Ro} {j:Nat} (h:PenS ⟨A,false,L⟩ n ip tx ver la b cls its F keys rx ρ j) (hn:n=A.length)
 (hg:∀ i,i=ip\/(cls≠[]/\i=tx)\/i∈keys\/(∃ p∈F,i=p.1)->L'[i]?=L[i]?):PenS ⟨A,false,L'⟩ n ip tx ver la b cls its F keys rx ρ j:=by
 subst hn;obtain ⟨td,h1,h2⟩:=h.pen
 have hget:∀ i,(i=ip\/(cls≠[]/\i=tx)\/i∈keys\/(∃ p∈F,i=p.1))->St.get ⟨A,false,L'⟩ A.length i=St.get ⟨A,false,L⟩ A.length i:=fun i hi=>by rw [St.get_cur,St.get_cur,hg i hi]
 refine ⟨by simp [St.wr],⟨td,by rw [hget _ (.inl rfl)];exact h1,?_⟩,h.cl,fun p hp=>by rw [hget _ (.inr (.inr (.inr ⟨p,hp,rfl⟩)))];exact h.fx p hp,fun k hk=>by rw [hget _ (.inr (.inr (.inl hk)))];exact h.rts k hk,h.key,h.rk,h.s1,h.s2,h.s3,h.ar,h.len,h.jl⟩
 rcases h2 with q|⟨hc,q1,q2⟩
 ·exact .inl q
 ·exact .inr ⟨hc,q1,by rw [hget _ (.inr (.inl ⟨hc,rfl⟩))];exact q2⟩
theorem ZmW {e:Env} {A:List (Bool × List Blk)} {st:St} {L:List Blk} {x:Ex} {c4 c5 c6 j4 ix w4 v4 ver n:Nat} {l:List Nat} {ro:Ro} {z:Int} (hA:A=st.A++[(st.ro,st.L)]) (hx:x=.norm\/x=.ret) (h4:Jp e c4=some (.ptr A.length j4 v4 0 0)) (hg4:L[j4]?=some (.arr w4 v4 [ro.av]))
 (h5:Jp e c5=some (.ref A.length ix ver 0 n)) (hg5:L[ix]?=some (.arr 1 ver (l.map Y7))) (hn:n=l.length) (h6:Jp e c6=some (.int .i64 z)):Jf false [.c c4 true 5,.s c5,.s c6] (x,e,⟨A,false,L⟩)=some (.tup [ro.av,.lit (l.map Y7),.int .i64 z],st):=by
 refine ZC1 (v:=.tup [ro.av,.ref A.length ix ver 0 n,.int .i64 z]) hA hx ?_ (Zoz hg5 hn) rfl
 have h1:ZAt ⟨A,false,L⟩ e (.c c4 true 5)=some ro.av:=by
  simp only [ZAt,QL h4,loadP,St.get_cur,hg4,vis,ZCf,if_true,List.getElem?_cons_zero,oS];rfl
 simp only [QT,ZCy,h1,oS];simp only [ZAt,QL h5,QL h6,oS,Option.map_some,ZFQ]
theorem ZjH {st:St} {la b:Nat} {r:AR} (hA:Has st la b r) (ho:AROk r) (hg:GoodN r.nodes) {t:Tr} (hv:VE r.nodes t) (hb:t.bytes<=65536) (hn:nw t<=r.n) :
 S Tb Xp [.ptr la (b+5) 0 0 0,t.av] st=some (.tup [(wrV t r).2.1.av,.lit ((wrV t r).2.2.map Y7),.int .i64 0],Q3 st la b (wrV t r).1):=by
 refine ZCW rfl (fun A hA'=>?_)
 obtain ⟨LB,hLB⟩:∃ LB:List Blk,LB=[.arr 7 0 [t.av],.arr 5 0 [Ro.zero.av],.arr 1 0 []]:=⟨_,rfl⟩;have hle:=hA.le
 have hla:la<A.length:=by rw [hA'];simp;omega
 have h3:LB.length=3:=by rw [hLB];rfl
 obtain ⟨L2,tx,ver,cs,its,F,keys,rx,ρ,hS,hB⟩:=ZjG (L:=LB) (hA.push hA').r ho.nb ho.n16 (by have:=ho.nn;have:=ho.n16;omega) hv hb hn
 obtain ⟨ρ',hrun,hro⟩:=hB.pi.run ho hg hv hb hn
 generalize (wrV t r).1=r' at *
 generalize (wrV t r).2.2=hs at *
 generalize (wrV t r).2.1=ro at *
 have hcl:=hB.ps.cl.len
 have hk5:∀ k∈keys,5<=k:=fun k hk=>by have:=hB.klo k hk;omega
 have g1:L2[1]?=some (.arr 5 0 [Ro.zero.av]):=by rw [hB.old 1 (by omega),hLB];rfl
 have g2:L2[2]?=some (.arr 1 0 (([]:List Nat).map Y7)):=by rw [hB.old 2 (by omega),hLB];rfl
 have hps:=hB.ps;rw [h3] at hS hps;rw [hLB] at hS
 repeat' (first|refine ZE ?_|refine ZD ?_|refine ZG rfl ?_|refine Zu rfl rfl ?_|refine ZB rfl ?_|refine ZC ?_|(refine Zn rfl rfl (fun _=>?_) (fun _=>?_)<;>try (exfalso;omega))|refine ZH rfl ?_|refine Zf rfl rfl rfl ?_|refine ZBG rfl ?_|refine ZS rfl rfl rfl (Zs _) ?_|refine Zt rfl (Z9 _) (QM _) ?_|refine ZA rfl rfl (by first|rfl|(simp only [lE,lN,lC,Zd,ZX,ZW];first|done|rfl)) (hS) ?_|refine ZI ?_|refine ZQ ?_)
 all_goals try contradiction
 have hAn:A.length=st.A.length+1:=by rw [hA'];simp
 have hhl:=hrun.len
 refine Z1 (α:=Bool × Nat × AR × (Nat->Ro) × List Blk) (fun p=>match p.1 with
  | true=>[(4,.ptr A.length 1 0 0 0),(5,.ref A.length 2 p.2.1 0 p.2.1),(6,.int .i64 0),(7,.ptr A.length 4 0 0 0),(18,.bool false)]
  | false=>[(4,.ptr A.length 1 0 0 0),(5,.ref A.length 2 p.2.1 0 p.2.1),(7,.ptr A.length 4 0 0 0)])
  (fun p=>⟨(Q3 st la b p.2.2.1).ps,false,p.2.2.2.2⟩)
  (fun p=>PenS ⟨(Q3 st la b p.2.2.1).ps,false,p.2.2.2.2⟩ A.length 4 tx ver la b cs its F keys rx p.2.2.2.1 p.2.1/\AROk p.2.2.1/\RunOk (its.drop p.2.1) p.2.2.1 p.2.2.2.1 r' ρ' (hs.drop p.2.1)/\p.2.1<=its.length/\p.2.2.2.2[1]?=some (.arr 5 0 [Ro.zero.av])/\p.2.2.2.2[2]?=some (.arr 1 p.2.1 ((hs.take p.2.1).map Y7)))
  (fun p=>its.length-p.2.1) (true,0,r,ρ,L2) rfl ?_ ?_ ?_
 ·simp only [hA.same,<- hA']
 ·simp only [hA.same,<- hA']
  exact ⟨hps,ho,hrun,Nat.zero_le _,g1,g2⟩
 rintro ⟨fst,j,rj,ρj,Lj⟩ ⟨q1,q2,q3,q4,q5,q6⟩
 simp only at q1 q2 q3 q4 q5 q6
 have hHj:Has ⟨(Q3 st la b rj).ps,false,Lj⟩ la b rj:=(hA.put rj).push rfl;obtain ⟨td,t1,t2⟩:=q1.pen
 have hAl:A.length=(Q3 st la b rj).ps.length:=by rw [hAn];simp [ZQP]
 rcases Nat.lt_or_ge j its.length with hlt|hge
 ·obtain ⟨it,hit⟩:∃ it,its[j]?=some it:=⟨its[j]'hlt,by simp [hlt]⟩
  have hd:its.drop j=it::its.drop (j+1):=by
   rw [List.drop_eq_getElem_cons hlt];rw [jE hlt] at hit;rw [Option.some.inj hit]
  rw [hd] at q3;obtain ⟨hs2,e1,hn1,hx1,hk1,hr1⟩:=q3.inv
  have hdj:hs[j]?=some rj.next:=by
   have:=List.getElem?_drop (xs:=hs) (i:=j) (j:=0)
   rw [e1] at this
   simpa using this.symm
  have hd2:hs.drop (j+1)=hs2:=by
   rw [<- List.drop_drop,e1];rfl
  obtain ⟨p1,p2,p3⟩:=q1.step hHj q2 hn1 hit hx1 hk1;rw [ZmV hle rj _ hAn] at p1 p2
  have hjc:j<cs.length:=by rw [hcl];exact hlt
  have hne:cs≠[]:=fun q=>by rw [q] at hjc;simp at hjc
  rcases t2 with ⟨w,_⟩|⟨_,rfl,t3⟩
  ·exact absurd w hne
  obtain ⟨k1,_⟩:=q1.key it (jM hit);have hk5':=hk5 _ k1
  have hl4:Lj[4]?=some (.arr 3 0 [.agg [.ptr la (b+5) 0 0 0,.ref A.length tx ver j (cs.length-j),.ptr A.length rx 0 0 0]]):=by
   rw [hAl] at t1;rw [St.get_cur] at t1;rw [hAl];exact (ZAf t1).1
  obtain ⟨r2,hr2⟩:∃ r2,r2=rj.add (Q4 ρj it.c):=⟨_,rfl⟩;rw [<- hr2] at p1 p2 hr1
  have ho2:AROk r2:=by rw [hr2];exact q2.add hn1 _
  have hAl2:A.length=(Q3 st la b r2).ps.length:=by rw [hAn];simp [ZQP]
  obtain ⟨L3,hL3⟩:∃ L3,L3=(Lj.set it.rx (.arr 5 0 [((ρj it.rx).wr rj.next).av])).set 4 (.arr 3 0 [.agg [.ptr la (b+5) 0 0 0,.ref A.length tx ver (j+1) (cs.length-j-1),.ptr A.length rx 0 0 0]]):=⟨_,rfl⟩;rw [<- hL3] at p1 p2
  have h31:L3[1]?=some (.arr 5 0 [Ro.zero.av]):=by rw [hL3,jS (by omega),jS (by omega)];exact q5
  have h32:L3[2]?=some (.arr 1 j ((hs.take j).map Y7)):=by rw [hL3,jS (by omega),jS (by omega)];exact q6
  have hj2:j=((hs.take j).map Y7).length:=by simp;omega
  have hj3:∀ x:AV,((hs.take j).map Y7).length+[x].length<4294967296:=fun x=>by have:=q1.len;simp;omega
  have hinv:∀ L4,L4=L3.set 2 (.arr 1 (j+1) ((hs.take j).map Y7++[.int .u64 rj.next]))->PenS ⟨(Q3 st la b r2).ps,false,L4⟩ A.length 4 tx ver la b cs its F keys rx (ZNl ρj it.rx rj.next) (j+1)/\AROk r2/\RunOk (its.drop (j+1)) r2 (ZNl ρj it.rx rj.next) r' ρ' (hs.drop (j+1))/\j+1<=its.length/\L4[1]?=some (.arr 5 0 [Ro.zero.av])/\L4[2]?=some (.arr 1 (j+1) ((hs.take (j+1)).map Y7)):=by
   rintro L4 rfl
   refine ⟨?_,ho2,by rw [hd2];exact hr1,hlt,by rw [jS (by omega)];exact h31,?_⟩
   ·refine p2.frm hAl2 (fun i hi=>jS ?_)
    rcases hi with rfl|⟨hc,rfl⟩|q|⟨p,hp,rfl⟩
    ·omega
    ·have:=hB.tlo hc;omega
    ·have:=hk5 i q;omega
    ·have:=hB.flo p hp;omega
   ·rw [List.getElem?_set_self (List.getElem?_eq_some_iff.1 h32).1,Zi hdj,List.map_append];rfl
  obtain ⟨A2,hA2⟩:∃ A2,A2=(Q3 st la b r2).ps:=⟨_,rfl⟩;obtain ⟨A1,hA1⟩:∃ A1,A1=(Q3 st la b rj).ps:=⟨_,rfl⟩;rw [<- hA1] at p1 hAl ⊢;rw [<- hA2] at p1 hAl2;have hA12:A1.length=A2.length:=hAl.symm.trans hAl2;rw [hAl] at hl4 p1 hinv ⊢
  cases fst
  all_goals simp only
  all_goals repeat' (first|refine ZA rfl rfl rfl p1 ?_|refine ZE ?_|refine ZD ?_|refine ZG rfl ?_|refine ZO rfl rfl ?_|refine Zu rfl rfl ?_|refine ZB rfl ?_|refine ZC ?_|refine Zl rfl rfl ?_|refine Qf rfl ?_|(refine QR rfl rfl (fun _=>?_) (fun _=>?_)<;>try (exfalso;omega))|(refine Zn rfl rfl (fun _=>?_) (fun _=>?_)<;>try (exfalso;omega))|refine ZU rfl ?_|refine ZH rfl ?_|refine JG rfl rfl rfl rfl ?_|refine ZS rfl hl4 rfl rfl ?_|refine ZI ?_|refine ZQ ?_)
  all_goals try contradiction
  all_goals try (exfalso;omega)
  all_goals rw [hA12]
  all_goals repeat' (first|refine ZBi rfl rfl h32 hj2 rfl rfl (hj3 _) (by decide) ?_|refine ZG rfl ?_|refine ZB rfl ?_|refine QB ?_|refine QH ?_)
  all_goals rw [hA12,hA2] at hinv
  all_goals rw [hA2]
  all_goals exact ⟨(false,j+1,r2,ZNl ρj it.rx rj.next,_),⟨rfl,rfl⟩,hinv _ rfl,by simp only;omega⟩
 ·obtain rfl:j=its.length:=by omega
  rw [List.drop_length,<- hhl,List.drop_length] at q3;obtain ⟨_,rfl,rfl⟩:=q3.nil_inv;rw [<- hhl,List.take_length] at q6;have hRt:=ZqG q1 hcl.symm;rw [hro] at hRt;obtain ⟨A1,hA1⟩:∃ A1,A1=(Q3 st la b r').ps:=⟨_,rfl⟩;rw [<- hA1] at hRt hAl ⊢
  have hl4:∃ w,Lj[4]?=some (.arr 3 0 [.agg [.ptr la (b+5) 0 0 0,td,w]])/\(td=.nils\/∃ v,td=.ref A.length tx v its.length 0):=by
   rw [hAl,hA1,St.get_cur] at t1;refine ⟨_,(ZAf t1).1,?_⟩
   rcases t2 with ⟨_,w⟩|⟨_,w,_⟩
   ·exact .inl w
   ·refine .inr ⟨ver,?_⟩
    rw [w,hcl,Nat.sub_self]
  obtain ⟨w4,hl4,htd⟩:=hl4
  rw [<- hhl] at *
  have hl1:=(List.getElem?_eq_some_iff.1 q5).1;rw [hAl] at hRt htd ⊢
  rcases htd with rfl|⟨v,rfl⟩
  all_goals cases fst
  all_goals simp only
  all_goals repeat' (first|refine ZA rfl rfl rfl hRt ?_|refine ZE ?_|refine ZD ?_|refine ZG rfl ?_|refine ZO rfl rfl ?_|refine Zu rfl rfl ?_|refine ZB rfl ?_|refine ZC ?_|refine Zl rfl rfl ?_|refine Qf rfl ?_|refine J3 rfl ?_|(refine QR rfl rfl (fun _=>?_) (fun _=>?_)<;>try (exfalso;omega))|refine ZH rfl ?_|refine ZS rfl hl4 rfl rfl ?_|refine Zy ?_|refine Zg ?_|refine Ze rfl ?_|refine Zw ?_)
  all_goals try (exfalso;omega)
  all_goals refine JC q5 rfl rfl rfl rfl rfl ?_
  all_goals repeat' (first|refine ZE ?_|refine ZD ?_|refine ZG rfl ?_|refine ZB rfl ?_|refine ZC ?_|refine ZS rfl (List.getElem?_set_self hl1) rfl rfl ?_)
  all_goals refine JC (List.getElem?_set_self hl1) rfl rfl rfl rfl rfl ?_
  all_goals rw [List.set_set]
  all_goals repeat' (first|refine ZG rfl ?_|refine ZB rfl ?_|refine ZC ?_|refine ZP ?_|refine ZJ ?_)
  all_goals exact ZmW (ro:=ro) hA1 (.inr rfl) rfl (List.getElem?_set_self hl1) rfl ((jS (by omega)).trans q6) (by simp) rfl
end Go.Q15
namespace Go.QAbs
def TLe (T T':Tab):Prop:=∀ f x,T f=some x->T' f=some x
theorem Zb8 {T T':Tab} (h:TLe T T'):∀ n,Le (Qe T n) (Qe T' n)
 | 0=>fun _ _ _ _ q=>by simp [Qe] at q
 | n+1=>fun f _ _ _ q=>QU (fun x q=>h f x q) (fun x _ q=>by
  cases x with
  | pf pf=>exact ZI7 (Zb8 h n) (Zcd (Nat.le_refl n)) q
  | base o=>exact q) q
theorem Zpd {T T':Tab} (h:TLe T T'):Le (S T) (S T'):=fun f a st r q=>by
 obtain ⟨n,hn⟩:=S_iff.1 q;exact S_iff.2 ⟨n,Zb8 h n _ _ _ _ hn⟩
theorem ZmX:∀ (A:List (Bool × List Blk)) (r:Bool × List Blk),pop (A++[r])=some (A,r)
 | [],r=>rfl
 | [a],r=>rfl
 | a::b::A,r=>by
  have:=ZmX (b::A) r
  rw [lC,lC,pop];rw [lC] at this;rw [this];rfl
theorem ZgT (v:AV) (st:St) (ro:Bool) (L:List Blk):Jc (v,⟨st.ps,ro,L⟩)=some (v,st):=by
 simp only [Jc,ZmX,oS,ZK4]
section
variable {k:List Fr} {Q:JX} {e:Env} {st:St} {keep:List Nat} {is:List PI} {d:Nat} {T:Tab}
theorem ZmY {st':St} {f:Opd} {args:List Opd} {lv:Nat} {cs vs ws:List AV} {v:AV} (hf:Za e f=some (.func (.yield lv) [] cs)) (ha:ZFS e args=some vs) (hw:Zd (vs++cs)=ws) (hc:S T (yB+lv) ws st=some (v,st'))
 (h:Is (S T) is keep k Q ((d,v)::e) st'):Is (S T) (⟨some d,none,false,.call .norm f args⟩::is) keep k Q e st:=by
 refine Z4 (od:=some d) (v:=v) (st':=st') ?_ h;simp only [Zc,ZF hf,Yk ha,ZAC,Qt,hw,hc]
theorem ZmZ {nt:Nat} {rg:Rng} {args:List AV} {st':St} (hl:args.length=rg.ps.length+nt)
 (h:∀ A,A=st.ps->Ru (S T) rg.assign [] (fun x e s=>x=.norm/\Ru (S T) rg.body [] (fun x e s=>x=.norm/\s.A=st'.ps) e s) (ZLN rg.ps args (Qo 0 (args.drop rg.ps.length))) ⟨A,false,[]⟩):ZAw (S T) itS nt rg args st=some (.bool true,st'):=by
 obtain ⟨x,e1,s1,h1,h2⟩:=(h _ rfl).h;obtain ⟨rfl,⟨x,e2,s2,h3,h4⟩⟩:=h2;obtain ⟨rfl,h5⟩:=h4;unfold ZAw;rw [if_pos hl]
 have:st.push=⟨st.ps,false,[]⟩:=rfl
 rw [this,h1,oS];simp only [ZN6,h3,oS,ZfV];obtain ⟨A,ro,L⟩:=s2
 simp only at h5
 subst h5;exact ZgT _ _ _ _
theorem ZqI {OT:Nat->Orc} {nt:Nat} {rg:Rng} {g:FuncId} {first cap:List AV} {v:AV} {ro:Bool} {L:List Blk} {st2:St} (hg:Za e rg.g=some (.func (.func g) first cap)) (hy:g<yB)
 (hc:OT (st.A.length+1) g (Zd (first++[.func (.yield (st.A.length+1)) [] (ZLO nt e)]++cap)) ⟨st.ps,false,[]⟩=some (v,⟨st2.ps,ro,L⟩)):ZQ8 OT nt rg e st=some (.norm,e,st2):=by
 unfold ZQ8;rw [ZF hg];simp only [if_pos hy]
 have:st.push=⟨st.ps,false,[]⟩:=rfl
 rw [this,hc,oS,Zjt,ZgT,oS]
theorem s_rf {T0:Tab} {f:FuncId} {rf:RF} {args:List AV} {r:AV × St} (hT:T f=some (.base (rfO T0 rf)))
 (h:∀ A,A=st.ps->Ru (S T0) rf.pre [] (fun x e s=>(x=.ret/\Jf false rf.res (.ret,e,s)=some r)\/(x=.norm/\∃ s2,ZQ8 (fun lv=>S (ZU2 T0 lv (ZAw (S T0) itS rf.nt rf.rng))) rf.nt rf.rng e s=some (.norm,e,s2)/\Ru (S T0) rf.post [] (fun x e s=>Jf false rf.res (x,e,s)=some r) e s2)) (Qo 0 args) ⟨A,false,[]⟩):S T f args st=some r:=by
 refine ZUa (o:=rfO T0 rf) hT ?_;obtain ⟨x,e1,s1,h1,h2⟩:=(h _ rfl).h;unfold rfO rfG ZI9
 have:st.push=⟨st.ps,false,[]⟩:=rfl
 rw [this,h1,oS]
 rcases h2 with ⟨rfl,h3⟩|⟨rfl,s2,h3,⟨x,e3,s3,h5,h6⟩⟩
 ·simp only [Jy,oS];exact h3
 ·simp only [Jy,h3,oS,h5];exact h6
end
theorem Zo0 {T:Tab} (hT:∀ f x,T f=some x->f<yB) (lv:Nat) (o:List AV->St->Option (AV × St)):TLe T (ZU2 T lv o):=fun f x hx=>by
 unfold ZU2;rw [if_neg]
 ·exact hx
 ·intro q;exact Zcn (hT f x hx) q
theorem Zo1 (T:Tab) (lv:Nat) (o:List AV->St->Option (AV × St)) (args:List AV) (st:St) {r:AV × St} (h:o args st=some r):S (ZU2 T lv o) (yB+lv) args st=some r :=
 ZUa (o:=o) (by unfold ZU2;rw [if_pos rfl]) h
end Go.QAbs
namespace Go.Q15
open Go Go.QAbs
set_option maxRecDepth 100000
set_option maxHeartbeats 8000000
def QS (N:ZL) (o:Nat):Nd:=(lk N o).getD ⟨0,[],none⟩
theorem YL {N:ZL} {o:Nat} {x:Nd} (h:lk N o=some x):QS N o=x:=by unfold QS;rw [h];rfl
theorem ZgU {s:St} {l i:Nat} {b:Blk} (h:s.get l i=some b) (more:List (Bool × List Blk)) (ro:Bool) (L:List Blk):St.get ⟨s.ps++more,ro,L⟩ l i=some b:=by
 have hl:=St.get_le h;have h1:=ZV (A:=s.ps) rfl (ro:=ro) (L:=L) h;unfold St.get at h1 ⊢
 have e1:l≠s.ps.length:=by simp;omega
 have e2:l≠(s.ps++more).length:=by simp;omega
 simp only [if_neg e1,if_neg e2] at h1 ⊢
 rw [jL (by simp;omega)]
 exact h1
theorem Rd.more {s:St} {lv ix:Nat} {N:ZL} (h:Rd s lv ix N) (more:List (Bool × List Blk)) (ro:Bool) (L:List Blk):Rd ⟨s.ps++more,ro,L⟩ lv ix N:=by
 obtain ⟨a0,a1,im,a3,a4,a5,h1,h2⟩:=h;exact ⟨a0,a1,im,a3,a4,a5,ZgU h1 _ _ _,ZgU h2 _ _ _⟩
theorem ZQ2:∀ {l:List (FuncId × Ent)},(l.all fun p=>decide (p.1<yB))=true->∀ f x,Xk l f=some x->f<yB
 | [],_,f,x,h=>by simp [Xk] at h
 | p::l,ha,f,x,h=>by
  simp only [List.all_cons,Bool.and_eq_true,decide_eq_true_eq] at ha;simp only [Xk] at h
  split at h
  ·rename_i e;rw [<- e];exact ha.1
  ·exact ZQ2 ha.2 f x h
theorem Zma:∀ f x,Tb f=some x->f<yB:=ZQ2 (l:=tl) (by decide +kernel)
def RtOk (N:ZL) (r:Ro):Prop:=r=.zero\/(r.at_≠0/\∃ x,lk N r.at_=some x/\NdOk x/\x.h=r.h/\x.mea=r.m)
theorem RtOk.h13 {N:ZL} (hN:GoodN N) {r:Ro} (hr:RtOk N r):r.h<=13:=by
 rcases hr with rfl|⟨h0,x,h1,h2,h3,h4⟩
 ·decide
 ·have hv:Val N (.keep r):=.kept h0 h1 h2 h3 h4 rfl
  have hb:(Tr.keep r).bytes=r.m.b:=by simp [Tr.keep,Tr.bytes,Tr.bytesO]
  have:=h2.mea_pos
  exact hv.height hN (by rw [hb,<- h4];omega)
def ZCX (r:Ro):Tr:=if r.at_=0 then .zero else .keep r
theorem ZjI {st:St} {lv ix:Nat} {N:ZL} (hr:Rd st lv ix N) {r:Ro} (h:RtOk N r):S Tb Yo [.ptr lv ix 0 0 0,r.av] st=some (.tup [(ZCX r).av,.int .i64 0],st):=by
 unfold ZCX
 rcases h with rfl|⟨h0,x,h1,h2,h3,h4⟩
 ·rw [if_pos (by rfl)];exact Zj9
 ·rw [if_neg h0];exact Zp4 hr h1 h2 h0 h3 h4
noncomputable def t1:List (FuncId × Ent):=(ZBH,.base (rfO Tb ZLs))::tl
noncomputable def T1:Tab:=Xk t1
theorem le1:TLe Tb T1:=fun g y hg=>by
 unfold T1 t1;simp only [Xk];rw [if_neg]
 ·exact hg
 ·intro e;subst e
  have:Xk tl ZBH=none:=by decide +kernel
  unfold Tb at hg;rw [this] at hg;simp at hg
end Go.Q15
namespace Go.QAbs
theorem Zb9 {s:St} {l i:Nat} {b:Blk} (h:s.get l i=some b) (more:List (Bool × List Blk)) (ro:Bool) (L:List Blk):St.get ⟨s.ps++more,ro,L⟩ l i=some b:=by
 have hl:=St.get_le h;have h1:=ZV (A:=s.ps) rfl (ro:=ro) (L:=L) h;unfold St.get at h1 ⊢
 have e1:l≠s.ps.length:=by simp;omega
 have e2:l≠(s.ps++more).length:=by simp;omega
 simp only [if_neg e1,if_neg e2] at h1 ⊢
 rw [jL (by simp;omega)]
 exact h1
theorem Zo2 {s:St} {lv:Nat} (hl:lv<=s.A.length) (h:s.wr lv) (more:List (Bool × List Blk)) (ro:Bool) (L:List Blk):St.wr ⟨s.ps++more,ro,L⟩ lv:=by
 have h1:=Xm (A:=s.ps) rfl hl h (ro:=ro) (L:=L);unfold St.wr at h1 ⊢
 have e1:lv≠s.ps.length:=by simp;omega
 have e2:lv≠(s.ps++more).length:=by simp;omega
 simp only [if_neg e1,if_neg e2] at h1 ⊢
 rw [jL (by simp;omega)]
 exact h1
theorem Zmc {s:St} {lv ix:Nat} {b:Blk} (hl:lv<=s.A.length) (more:List (Bool × List Blk)) (ro:Bool) (L:List Blk):St.upd ⟨s.ps++more,ro,L⟩ lv ix b=⟨(s.upd lv ix b).ps++more,ro,L⟩:=by
 have h1:=Ym (A:=s.ps) (ro:=ro) (L:=L) rfl hl (ix:=ix) (b:=b);unfold St.upd at h1 ⊢
 have e1:lv≠s.ps.length:=by simp;omega
 have e2:lv≠(s.ps++more).length:=by simp;omega
 simp only [if_neg e1,if_neg e2] at h1 ⊢;simp only [St.mk.injEq,and_true] at h1 ⊢
 rw [jL (by simp;omega),List.set_append_left _ _ (by simp;omega),h1]
theorem ZcA:∀ {ks:List (Nat × Nat)} {s:St} {bs:List Blk} {more:List (Bool × List Blk)} {ro:Bool} {L:List Blk},(∀ k∈ks,k.1<=s.A.length)->Z0 ⟨s.ps++more,ro,L⟩ ks bs=⟨(Z0 s ks bs).ps++more,ro,L⟩
 | [],_,bs,_,_,_,_=>by cases bs<;>rfl
 | _::_,_,[],_,_,_,_=>rfl
 | k::ks,s,b::bs,more,ro,L,hk=>by
  rw [Z0,Zmc (hk k (by simp)),ZcA (s:=s.upd k.1 k.2 b) (fun q hq=>by rw [St.upd_A];exact hk q (by simp [hq]))]
  rfl
theorem Cl.more {s:St} {ks:List (Nat × Nat)} {bs:List Blk} (h:Cl s ks bs) (more:List (Bool × List Blk)) (ro:Bool) (L:List Blk):Cl ⟨s.ps++more,ro,L⟩ ks bs :=
 ⟨h.nd,h.len,fun k hk=>Zo2 (h.le k hk) (h.wr k hk) _ _ _,fun j lv ix b h1 h2=>Zb9 (h.get j lv ix b h1 h2) _ _ _⟩
end Go.QAbs
namespace Go.Q15
open Go Go.QAbs
set_option maxRecDepth 100000
set_option maxHeartbeats 8000000
noncomputable def t3:List (FuncId × Ent):=(ZZB,.base (rfO T1 ZJF))::(ZLX,.base (rfO T1 ZEX))::t1
noncomputable def T3:Tab:=Xk t3
theorem ZFO {l:List (FuncId × Ent)} {f:FuncId} {x:Ent} (h:Xk l f=none):TLe (Xk l) (Xk ((f,x)::l)):=fun g y hg=>by
 simp only [Xk];rw [if_neg]
 ·exact hg
 ·intro e;subst e;rw [h] at hg;simp at hg
theorem le13:TLe T1 T3:=fun g y hg=>ZFO (l:=(ZLX,.base (rfO T1 ZEX))::t1) (by decide +kernel) g y (ZFO (l:=t1) (by decide +kernel) g y hg)
theorem le3:TLe Tb T3:=fun g y hg=>le13 g y (le1 g y hg)
theorem ZkU (l:List (List UInt8)):Q6 1 (l.map AV.str)=true:=by
 induction l with
 | nil=>rfl
 | cons b s ih=>rw [jC,Q6,List.all_cons];exact Bool.and_eq_true_iff.2 ⟨rfl,ih⟩
theorem ZkV (n b:Nat) (st:St) (l:List (List UInt8)):mapSt (ZY (n+1) b) st (l.map AV.str)=some (l.map AV.str,st):=by
 induction l with
 | nil=>rfl
 | cons x s ih =>
  rw [jC,mapSt]
  show ((some (AV.str x,st)).bind fun r=>(mapSt (ZY (n+1) b) r.2 (s.map AV.str)).bind (YY r.1))=_
  rw [oS,ih];rfl
def ZgV (r:AR) (o:Nat):Prop:=ZBf o/\r.states[o % 65536]?=some 1/\r.gens[o % 65536]?=some ((o / 65536:Nat):Int)
instance (r:AR) (o:Nat):Decidable (ZgV r o):=by unfold ZgV;exact inferInstance
theorem ZgW:∀ l:List Tr,(∀ t∈l,4*(t.cnt:Int)+4<=t.bytes)->4*(Tr.cntL l:Int)+4*l.length<=Tr.bytesL l
 | [],_=>by simp [Tr.cntL,Tr.bytesL]
 | t::l,h=>by
  have h1:=h t (by simp)
  have h2:=ZgW l fun u hu=>h u (by simp [hu])
  simp only [Tr.cntL,Tr.bytesL,List.length_cons];omega
theorem Zmd {N:ZL} (hN:GoodN N) {t:Tr} (hv:Val N t):(t.cnt:Int)<=t.bytes/\(Big t->4*(t.cnt:Int)+4<=t.bytes):=by
 have hsz:=hv.size hN;have hps:=hv.pos.2
 induction hv with
 | @kept o h m k x h0 hx hok hh hm hk =>
  have ec:(Tr.mk o h m [] k).cnt=0:=by rw [Tr.cnt,Tr.cntO_getD,hk,if_neg h0];rfl
  have hl:h<=16:=by
   rcases hok with q|⟨n,ks,q⟩
   ·rw [<- hh,q.h];omega
   ·have:=q.n15;have e:=q.eq;subst e;simp only at hh;omega
  rw [ec]
  refine ⟨by omega,fun q=>?_⟩
  have h1:=hsz q;have h2:=(ZIR hl).1;simp only [Tr.h] at h1;omega
 | @leaf s k h1 h2 hk =>
  have ec:(Tr.mk 0 0 .zero s k).cnt=1:=by rw [Tr.cnt,Tr.cntO_getD,hk];rfl
  rw [ec]
  refine ⟨by omega,fun q=>?_⟩
  have:=q rfl
  omega
 | @inner h l hh h2 h4 hl hb hv ih =>
  have ec:(Tr.mk 0 (h+1) .zero [] (some l)).cnt=Tr.cntL l+1:=by rw [Tr.cnt,Tr.cntO];simp;omega
  have eb:(Tr.mk 0 (h+1) .zero [] (some l)).bytes=Tr.bytesL l:=by rw [Tr.bytes,Tr.bytesO];simp [Mea.zero]
  have:=ZgW l fun u hu=>(ih u hu ((hv u hu).size hN) (hv u hu).pos.2).2 (fun q=>hb u hu (by rw [<- hl u hu];exact q))
  rw [ec,eb]
  exact ⟨by omega,fun _=>by omega⟩
theorem Zqu {N:ZL} (hN:GoodN N) {t:Tr} (hv:VE N t):(nw t:Int)<=t.bytes:=by
 rcases hv with he|hv
 ·unfold nw;rw [if_pos ⟨he.old,he.h,he.text⟩,he.bytes];decide
 ·rw [ZQT hv];exact (Zmd hN hv).1
theorem Zh4 {A:List (Bool × List Blk)} {L:List Blk} {la b:Nat} {r:AR} (hA:HasR ⟨A,false,L⟩ la b r) (hN:r.n<=r.blk.length) (h16:r.states.length<=16384) (h6:r.n<65536) {t:Tr} (hg:GoodN r.nodes) (hv:VE r.nodes t) (hb:t.bytes<=65536) (hn:r.n<nw t) :
 S Tb Yz [.ptr la (b+5) 0 0 0,t.av] ⟨A,false,L⟩=some (.tup [.nilptr,.int .i64 6],⟨A,false,L++[.arr 7 0 [t.av]]⟩):=by
 have hv:Val r.nodes t:=by
  rcases hv with he|hv
  ·unfold nw at hn;rw [if_pos ⟨he.old,he.h,he.text⟩] at hn;omega
  ·exact hv
 rw [ZQT hv] at hn;have hcb:=(Zmd hg hv).1
 have hCk:=fun T=>ZQJ (hA.app T).rd hv hb
 have hNw:=fun st=>Zpb hv (by omega) st
 have hSt:=fun T=>ZeW (hA.app T) hN h16 h6
 unfold AR.statsAV at hSt;refine Xl rfl ?_
 have e0:(⟨A,false,L⟩:St)=⟨A,false,L++[]⟩:=by rw [lN]
 rw [e0]
 repeat' (first|refine Y4 rfl (Z9 _) (QM _) rfl rfl ?_|refine X8 rfl rfl rfl (Zs _) ?_|refine ZE ?_|refine ZD ?_|refine ZG rfl ?_|refine ZB rfl ?_|refine ZC ?_|refine ZU7 (agg:=false) rfl rfl ?_|(refine QR rfl rfl (fun _=>?_) (fun _=>?_)<;>try (exfalso;omega))|(refine Zn rfl rfl (fun _=>?_) (fun _=>?_)<;>try (exfalso;omega))|refine ZU rfl ?_|refine ZH rfl ?_|refine ZA rfl rfl (by first|rfl|(simp only [lE,lN,lC,Zd,ZX,ZW];first|done|rfl)) (hCk _) ?_|refine ZA rfl rfl (by first|rfl|(simp only [lE,lN,lC,Zd,ZX,ZW];first|done|rfl)) (hNw _) ?_|refine ZA rfl rfl (by first|rfl|(simp only [lE,lN,lC,Zd,ZX,ZW];first|done|rfl)) (hSt _) ?_|refine ZI ?_|refine ZP ?_|refine ZJ ?_|refine ZZ ?_)
 all_goals try (exfalso;omega)
 refine (Jv (.inr rfl) rfl rfl rfl rfl).trans ?_;rfl
theorem Zh5 {st:St} {la b:Nat} {r:AR} (hA:Has st la b r) (ho:AROk r) (hg:GoodN r.nodes) {t:Tr} (hv:VE r.nodes t) (hb:t.bytes<=65536) (hn:r.n<nw t) :
 S Tb Xp [.ptr la (b+5) 0 0 0,t.av] st=some (.tup [Ro.zero.av,.lit [],.int .i64 6],st):=by
 refine ZCW rfl (fun A hA'=>?_)
 have hS:=fun L=>Zh4 (L:=L) (hA.push hA').r ho.nb ho.n16 (by have:=ho.nn;have:=ho.n16;omega) hg hv hb hn
 repeat' (first|refine ZE ?_|refine ZD ?_|refine ZG rfl ?_|refine Zu rfl rfl ?_|refine ZB rfl ?_|refine ZC ?_|(refine Zn rfl rfl (fun _=>?_) (fun _=>?_)<;>try (exfalso;omega))|refine ZU rfl ?_|refine Zq rfl rfl rfl ?_|refine Zf rfl rfl rfl ?_|refine Z5 rfl rfl rfl rfl rfl rfl ?_|refine ZBG rfl ?_|refine ZS rfl rfl rfl (Zs _) ?_|refine Zt rfl (Z9 _) (QM _) ?_|refine ZA rfl rfl (by first|rfl|(simp only [lE,lN,lC,Zd,ZX,ZW];first|done|rfl)) (hS _) ?_|refine ZP ?_|refine ZJ ?_|refine ZZ ?_)
 all_goals try contradiction
 all_goals try (exfalso;omega)
 exact ZmW (ro:=.zero) (l:=[]) hA' (.inr rfl) rfl rfl rfl rfl rfl rfl
theorem ZgX {x:List UInt8} {l:List (List UInt8)} {i:Nat} (h:l[i]?=some x):(l.take (i+1)).flatten=(l.take i).flatten++x:=by
 rw [List.take_add_one,h];simp
theorem ZUL (l:List (List UInt8)) (i:Nat):(l.take i).flatten.length<=l.flatten.length:=by
 have:=congrArg List.length (congrArg List.flatten (List.take_append_drop i l))
 rw [List.flatten_append,lL] at this;omega
theorem PI.ok {r:AR} (ho:AROk r) (hg:GoodN r.nodes) {t:Tr} (hv:VE r.nodes t) (hb:t.bytes<=65536) (hn:nw t<=r.n) {its:List It} {rx:Nat} {ρ:Nat->Ro} (h:PI t its rx ρ) :
 WrB r (nw t) (wrV t r).1 (wrV t r).2.2/\(IsEmpty t/\(wrV t r).2.1=.zero\/Val r.nodes t/\WrOk r.nodes t (wrV t r).1 (wrV t r).2.1):=by
 rcases h with ⟨h1,_,h2⟩|⟨⟨M,hM⟩,R,h1,h2,h3⟩
 ·have e:nw t=0:=by unfold nw;rw [if_pos ⟨h1.old,h1.h,h1.text⟩]
  rw [Zb7 h1,e];exact ⟨.refl ho hg,.inl ⟨h1,rfl⟩⟩
 ·rcases hv with hv|hv
  ·exact absurd hv hM.not_empty
  ·rw [ZjF hv,ZQT hv]
   rw [ZQT hv] at hn;obtain ⟨ρ',a1,a2,a3,a4,a5⟩:=exec_ok hg hv hb r ho hg (.refl _) hn rx its R ρ h1 h2 h3;exact ⟨a4,.inr ⟨hv,a5⟩⟩
theorem Zqv {st:St} {la b:Nat} {r:AR} (hA:Has st la b r) (ho:AROk r) (hg:GoodN r.nodes) {t:Tr} (hv:VE r.nodes t) (hb:t.bytes<=65536) (hn:nw t<=r.n) :
 WrB r (nw t) (wrV t r).1 (wrV t r).2.2/\(IsEmpty t/\(wrV t r).2.1=.zero\/Val r.nodes t/\WrOk r.nodes t (wrV t r).1 (wrV t r).2.1):=by
 obtain ⟨L2,tx,ver,cs,its,F,keys,rx,ρ,hS,hB⟩:=ZjG (L:=[]) (hA.push rfl).r ho.nb ho.n16 (by have:=ho.nn;have:=ho.n16;omega) hv hb hn
 exact hB.pi.ok ho hg hv hb hn
def ZID (N:ZL) (r:Ro):List UInt8:=if r.at_=0 then [] else QI N r.h r.at_
structure Rt (N:ZL) (r:Ro) (s:List UInt8):Prop where
 rt:RtOk N r
 tx:ZID N r=s
theorem RtOk.ext {N M:ZL} (hE:Ext N M) {r:Ro} (h:RtOk N r):RtOk M r:=h.imp id fun ⟨h0,x,h1,h2⟩=>⟨h0,x,hE _ _ h1,h2⟩
theorem Rt.ext {N M:ZL} (hN:GoodN N) (hE:Ext N M) {r:Ro} {s:List UInt8} (h:Rt N r s):Rt M r s:=by
 refine ⟨h.rt.ext hE,?_⟩;rw [<- h.tx];unfold ZID
 split
 ·rfl
 ·rename_i q
  rcases h.rt with e|⟨_,x,h1,_,h2,_⟩
  ·rw [e] at q;exact absurd rfl q
  ·exact ZIc hN hE _ _ x h1 h2
theorem Rt.zero (N:ZL):Rt N .zero []:=⟨.inl rfl,rfl⟩
theorem Rt.m {N:ZL} (hN:GoodN N) {r:Ro} {s:List UInt8} (h:Rt N r s):r.m=Qk s:=by
 obtain ⟨h,rfl⟩:=h;unfold ZID
 rcases h with rfl|⟨h0,x,h1,h2,h3,h4⟩
 ·rfl
 ·rw [if_neg h0,ZAW hN _ _ x h1 h3,h4]
theorem Rt.wr {r:AR} (ho:AROk r) {N:ZL} {t:Tr} {ro:Ro} (h:WrOk N t r ro):Rt r.nodes ro (t.txt N):=by
 obtain ⟨y,h1,h2,h3,h4⟩:=h.live;have h0:=(ho.hnd h1).2
 refine ⟨.inr ⟨h0,y,h1,h2,by rw [h3,h.rh],by rw [h4,h.rm]⟩,?_⟩
 unfold ZID;rw [if_neg h0,h.rh,h.txt]
theorem Rt.keep {N:ZL} {r:Ro} {s:List UInt8} (h:Rt N r s):VE N (ZCX r)/\(ZCX r).txt N=s:=by
 obtain ⟨h,rfl⟩:=h;unfold ZID ZCX
 rcases h with rfl|⟨h0,x,h1,h2,h3,h4⟩
 ·rw [if_pos (by rfl),if_pos (by rfl)];exact ⟨.inl zero_empty,rfl⟩
 ·rw [if_neg h0,if_neg h0]
  exact ⟨.inr (.kept h0 h1 h2 h3 h4 rfl),by rw [Tr.keep,Tr.txt,if_neg h0];simp [Tr.txtO]⟩
theorem Rt.b {N:ZL} (hN:GoodN N) {r:Ro} {s:List UInt8} (h:Rt N r s):(ZCX r).bytes=s.length/\r.m.b=s.length:=by
 have h1:=h.keep;have h2:=h1.1.len hN;rw [h1.2] at h2
 exact ⟨h2.symm,by rw [h.m hN];rfl⟩
theorem ZjJ {st:St} {la b:Nat} {r:AR} (hA:Has st la b r) (ho:AROk r) (hg:GoodN r.nodes) {t:Tr} (hv:VE r.nodes t) (hb:t.bytes<=65536) (hn:nw t<=r.n) :
 WrB r (nw t) (wrV t r).1 (wrV t r).2.2/\Rt (wrV t r).1.nodes (wrV t r).2.1 (t.txt r.nodes):=by
 obtain ⟨h1,h2⟩:=Zqv hA ho hg hv hb hn;refine ⟨h1,?_⟩
 rcases h2 with ⟨he,h2⟩|⟨hv,h2⟩
 ·rw [h2,he.txt];exact .zero _
 ·exact .wr h1.ok h2
theorem ZFP (A:List (Bool × List Blk)) (L0 T:List Blk) (r:AR):Has ⟨A,false,L0++(arB A.length L0.length r++T)⟩ A.length L0.length r:=by
 have h:∀ i b,(arB A.length L0.length r++T)[i]?=some b->vis (some b)=some b->St.get ⟨A,false,L0++(arB A.length L0.length r++T)⟩ A.length (L0.length+i)=some b:=by
  intro i b hb hv;rw [St.get_cur,Qr,hb,hv]
 exact ⟨by simp [St.wr],h 0 _ rfl rfl,h 1 _ rfl rfl,h 2 _ rfl rfl,h 3 _ rfl rfl,h 4 _ rfl rfl,h 5 _ rfl rfl⟩
theorem ZYf (A:List (Bool × List Blk)) (L0 T:List Blk) (r r':AR):Q3 ⟨A,false,L0++(arB A.length L0.length r++T)⟩ A.length L0.length r'=⟨A,false,L0++(arB A.length L0.length r'++T)⟩:=by
 have h:∀ (X:List Blk) (i:Nat) (b:Blk),St.upd ⟨A,false,L0++X⟩ A.length (L0.length+i) b=⟨A,false,L0++X.set i b⟩:=fun X i b=>by
  unfold St.upd;simp only [if_true,ZNd]
 have h0:∀ (X:List Blk) (b:Blk),St.upd ⟨A,false,L0++X⟩ A.length L0.length b=⟨A,false,L0++X.set 0 b⟩:=fun X b=>h X 0 b
 simp only [Q3,arK,arB,Z0,h,h0];rfl
theorem ZqJ {e:Env} {A:List (Bool × List Blk)} {st:St} {L:List Blk} {x:Ex} {c4 c5 j4 w4 v4:Nat} {ro:Ro} {z:Int} (hA:A=st.A++[(st.ro,st.L)]) (hx:x=.norm\/x=.ret) (h4:Jp e c4=some (.ptr A.length j4 v4 0 0)) (hg4:L[j4]?=some (.arr w4 v4 [ro.av]))
 (h6:Jp e c5=some (.int .i64 z)):Jf false [.c c4 true 5,.s c5] (x,e,⟨A,false,L⟩)=some (.tup [ro.av,.int .i64 z],st):=by
 refine ZC1 (v:=.tup [ro.av,.int .i64 z]) hA hx ?_ (L':=L) rfl rfl
 have h1:ZAt ⟨A,false,L⟩ e (.c c4 true 5)=some ro.av:=by
  simp only [ZAt,QL h4,loadP,St.get_cur,hg4,vis,ZCf,if_true,List.getElem?_cons_zero,oS];rfl
 simp only [QT,ZCy,h1,oS];simp only [ZAt,QL h6,oS,Option.map_some,ZFQ]
theorem ZjK {st:St} {la b:Nat} {r:AR} (hA:Has st la b r) (ho:AROk r) (hg:GoodN r.nodes) (s:List UInt8) (hs:s.length<=65536) (hn:nw (Qx s)<=r.n) :
 S Tb ZB2 [.ptr la (b+5) 0 0 0,.str s] st=some (.tup [(wrV (Qx s) r).2.1.av,.int .i64 0],Q3 st la b (wrV (Qx s) r).1):=by
 obtain ⟨b1,b2,b3⟩:=Xh hg hs
 refine ZCW rfl (fun A hA'=>?_)
 have hB:=fun L=>ZeT hg s hs ⟨A,false,L⟩
 have hle:=hA.le
 have hW:=fun L=>ZjH (st:=⟨A,false,L⟩) (hA.push hA') ho hg b1 (by rw [b3];omega) hn
 simp only [ZIb hA' hle] at hW
 generalize (wrV (Qx s) r).1=r' at *
 generalize (wrV (Qx s) r).2.1=ro at *
 repeat' (first|refine ZE ?_|refine ZD ?_|refine ZG rfl ?_|refine Zu rfl rfl ?_|refine ZB rfl ?_|refine ZC ?_|(refine Zn rfl rfl (fun _=>?_) (fun _=>?_)<;>try (exfalso;omega))|refine ZH rfl ?_|refine JB rfl rfl rfl rfl ?_|refine Zf rfl rfl rfl ?_|refine ZS rfl rfl rfl (Zs _) ?_|refine Z5 rfl rfl rfl (Qb _ _ _) (JS _ _) rfl ?_|refine ZA rfl rfl (by first|rfl|(simp only [lE,lN,lC,Zd,ZX,ZW];first|done|rfl)) (hB _) ?_|refine ZI ?_)
 all_goals try contradiction
 all_goals try (exfalso;omega)
 obtain ⟨A2,hA2⟩:∃ A2,A2=(Q3 st la b r').ps:=⟨_,rfl⟩;simp only [<- hA2] at hW
 have hAl:A.length=A2.length:=by rw [hA',hA2];simp [St.ps,ZQP]
 refine ZA rfl rfl (Zqr rfl _) (hW _) ?_;rw [hAl]
 repeat' (first|refine JC rfl rfl rfl rfl rfl rfl ?_|refine ZS rfl rfl rfl rfl ?_|refine ZE ?_|refine ZD ?_|refine ZG rfl ?_|refine Zu rfl rfl ?_|refine ZB rfl ?_|refine ZC ?_|refine Zf rfl rfl rfl ?_|refine ZP ?_|refine ZJ ?_)
 exact ZqJ hA2 (.inr rfl) rfl rfl rfl
theorem ZYg (n g:Nat) (hn:n<=16384) (hg:1<=g/\g<=4294967295):AROk (JA n g):=by
 have hb:∀ i,i<n->(JA n g).blk[i]?=some ((n:Int)-1-i):=fun i hi=>by simp [JA,hi]
 refine ⟨by simp [JA],by simp [JA];exact hn,by simp [JA],by simp [JA],fun i hi=>⟨n-1-i,?_,?_,?_⟩,fun i j hi hj q=>?_,fun s hs=>⟨1,?_,by omega,?_⟩,?_,fun h x hx=>?_,?_,?_,?_⟩
 ·have hi':i<n:=hi
  rw [hb i hi'];congr 1
  show (n:Int)-1-i=((n-1-i:Nat):Int)
  omega
 ·have hi':i<n:=hi
  show n-1-i<(List.replicate n (0:Int)).length
  rw [List.length_replicate];omega
 ·have hi':i<n:=hi
  show (List.replicate n (0:Int))[n-1-i]?=some 0
  rw [List.getElem?_replicate,if_pos (by omega)]
 ·have hi':i<n:=hi
  have hj':j<n:=hj;rw [hb i hi',hb j hj'] at q
  have:=Option.some.inj q
  omega
 ·have hs':s<n:=by simpa [JA] using hs
  simp [JA,hs']
 ·show ((1:Nat):Int)<=(g:Int);omega
 ·show (g:Int)<=_;omega
 ·simp [JA,lk] at hx
 ·simp [JA]
 ·simp [JA]
 ·simp [JA];omega
noncomputable def ZgZ (p:AR × List Ro) (s:List UInt8):AR × List Ro:=((wrV (Qx s) p.1).1,p.2++[(wrV (Qx s) p.1).2.1])
noncomputable def XA (texts:List (List UInt8)):AR × List Ro:=texts.foldl ZgZ (JA 1500 3,[])
theorem ZKy (l:List (List UInt8)) (s:List UInt8):XA (l++[s])=ZgZ (XA l) s:=by unfold XA;rw [List.foldl_append];rfl
def Rts (N:ZL) (ros:List Ro) (ss:List (List UInt8)):Prop:=ros.length=ss.length/\∀ (i:Nat) (ro:Ro) (s:List UInt8),ros[i]?=some ro->ss[i]?=some s->Rt N ro s
theorem Rts.ext {N M:ZL} (hN:GoodN N) (hE:Ext N M) {ros:List Ro} {ss:List (List UInt8)} (h:Rts N ros ss):Rts M ros ss:=⟨h.1,fun i ro s h1 h2=>(h.2 i ro s h1 h2).ext hN hE⟩
theorem Rts.snoc {N:ZL} {ros:List Ro} {ss:List (List UInt8)} (h:Rts N ros ss) {ro:Ro} {s:List UInt8} (g:Rt N ro s):Rts N (ros++[ro]) (ss++[s]):=by
 refine ⟨by simp [h.1],fun i r t h1 h2=>?_⟩
 rcases Nat.lt_or_ge i ros.length with q|q
 ·rw [jL q] at h1
  rw [jL (by rw [<- h.1];exact q)] at h2
  exact h.2 i r t h1 h2
 ·rw [List.getElem?_append_right q] at h1
  rw [List.getElem?_append_right (by rw [<- h.1];exact q)] at h2
  rw [<- h.1] at h2
  match hk:i-ros.length with
  | 0=>rw [hk] at h1 h2;obtain rfl:=Option.some.inj h1;obtain rfl:=Option.some.inj h2;exact g
  | n+1=>rw [hk] at h1;simp at h1
structure LaidOk (texts:List (List UInt8)) (p:AR × List Ro):Prop where
 ok:AROk p.1
 good:GoodN p.1.nodes
 rts:Rts p.1.nodes p.2 texts
 room:1500<=p.1.n+texts.flatten.length
theorem ZYh {l:List (List UInt8)} {p:AR × List Ro} {s:List UInt8} (h:LaidOk l p) (hl:(l++[s]).flatten.length<=900):nw (Qx s)<=p.1.n/\LaidOk (l++[s]) (ZgZ p s):=by
 have hfl:(l++[s]).flatten.length=l.flatten.length+s.length:=by simp
 have hr:=h.room
 have hs:s.length<=65536:=by omega
 obtain ⟨b1,b2,b3⟩:=Xh h.good hs;have hw:=Zqu h.good b1;rw [b3] at hw
 have hn:nw (Qx s)<=p.1.n:=by omega
 obtain ⟨w1,w2⟩:=ZjJ (ZFP [] [] [] p.1) h.ok h.good b1 (by rw [b3];omega) hn
 rw [b2] at w2;refine ⟨hn,w1.ok,w1.good,(h.rts.ext h.good w1.ext).snoc w2,?_⟩
 have:=w1.n
 show 1500<=(wrV (Qx s) p.1).1.n+_
 omega
theorem ZYi (texts:List (List UInt8)) (hl:texts.flatten.length<=900):∀ i,i<=texts.length->LaidOk (texts.take i) (XA (texts.take i)):=by
 intro i
 induction i with
 | zero=>intro _;exact ⟨ZYg 1500 3 (by omega) (by omega),ZNf,⟨rfl,fun i ro s h=>by simp [XA] at h⟩,by simp [XA,JA]⟩
 | succ i ih =>
  intro hi
  obtain ⟨s,hs⟩:∃ s,texts[i]?=some s:=⟨texts[i]'(by omega),by simp [show i<texts.length by omega]⟩
  rw [Zi hs,ZKy]
  refine (ZYh (ih (by omega)) ?_).2
  rw [<- Zi hs]
  have:=ZUL texts (i+1)
  omega
def ZDE (l:List Ro):List Blk:=l.map fun r=>Blk.arr 5 0 [r.av]
theorem ZqK (texts:List (List UInt8)) (hl:texts.flatten.length<=900) (h4:texts.length<=4) (A:List (Bool × List Blk)) (L0:List Blk) :
 S Tb YH [.lit (texts.map .str)] ⟨A,false,L0⟩=some (.tup [.ptr A.length (L0.length+5) 0 0 0,.ref A.length (L0.length+6) texts.length 0 texts.length,.bool true],⟨A,false,L0++(arB A.length L0.length (XA texts).1++(.arr 5 texts.length ((XA texts).2.map Ro.av)::ZDE (XA texts).2))⟩):=by
 refine Xl rfl ?_
 have hN:=ZjA 1500 3 (by omega) (by omega) A L0
 repeat' (first|refine ZgI ?_|refine ZE ?_|refine ZD ?_|refine ZG rfl ?_|refine QF rfl ?_|refine Zm rfl rfl rfl rfl ?_|refine Zu rfl rfl ?_|refine ZB rfl ?_|refine ZC ?_|(refine Zn rfl rfl (fun _=>?_) (fun _=>?_)<;>try (exfalso;omega))|refine ZH rfl ?_|refine JB rfl rfl rfl rfl ?_|refine ZA rfl rfl rfl (hN) ?_|refine ZI ?_|refine ZQ ?_)
 all_goals try contradiction
 have e7:(L0++[(JA 1500 3).b0,(JA 1500 3).b1,(JA 1500 3).b2,(JA 1500 3).b3 A.length L0.length,(JA 1500 3).b4,(JA 1500 3).b5 A.length L0.length]).length=L0.length+6:=by simp
 rw [e7]
 refine Z1 (α:=Nat) (fun i=>[(0,.lit (texts.map .str)),(5,.ptr A.length (L0.length+5) 0 0 0),(7,.ref A.length (L0.length+6) i 0 i),(8,.int .i64 i)])
  (fun i=>⟨A,false,L0++(arB A.length L0.length (XA (texts.take i)).1++(.arr 5 i ((XA (texts.take i)).2.map Ro.av)::ZDE (XA (texts.take i)).2))⟩) (fun i=>i<=texts.length) (fun i=>texts.length-i) 0 rfl ?_ (by simp) ?_
 ·rw [List.append_assoc];rfl
 rintro i hi
 have hok:=ZYi texts hl i hi
 rcases Nat.lt_or_ge i texts.length with hlt|hge
 ·obtain ⟨s,hs⟩:∃ s,texts[i]?=some s:=⟨texts[i]'(by omega),by simp [show i<texts.length by omega]⟩
  have hfl:=ZUL texts (i+1)
  have htk:(texts.take i++[s]).flatten.length<=900:=by rw [<- Zi hs];omega
  obtain ⟨hn,hok2⟩:=ZYh hok htk
  have h1:=ZjK (ZFP A L0 (.arr 5 i ((XA (texts.take i)).2.map Ro.av)::ZDE (XA (texts.take i)).2) (XA (texts.take i)).1) hok.ok hok.good s (by simp at htk;omega) hn
  rw [ZYf] at h1
  have hV:XA (texts.take (i+1))=ZgZ (XA (texts.take i)) s:=by rw [Zi hs,ZKy]
  unfold ZgZ at hV;have hri:=hok.rts.1;rw [List.length_take,Nat.min_eq_left hi] at hri
  generalize XA (texts.take i)=V at *
  generalize wrV (Qx s) V.1=W at *
  have hx:0<=((i:Nat):Int)/\texts[((i:Nat):Int).toNat]?=some s:=⟨by omega,by rw [show ((i:Nat):Int).toNat=i by omega];exact hs⟩
  obtain ⟨L1,hL1⟩:∃ L1,L1=L0++(arB A.length L0.length W.1++Blk.arr 5 i (List.map Ro.av V.2)::ZDE V.2):=⟨_,rfl⟩;rw [<- hL1] at h1
  have g6:L1[L0.length+6]?=some (.arr 5 i (V.2.map Ro.av)):=by rw [hL1,Qr];rfl
  repeat' (first|refine Y5 rfl rfl hx (fun _=>rfl) ?_|refine ZE ?_|refine ZD ?_|refine ZG rfl ?_|refine Zu rfl rfl ?_|refine ZB rfl ?_|refine ZC ?_|refine QO rfl ?_|refine QY rfl rfl rfl ?_|refine Qg rfl rfl ?_|(refine Zk rfl rfl (fun _=>?_) (fun _=>?_)<;>try (exfalso;omega))|(refine Zn rfl rfl (fun _=>?_) (fun _=>?_)<;>try (exfalso;omega))|refine ZU rfl ?_|refine ZH rfl ?_|refine Zt rfl rfl rfl ?_|refine Q1 rfl rfl rfl rfl rfl rfl ?_|refine JG rfl rfl rfl rfl ?_|refine ZA rfl rfl rfl (h1) ?_|refine ZI ?_|refine ZQ ?_)
  all_goals try contradiction
  all_goals try (exfalso;omega)
  have h6l:L0.length+6<L1.length:=(List.getElem?_eq_some_iff.1 g6).1
  refine ZBi (es:=V.2.map Ro.av) (ys:=[W.2.1.av]) rfl rfl (X9 g6) (by rw [List.length_map];omega) rfl rfl (by rw [List.length_map,List.length_singleton];omega) (by decide) ?_
  repeat' (first|refine ZD ?_|refine ZG rfl ?_|refine ZB rfl ?_|refine ZC ?_|refine Zo rfl rfl (by omega) ?_|refine QB ?_|refine QH ?_)
  refine ⟨i+1,⟨rfl,?_⟩,by omega,by omega⟩
  simp only [hV];rw [hL1,List.append_assoc,ZNd]
  have e8:((V.2++[W.2.1]).map Ro.av)=V.2.map Ro.av++[W.2.1.av]:=by rw [List.map_append];rfl
  have e9:ZDE (V.2++[W.2.1])=ZDE V.2++[.arr 5 0 [W.2.1.av]]:=by unfold ZDE;rw [List.map_append];rfl
  rw [e8,e9];rfl
 ·obtain rfl:i=texts.length:=by omega
  rw [List.take_length]
  repeat' (first|refine ZE ?_|refine ZD ?_|refine ZG rfl ?_|refine ZB rfl ?_|refine ZC ?_|refine QO rfl ?_|(refine Zk rfl rfl (fun _=>?_) (fun _=>?_)<;>try (exfalso;omega))|refine ZH rfl ?_|refine ZP ?_|refine Zy ?_|refine ZJ ?_|refine Zg ?_|refine Ze rfl ?_|refine Zw ?_)
  refine (Jv (.inr rfl) rfl rfl rfl rfl).trans ?_;rfl
def JH (x n:Int):Int:=(x % 18446744073709551616) % (n+1)
theorem Qs {x n:Int} (h:0<=n):0<=JH x n/\JH x n<=n:=by
 unfold JH
 have:=Int.emod_nonneg (x % 18446744073709551616) (show n+1≠0 by omega)
 have:=Int.emod_lt_of_pos (x % 18446744073709551616) (show 0<n+1 by omega)
 omega
theorem Zpe (x:Int):IntKind.u64.wrap x=x % 18446744073709551616:=by
 have e1:IntKind.u64.signed=false:=rfl;have e2:IntKind.u64.bits=64:=rfl;simp only [IntKind.wrap,e1,e2,Bool.false_and,if_false,jB];rfl
theorem ZD0 (k:Option (List Tr)):(Tr.ownO k).getD []=(k.getD []).map Tr.own:=by
 cases k with
 | none=>rfl
 | some l=>simp [Tr.ownO,Tr.ownL_map]
theorem Zqw (t:Tr):t.own.h=t.h:=by cases t;rfl
theorem ZId (t:Tr):t.own.bytes=t.bytes:=by
 induction t using Tr.ind with
 | step o h m s k ih =>
  rw [Tr.own,Tr.bytes,Tr.bytes,Tr.bytesO_getD,Tr.bytesO_getD,ZD0];generalize k.getD []=l at ih
  congr 1
  induction l with
  | nil=>rfl
  | cons a l ih2=>rw [jC,Tr.bytesL,Tr.bytesL,ih a (by simp),ih2 (fun t ht=>ih t (by simp [ht]))]
theorem Zo4 {N:ZL} {t:Tr} (hv:Val N t):Val N t.own:=by
 induction hv with
 | kept h0 hx hok hh hm hk =>
  rw [Tr.own]
  exact .kept h0 hx hok hh hm (by rw [ZD0,hk];rfl)
 | leaf h1 h2 hk =>
  rw [Tr.own]
  exact .leaf h1 h2 (by rw [ZD0,hk];rfl)
 | inner hh h2 h4 hl hb hv ih =>
  rename_i h l
  rw [Tr.own,Tr.ownO,Tr.ownL_map]
  refine .inner hh (by rw [List.length_map];exact h2) (by rw [List.length_map];exact h4) ?_ ?_ ?_
  ·intro t ht
   obtain ⟨u,hu,rfl⟩:=List.mem_map.1 ht;rw [Zqw];exact hl u hu
  ·intro t ht q
   obtain ⟨u,hu,rfl⟩:=List.mem_map.1 ht;rw [ZId];exact hb u hu q
  ·intro t ht
   obtain ⟨u,hu,rfl⟩:=List.mem_map.1 ht;exact ih u hu
theorem Zme {N:ZL} {t:Tr} (h:VE N t):VE N t.own:=by
 rcases h with h|h
 ·obtain ⟨o,h',m,s,k⟩:=t
  obtain ⟨h1,h2,h3,h4,h5⟩:=h
  exact .inl ⟨h1,h2,h3,h4,by show (Tr.ownO k).getD []=[];rw [ZD0];simp only [Tr.ks] at h5;rw [h5];rfl⟩
 ·exact .inr (Zo4 h)
theorem Zef (x n:Int) (h0:0<=n) (h1:n<4611686018427387904) (st:St):S Tb JM [.int .i64 x,.int .i64 n] st=some (.int .i64 (JH x n),st):=by
 have hp:=Qs (x:=x) h0
 have hw:IntKind.u64.wrap (n+1)=n+1:=by rw [Zpe];omega
 have hx:=Int.emod_nonneg x (show (18446744073709551616:Int)≠0 by decide)
 have hrem:ZD8 .rem (.int .u64 (IntKind.u64.wrap x)) (.int .u64 (n+1))=some (.int .u64 (JH x n)):=by
  rw [Zpe]
  show (if n+1=0 then none else some (AV.int .u64 ((x % 18446744073709551616).tmod (n+1))))=_
  rw [if_neg (by omega),Int.tmod_eq_emod_of_nonneg hx];rfl
 refine QE rfl (fun A hA=>?_)
 repeat' (first|refine ZE ?_|refine ZD ?_|refine ZG rfl ?_|refine ZB rfl ?_|refine ZC ?_)
 refine ZoN rfl ?_
 repeat' (first|refine ZG rfl ?_|refine Zo rfl rfl (by omega) ?_)
 refine ZLQ rfl hw ?_;refine ZU6 rfl rfl hrem ?_
 refine ZLQ rfl (ZOB (by omega) (by omega)) ?_
 repeat' (first|refine ZG rfl ?_|refine ZB rfl ?_|refine ZC ?_|refine ZP ?_|refine ZJ ?_)
 refine Zb hA (by first|exact .inl rfl|exact .inr rfl) rfl rfl rfl rfl ?_
 rfl
structure Ed where
 what:Nat
 n:Int
 at_:Int
 len:Int
 text:List UInt8
def Ed.av (y:Ed):AV:=.agg [.int .u8 y.what,.int .i64 y.n,.int .i64 y.at_,.int .i64 y.len,.str y.text]
def ZcB (ros:List Ro) (x:Int):Option Ro:=ros[(JH x ((ros.length:Int)-1)).toNat]?
noncomputable def ZCY (N:ZL) (ros:List Ro) (y:Ed):Tr :=
 match ZcB ros y.n with
 | none=>Qx y.text
 | some r=>(ZIA N (ZCX r) (JH y.at_ r.m.b) (JH y.len (r.m.b-JH y.at_ r.m.b)) y.text).own
theorem Zmf {ros:List Ro} {x:Int} (h:ros≠[]):∃ r,ZcB ros x=some r/\r∈ros/\(JH x ((ros.length:Int)-1)).toNat<ros.length:=by
 have hl:0<ros.length:=List.length_pos_iff.2 h
 have:=Qs (x:=x) (n:=(ros.length:Int)-1) (by omega)
 have hlt:(JH x ((ros.length:Int)-1)).toNat<ros.length:=by omega
 exact ⟨ros[(JH x ((ros.length:Int)-1)).toNat]'hlt,by unfold ZcB;rw [jE hlt],List.getElem_mem _,hlt⟩
theorem ZjL (r:Ro):JI r.av true 0 5=some r.av:=by cases r;rfl
theorem ZFl {O:Orc} {k:List Fr} {Q:JX} {e:Env} {st:St} {keep:List Nat} {is:List QAbs.PI} {d:Nat} {α:Type} {f:α->AV} {x:Opd} {l:List α} (hx:Za e x=some (.lit (l.map f))) (h:Is O is keep k Q ((d,.int .i64 l.length)::e) st):Is O (⟨some d,none,false,.len 1 x⟩::is) keep k Q e st:=by
 refine Zcp hx ?_;rw [List.length_map];exact h
theorem Zo5 {lv ix:Nat} {t:Tr} {n m:Int} {s:List UInt8}:ZW (Zd ([]++[.ptr lv ix 0 0 0,t.av,.int .i64 n,.int .i64 m,.str s]++[]))=some [.ptr lv ix 0 0 0,t.av,.int .i64 n,.int .i64 m,.str s]:=by
 simp only [lE,lN,lC,Zd,ZX,ZW];rfl
structure PlanOk (N:ZL) (ros:List Ro):Prop where
 rt:∀ r∈ros,RtOk N r/\(ZCX r).bytes=r.m.b/\0<=r.m.b/\r.m.b<=60000
 len:ros.length<65536
theorem Rts.plan {N:ZL} (hN:GoodN N) {ros:List Ro} {ss:List (List UInt8)} (h:Rts N ros ss) (hl:ros.length<65536) (hs:∀ s∈ss,s.length<=60000):PlanOk N ros:=by
 refine ⟨fun r hr=>?_,hl⟩
 obtain ⟨i,hi,rfl⟩:=List.getElem_of_mem hr
 have hi2:i<ss.length:=by rw [<- h.1];exact hi
 have g:=h.2 i _ _ (jE hi) (jE hi2);obtain ⟨b1,b2⟩:=g.b hN
 have:=hs _ (List.getElem_mem hi2)
 exact ⟨g.rt,by rw [b1,b2],by omega,by omega⟩
theorem RtOk.keep {N:ZL} {r:Ro} (h:RtOk N r):VE N (ZCX r):=(Rt.keep ⟨h,rfl⟩).1
theorem Zmg {N:ZL} (hN:GoodN N) {ros:List Ro} (h:PlanOk N ros) {y:Ed} (hy:y.text.length<=200):VE N (ZCY N ros y)/\(ZCY N ros y).bytes<=60200:=by
 unfold ZCY
 match hq:ZcB ros y.n with
 | none =>
  obtain ⟨b1,b2,b3⟩:=Xh hN (s:=y.text) (by omega)
  exact ⟨b1,by show (Qx y.text).bytes<=_;omega⟩
 | some r =>
  obtain ⟨h1,h2,h3,h4⟩:=h.rt r (jM (show ros[_]?=some r from hq))
  have p1:=Qs (x:=y.at_) h3
  have p2:=Qs (x:=y.len) (n:=r.m.b-JH y.at_ r.m.b) (by omega)
  have:=ZNe hN (s:=y.text) h1.keep (a:=JH y.at_ r.m.b) (n:=JH y.len (r.m.b-JH y.at_ r.m.b)) p1.1 p2.1 (by omega) (by omega) (by omega)
  refine ⟨Zme this.ve,?_⟩
  show (Tr.own _).bytes<=_
  rw [ZId,this.bytes];omega
theorem Zo6 {st:St} {la b:Nat} {N:ZL} (hN:GoodN N) (hR:Rd st la (b+5) N) {kx lv ver:Nat} {ros:List Ro} (hg:st.get lv kx=some (.arr 5 ver (ros.map Ro.av))) (hP:PlanOk N ros) {ys:List Ed} (hyl:ys.length<65536) (hy:∀ y∈ys,y.text.length<=200) :
 S Tb XH [.ptr la (b+5) 0 0 0,.ref lv kx ver 0 ros.length,.lit (ys.map Ed.av)] st=some (.tup [.lit ((ys.map (ZCY N ros)).map Tr.av),.bool true],st):=by
 refine QE rfl (fun A hA=>?_)
 have hr:=fun L=>hR.push hA (ro:=false) (L:=L)
 have gr:=fun L=>ZV hA (ro:=false) (L:=L) hg
 have hwi:∀ L,wIs 5 ver (St.get ⟨A,false,L⟩ lv kx)=true:=fun L=>by rw [gr];simp [wIs]
 have hpl:=hP.len
 repeat' (first|refine ZE ?_|refine ZD ?_|refine ZG rfl ?_|refine ZB rfl ?_|refine ZC ?_|refine ZBG rfl ?_|refine ZQ ?_)
 refine Z1 (α:=Nat × List Blk) (fun q=>[(0,.ptr la (b+5) 0 0 0),(1,.ref lv kx ver 0 ros.length),(2,.lit (ys.map Ed.av)),(8,.ref A.length 0 q.1 0 q.1),(9,.int .i64 q.1)])
  (fun q=>⟨A,false,.arr 7 q.1 (((ys.take q.1).map (ZCY N ros)).map Tr.av)::q.2⟩) (fun q=>q.1<=ys.length) (fun q=>ys.length-q.1) (0,[]) rfl rfl (Nat.zero_le _) ?_
 rintro ⟨i,G⟩ hi
 simp only at hi ⊢
 rcases Nat.lt_or_ge i ys.length with hlt|hge
 ·obtain ⟨y,hyi⟩:∃ y,ys[i]?=some y:=⟨ys[i]'(by omega),by simp [hlt]⟩
  have hy1:=hy y (jM hyi)
  have hx:0<=((i:Nat):Int)/\ys[((i:Nat):Int).toNat]?=some y:=⟨by omega,by rw [show ((i:Nat):Int).toNat=i by omega];exact hyi⟩
  have hes:(((ys.take i).map (ZCY N ros)).map Tr.av).length=i:=by simp;omega
  have hfin:∀ c,ZCY N ros y=c->((ys.take (i+1)).map (ZCY N ros)).map Tr.av=((ys.take i).map (ZCY N ros)).map Tr.av++[c.av]:=fun c hc=>by
   rw [Zi hyi,List.map_append,List.map_append,<- hc];rfl
  generalize hES:((ys.take i).map (ZCY N ros)).map Tr.av=es at *
  have e0:(⟨A,false,.arr 7 i es::G⟩:St)=⟨A,false,(.arr 7 i es::G)++[]⟩:=by rw [lN]
  rw [e0]
  by_cases hros:ros=[]
  ·have hc:=hfin (Qx y.text) (by unfold ZCY;rw [show ZcB ros y.n=none by subst hros;rfl])
   have h0:(ros.length:Int)=0:=by rw [hros];rfl
   have hBu:=fun st=>ZeT hN y.text (by omega) st
   generalize Qx y.text=c at *
   repeat' (first|refine ZFl rfl ?_|refine Qf rfl ?_|refine Y5 rfl rfl hx (fun _=>rfl) ?_|refine Y4 rfl rfl rfl rfl rfl ?_|refine X8 rfl rfl rfl (Zs _) ?_|refine ZQN rfl rfl rfl rfl (Qb _ _ _) (JS _ _) rfl ?_|refine ZBn rfl ?_|refine ZE ?_|refine ZD ?_|refine ZG rfl ?_|refine ZO rfl rfl ?_|refine Zu rfl rfl ?_|refine ZB rfl ?_|refine ZC ?_|refine Qg rfl rfl ?_|(refine Zk rfl rfl (fun _=>?_) (fun _=>?_)<;>try (exfalso;omega))|(refine Zj rfl rfl (fun _=>?_) (fun _=>?_)<;>try (exfalso;omega))|(refine Zn rfl rfl (fun _=>?_) (fun _=>?_)<;>try (exfalso;omega))|refine ZU rfl ?_|refine ZH rfl ?_|refine ZA rfl rfl (by first|rfl|(simp only [lE,lN,lC,Zd,ZX,ZW];first|done|rfl)) (hBu _) ?_|refine ZI ?_|refine ZQ ?_)
   all_goals try contradiction
   all_goals try (exfalso;omega)
   refine ZBi (es:=es) (ys:=[c].map Tr.av) rfl rfl rfl hes.symm (YQ _) (ZH7 _ _ _) (by rw [hes,List.length_map,List.length_singleton];omega) (by decide) ?_
   repeat' (first|refine ZD ?_|refine ZG rfl ?_|refine ZB rfl ?_|refine ZC ?_|refine Zo rfl rfl (by omega) ?_|refine Zy ?_|refine Zg ?_|refine Ze rfl ?_|refine QH ?_)
   refine ⟨(i+1,G++[.arr 7 0 [c.av]]),⟨rfl,?_⟩,by simp only;omega,by simp only;omega⟩
   simp only [hc];rfl
  ·obtain ⟨r,hr1,hr2,hr3⟩:=Zmf (x:=y.n) hros
   have hc:=hfin (ZIA N (ZCX r) (JH y.at_ r.m.b) (JH y.len (r.m.b-JH y.at_ r.m.b)) y.text).own (by unfold ZCY;rw [hr1])
   obtain ⟨h1,h2,h3,h4⟩:=hP.rt r hr2;have hl0:0<ros.length:=List.length_pos_iff.2 hros
   have pn:=Qs (x:=y.n) (n:=(ros.length:Int)-1) (by omega)
   have p1:=Qs (x:=y.at_) h3
   have p2:=Qs (x:=y.len) (n:=r.m.b-JH y.at_ r.m.b) (by omega)
   have hN1:=fun st=>Zef y.n ((ros.length:Int)-1) (by omega) (by omega) st
   have hN2:=fun st=>Zef y.at_ r.m.b (by omega) (by omega) st
   have hN3:=fun st=>Zef y.len (r.m.b-JH y.at_ r.m.b) (by omega) (by omega) st
   have hK:=fun L=>ZjI (hr L) h1
   have hRe:=fun L=>ZkJ hN (hr L) (s:=y.text) h1.keep (a:=JH y.at_ r.m.b) (n:=JH y.len (r.m.b-JH y.at_ r.m.b)) p1.1 p2.1 (by omega) (by omega) (by omega)
   have gr2:(ros.map Ro.av)[0+(JH y.n ((ros.length:Int)-1)).toNat]?=some r.av:=by
    rw [Nat.zero_add,jG,show ros[(JH y.n ((ros.length:Int)-1)).toNat]?=some r from hr1];rfl
   generalize (ZIA N (ZCX r) (JH y.at_ r.m.b) (JH y.len (r.m.b-JH y.at_ r.m.b)) y.text).own=c at *
   generalize ZCX r=kt at *
   repeat' (first|refine ZFl rfl ?_|refine Qf rfl ?_|refine Y5 rfl rfl hx (fun _=>rfl) ?_|refine XE rfl rfl (by omega) (hwi _) ?_|refine Z2 rfl (gr _) gr2 (ZjL _) ?_|refine Y4 rfl rfl rfl rfl rfl ?_|refine X8 rfl rfl rfl rfl ?_|refine X8 rfl rfl rfl (Zs _) ?_|refine ZQN rfl rfl rfl rfl (Qb _ _ _) (JS _ _) rfl ?_|refine ZQN rfl rfl rfl rfl rfl rfl rfl ?_|refine ZBn rfl ?_|refine ZE ?_|refine ZD ?_|refine ZG rfl ?_|refine ZO rfl rfl ?_|refine Zu rfl rfl ?_|refine ZB rfl ?_|refine ZC ?_|refine Qg rfl rfl ?_|(refine Zk rfl rfl (fun _=>?_) (fun _=>?_)<;>try (exfalso;omega))|(refine Zj rfl rfl (fun _=>?_) (fun _=>?_)<;>try (exfalso;omega))|(refine Zn rfl rfl (fun _=>?_) (fun _=>?_)<;>try (exfalso;omega))|refine ZU rfl ?_|refine ZH rfl ?_|refine Qa rfl rfl (by omega) ?_|refine ZA rfl rfl (by first|rfl|(simp only [lE,lN,lC,Zd,ZX,ZW];first|done|rfl)) (hN1 _) ?_|refine ZA rfl rfl (by first|rfl|(simp only [lE,lN,lC,Zd,ZX,ZW];first|done|rfl)) (hN2 _) ?_|refine YO rfl rfl rfl (hN3 _) ?_|refine ZA rfl rfl (by first|rfl|(simp only [lE,lN,lC,Zd,ZX,ZW];first|done|rfl)) (hK _) ?_|refine ZA rfl rfl Zo5 (hRe _) ?_|refine ZI ?_|refine ZQ ?_)
   all_goals try contradiction
   all_goals try (exfalso;omega)
   refine ZBi (es:=es) (ys:=[c].map Tr.av) rfl rfl rfl hes.symm (YQ _) (ZH7 _ _ _) (by rw [hes,List.length_map,List.length_singleton];omega) (by decide) ?_
   repeat' (first|refine ZD ?_|refine ZG rfl ?_|refine ZB rfl ?_|refine ZC ?_|refine Zo rfl rfl (by omega) ?_|refine QB ?_|refine QH ?_)
   refine ⟨(i+1,G++[.arr 5 0 [r.av],.arr 7 0 [c.av]]),⟨rfl,?_⟩,by simp only;omega,by simp only;omega⟩
   simp only [hc];rfl
 ·obtain rfl:i=ys.length:=by omega
  rw [List.take_length]
  repeat' (first|refine ZFl rfl ?_|refine ZE ?_|refine ZD ?_|refine ZG rfl ?_|refine ZB rfl ?_|refine ZC ?_|(refine Zk rfl rfl (fun _=>?_) (fun _=>?_)<;>try (exfalso;omega))|refine ZH rfl ?_|refine ZP ?_|refine Zy ?_|refine ZJ ?_|refine Zg ?_|refine Ze rfl ?_|refine Zw ?_)
  all_goals try (exfalso;omega)
  exact ZLT hA (.inr rfl) rfl rfl (by simp) (fun v hv=>by obtain ⟨x,_,rfl⟩:=List.mem_map.1 hv;exact Zhp 2 x) rfl rfl
def ZD1:Nat->List (List UInt8)->Nat
 | n,[]=>n
 | n,t::ts=>if n<=900 then ZD1 (n+min t.length 1000) ts else n
def ZQ3 (l:List (List UInt8)):Prop:=4<l.length\/900<ZD1 0 l
instance (l:List (List UInt8)):Decidable (ZQ3 l):=by unfold ZQ3;infer_instance
theorem ZNm:∀ (l:List (List UInt8)) (n:Nat),n<=ZD1 n l
 | [],n=>by simp [ZD1]
 | t::ts,n=>by
  rw [ZD1]
  by_cases h:n<=900
  ·rw [if_pos h];have:=ZNm ts (n+min t.length 1000);omega
  ·rw [if_neg h];exact Nat.le_refl _
theorem ZcC:∀ (l:List (List UInt8)) (n:Nat),ZD1 n l<=900->n+(l.map List.length).sum<=900
 | [],n,h=>by simpa [ZD1] using h
 | t::ts,n,h=>by
  rw [ZD1] at h
  by_cases hn:n<=900
  ·rw [if_pos hn] at h
   have h1:=ZNm ts (n+min t.length 1000);have h2:=ZcC ts _ h;rw [jC,List.sum_cons];omega
  ·rw [if_neg hn] at h;omega
theorem ZIe {α:Type} {l:List α} {i:Nat} {a:α} (h:l[i]?=some a):l.drop i=a::l.drop (i+1):=by
 obtain ⟨h1,h2⟩:=List.getElem?_eq_some_iff.1 h;subst h2;exact List.drop_eq_getElem_cons h1
theorem ZqL (l:List (List UInt8)) (hb:l.length<9223372036854775808) (hs:∀ s∈l,s.length<9223372036854775808) (st:St):S Tb XY [.lit (l.map .str)] st=some (.bool (decide (ZQ3 l)),st):=by
 refine QE rfl (fun A hA=>?_)
 repeat' (first|refine ZE ?_|refine ZD ?_|refine ZG rfl ?_|refine ZB rfl ?_|refine ZC ?_|refine ZQ ?_)
 refine Z1 (α:=Nat × Nat) (fun p=>[(0,.lit (l.map .str)),(3,.int .i64 p.2),(4,.int .i64 p.1)]) (fun p=>⟨A,false,[]⟩) (fun p=>p.1<=l.length/\p.2<=1900/\ZD1 p.2 (l.drop p.1)=ZD1 0 l) (fun p=>l.length-p.1) (0,0) rfl rfl ⟨Nat.zero_le _,Nat.zero_le _,rfl⟩ ?_
 rintro ⟨i,n⟩ ⟨h1,h2,h3⟩
 simp only at h1 h2 h3 ⊢
 repeat' (first|refine ZE ?_|refine ZD ?_|refine ZG rfl ?_|refine QF rfl ?_|refine Je rfl rfl ?_|refine Zm rfl rfl rfl rfl ?_|refine ZB rfl ?_|refine ZC ?_|refine Qy rfl ?_|refine QO rfl ?_|refine Qg rfl rfl ?_|refine J6 rfl rfl (by omega) (fun _=>rfl) (fun _ _=>?_)|(refine Zk rfl rfl (fun _=>?_) (fun _=>?_)<;>try (exfalso;omega))|(refine ZBz rfl rfl (fun _=>?_) (fun _=>?_)<;>try (exfalso;omega))|(refine QR rfl rfl (fun _=>?_) (fun _=>?_)<;>try (exfalso;omega))|refine ZU rfl ?_|refine ZH rfl ?_|refine ZOD rfl rfl ?_|refine ZI ?_|refine ZP ?_|refine Zy ?_|refine ZQ ?_|refine ZJ ?_|refine Zg ?_|refine Ze rfl ?_|refine Zw ?_)
 ·rename_i hlt hn x hx
  have hx':l[i]?=some x:=by rw [show i=((i:Nat):Int).toNat by omega];exact hx
  have hxl:=hs x (jM hx')
  have e1:(if false=true then max (x.length:Int) 1000 else min (x.length:Int) 1000)=((min x.length 1000:Nat):Int):=by
   simp only [jB,if_false];omega
  rw [e1]
  refine Zo rfl rfl (by omega) ?_
  rw [show (n:Int)+((min x.length 1000:Nat):Int)=((n+min x.length 1000:Nat):Int) by omega]
  repeat' (first|refine ZD ?_|refine ZG rfl ?_|refine ZB rfl ?_|refine ZC ?_|refine Zo rfl rfl (by omega) ?_|refine QB ?_|refine QH ?_)
  refine ⟨(i+1,n+min x.length 1000),⟨rfl,rfl⟩,⟨by simp only;omega,by simp only;omega,?_⟩,by simp only;omega⟩
  rw [<- h3,ZIe hx',ZD1,if_pos (by omega)]
 ·refine ZAa hA (by first|exact .inl rfl|exact .inr rfl) rfl rfl ?_
  exact (decide_eq_true (.inl (by omega))).symm
 ·refine ZAa hA (by first|exact .inl rfl|exact .inr rfl) rfl rfl ?_
  refine (decide_eq_true (.inr ?_)).symm
  have:=ZNm (l.drop i) n
  omega
 ·refine ZAa hA (by first|exact .inl rfl|exact .inr rfl) rfl rfl ?_
  exact (decide_eq_true (.inl (by omega))).symm
 ·refine ZAa hA (by first|exact .inl rfl|exact .inr rfl) rfl rfl ?_
  refine (decide_eq_true (.inr ?_)).symm
  have:=ZNm (l.drop i) n
  omega
 ·refine ZAa hA (by first|exact .inl rfl|exact .inr rfl) rfl rfl ?_
  refine (decide_eq_false ?_).symm
  have:l.drop i=[]:=List.drop_eq_nil_of_le (by omega)
  rw [this,ZD1] at h3
  rintro (h|h)<;>omega
def ZYj (l:List Ed):Prop:=(∃ s∈l.take 100,200<s.text.length)\/60<l.length
open Classical in
noncomputable instance (l:List Ed):Decidable (ZYj l):=Classical.propDecidable _
theorem Zmh (l:List Ed) (hb:l.length<9223372036854775808) (hs:∀ s∈l,s.text.length<9223372036854775808) (st:St):S Tb XZ [.lit (l.map Ed.av)] st=some (.bool (decide (ZYj l)),st):=by
 refine QE rfl (fun A hA=>?_)
 repeat' (first|refine ZE ?_|refine ZD ?_|refine ZG rfl ?_|refine ZB rfl ?_|refine ZC ?_|refine ZQ ?_)
 refine Z1 (α:=Nat) (fun i=>[(0,.lit (l.map Ed.av)),(3,.int .i64 i)]) (fun p=>⟨A,false,[]⟩) (fun i=>i<=l.length/\i<=100/\∀ j s,j<i->l[j]?=some s->s.text.length<=200) (fun i=>l.length-i) 0 rfl rfl ⟨Nat.zero_le _,Nat.zero_le _,fun j s h=>by omega⟩ ?_
 rintro i ⟨h1,h2,h3⟩
 have key:∀ {j:Nat} {s:Ed},(l.length:Int)<=i\/100<=(i:Int)->s∈l.take 100->s.text.length<=200:=by
  intro j s hi hm;obtain ⟨j,hj⟩:=List.mem_iff_getElem?.1 hm;have hj1:=(List.getElem?_eq_some_iff.1 hj).1;rw [List.length_take] at hj1
  rw [List.getElem?_take,if_pos (by omega)] at hj
  exact h3 j s (by omega) hj
 repeat' (first|refine ZE ?_|refine ZD ?_|refine ZG rfl ?_|refine ZO rfl rfl ?_|refine QF rfl ?_|refine Je rfl rfl ?_|refine Zm rfl rfl rfl rfl ?_|refine ZB rfl ?_|refine ZC ?_|refine Qy rfl ?_|refine QO rfl ?_|refine Qg rfl rfl ?_|refine J6 rfl rfl (by omega) (fun _=>rfl) (fun _ _=>?_)|(refine Zk rfl rfl (fun _=>?_) (fun _=>?_)<;>try (exfalso;omega))|(refine QR rfl rfl (fun _=>?_) (fun _=>?_)<;>try (exfalso;omega))|refine ZU rfl ?_|refine ZH rfl ?_|refine Zo rfl rfl (by omega) ?_|refine ZI ?_|refine ZP ?_|refine Zy ?_|refine ZQ ?_|refine ZJ ?_|refine ZZ ?_|refine Zg ?_|refine QB ?_|refine Qc ?_|refine Ze rfl ?_|refine QH ?_|refine ZBy ?_|refine Zw ?_)
 ·rename_i hlt hn s hs' hbig
  have hs1:l[i]?=some s:=by rw [show i=((i:Nat):Int).toNat by omega];exact hs'
  refine ZAa hA (by first|exact .inl rfl|exact .inr rfl) rfl rfl ?_
  refine (decide_eq_true (.inl ⟨s,?_,by omega⟩)).symm
  refine List.mem_iff_getElem?.2 ⟨i,?_⟩
  rw [List.getElem?_take,if_pos (by omega)];exact hs1
 ·rename_i hlt hn s hs' hbig
  have hs1:l[i]?=some s:=by rw [show i=((i:Nat):Int).toNat by omega];exact hs'
  refine ⟨i+1,⟨rfl,rfl⟩,⟨by omega,by omega,fun j s2 hj h=>?_⟩,by omega⟩
  rcases Nat.lt_or_ge j i with q|q
  ·exact h3 j s2 q h
  ·obtain rfl:j=i:=by omega
   rw [hs1] at h
   have:=Option.some.inj h
   subst this;omega
 ·refine ZAa hA (by first|exact .inl rfl|exact .inr rfl) rfl rfl ?_
  exact (decide_eq_true (.inr (by omega))).symm
 ·refine ZAa hA (by first|exact .inl rfl|exact .inr rfl) rfl rfl ?_
  exact (decide_eq_true (.inr (by omega))).symm
 ·refine ZAa hA (by first|exact .inl rfl|exact .inr rfl) rfl rfl ?_
  refine (decide_eq_false ?_).symm
  rintro (⟨s,h,hh⟩|h)
  ·have:=key (j:=0) (s:=s) (.inl (by omega)) h
   omega
  ·omega
theorem Zmi {l:List Ed} (h:¬ ZYj l):l.length<=60/\∀ s∈l,s.text.length<=200:=by
 have h1:l.length<=60:=by
  rcases Nat.lt_or_ge 60 l.length with q|q
  ·exact absurd (.inr q) h
  ·exact q
 refine ⟨h1,fun s hs=>?_⟩
 rcases Nat.lt_or_ge 200 s.text.length with q|q
 ·refine absurd (.inl ⟨s,?_,q⟩) h
  rw [List.take_of_length_le (by omega)];exact hs
 ·exact q
theorem Zmj {l:List (List UInt8)} (h:¬ ZQ3 l):l.length<=4/\(l.map List.length).sum<=900:=by
 have h1:¬ 4<l.length:=fun q=>h (.inl q)
 have h2:¬ 900<ZD1 0 l:=fun q=>h (.inr q)
 have:=ZcC l 0 (by omega)
 exact ⟨by omega,by omega⟩
theorem ZNn (s:List UInt8) (hs:s.length<4294967296) (st:St):S Tb Jo [.str s] st=some ((Qk s).av,st):=by
 refine QE rfl (fun A hA=>?_)
 repeat' (first|refine ZE ?_|refine ZD ?_|refine ZG rfl ?_|refine ZB rfl ?_|refine ZC ?_|refine Qy rfl ?_|refine Zq rfl rfl rfl ?_|refine Zf rfl rfl rfl ?_|refine Z5 rfl rfl rfl rfl rfl rfl ?_|refine ZQ ?_)
 refine Z1 (α:=Nat) (fun i=>[(0,.str s),(2,.ptr A.length 0 0 0 0),(3,.ptr A.length 1 0 0 0),(4,.int .i64 i)])
  (fun i=>⟨A,false,[.arr 3 0 [.agg [.int .i64 0,.int .i64 0,.int .i64 0]],.arr 3 0 [.agg [.int .i64 s.length,.int .i64 ((s.take i).countP QD),.int .i64 ((s.take i).countP QW)]]]⟩) (fun i=>i<=s.length) (fun i=>s.length-i) 0 rfl rfl (Nat.zero_le _) ?_
 intro i hi
 repeat' (first|refine ZE ?_|refine ZD ?_|refine ZG rfl ?_|refine ZS rfl rfl rfl rfl ?_|refine ZB rfl ?_|refine ZC ?_|refine Qy rfl ?_|(refine Zk rfl rfl (fun _=>?_) (fun _=>?_)<;>try (exfalso;omega))|refine ZU rfl ?_|refine ZH rfl ?_|refine Z5 rfl rfl rfl rfl rfl rfl ?_|refine ZI ?_|refine ZP ?_|refine Zy ?_|refine ZQ ?_|refine ZJ ?_|refine Zg ?_|refine Ze rfl ?_|refine Zw ?_)
 ·rename_i hlt
  obtain ⟨b,hb,ht⟩:=getB (s:=s) (i:=i) (by omega)
  have hc:=List.countP_le_length (p:=QD) (l:=s.take i);have hc2:=List.countP_le_length (p:=QW) (l:=s.take i);have hl:=List.length_take_le i s
  have hb2:s[(i:Int).toNat]?=some b:=by simpa using hb
  have e1:((s.take (i+1)).countP QD)=(s.take i).countP QD+(if QD b then 1 else 0):=by
   rw [ht,List.countP_append];simp [List.countP_cons]
  have e2:((s.take (i+1)).countP QW)=(s.take i).countP QW+(if QW b then 1 else 0):=by
   rw [ht,List.countP_append];simp [List.countP_cons]
  have fin:∀ x y:Int,x=((s.take (i+1)).countP QD:Nat)->y=((s.take (i+1)).countP QW:Nat)->∃ c:Nat,([(0,AV.str s),(2,.ptr A.length 0 0 0 0),(3,.ptr A.length 1 0 0 0),(4,.int .i64 ((i:Int)+1))]=[(0,AV.str s),(2,.ptr A.length 0 0 0 0),(3,.ptr A.length 1 0 0 0),(4,.int .i64 c)] /\
   (⟨A,false,[.arr 3 0 [.agg [.int .i64 0,.int .i64 0,.int .i64 0]],.arr 3 0 [.agg [.int .i64 s.length,.int .i64 x,.int .i64 y]]]⟩:St)=⟨A,false,[.arr 3 0 [.agg [.int .i64 0,.int .i64 0,.int .i64 0]],.arr 3 0 [.agg [.int .i64 s.length,.int .i64 ((s.take c).countP QD),.int .i64 ((s.take c).countP QW)]]]⟩)/\c<=s.length/\s.length-c<s.length-i:=by
   intro x y hx hy;subst hx hy
   exact ⟨i+1,⟨rfl,rfl⟩,by omega,by omega⟩
  have hbb:QD b=(decide ((b.toNat:Int)<128) || decide ((192:Int)<=b.toNat)):=by unfold QD;rw [Bool.eq_iff_iff];simp<;>omega
  have hfb:QW b=decide ((b.toNat:Int)=10):=by unfold QW;rw [Bool.eq_iff_iff];simp<;>omega
  rw [hbb] at e1;rw [hfb] at e2;simp only [Bool.or_eq_true,decide_eq_true_eq] at e1 e2
  repeat' (first|refine ZE ?_|refine ZD ?_|refine ZG rfl ?_|refine ZO rfl rfl ?_|refine ZS rfl rfl rfl rfl ?_|refine QF rfl ?_|refine Je rfl rfl ?_|refine Zm rfl rfl rfl rfl ?_|refine ZB rfl ?_|refine ZC ?_|(refine Zk rfl rfl (fun _=>?_) (fun _=>?_)<;>try (exfalso;omega))|(refine J1 rfl rfl (fun _=>?_) (fun _=>?_)<;>try (exfalso;omega))|(refine Zj rfl rfl (fun _=>?_) (fun _=>?_)<;>try (exfalso;omega))|refine ZU rfl ?_|refine ZH rfl ?_|refine Zo rfl rfl (by omega) ?_|refine Z5 rfl rfl rfl rfl rfl rfl ?_|refine ZLR rfl rfl (by omega) hb2 ?_|refine ZI ?_|refine QB ?_|refine QH ?_)
  all_goals refine fin _ _ ?_ ?_
  all_goals first|(rw [e1];split<;>omega)|(rw [e2];split<;>omega)
 ·have hi':i=s.length:=by omega
  subst hi';rw [List.take_length]
  refine Y8 hA (by first|exact .inl rfl|exact .inr rfl) rfl rfl rfl rfl rfl ?_
  rfl
theorem Zh6 (l:List (List UInt8)):ZC0 (l.map .str)=some l:=by
 induction l with
 | nil=>rfl
 | cons a l ih=>simp [ZC0,ih]
theorem ZcD:∀ l:List (List UInt8),([]:List UInt8).intercalate l=l.flatten
 | []=>rfl
 | [a]=>by simp [List.intercalate]
 | a::b::l=>by
  have:=ZcD (b::l)
  simp only [List.intercalate] at this ⊢;rw [List.intersperse_cons_cons,List.flatten_cons,List.flatten_cons,lE,this];rfl
theorem Zmk (l:List (List UInt8)) (hl:l.length<=100000000) (hf:l.flatten.length<=65536) (st:St):S Tb Xo [.lit (l.map .str),.str []] st=some (.str l.flatten,st):=by
 refine ZUa (o:=Zbn) rfl ?_;unfold Zbn
 show ((some (l.map AV.str)).bind fun es=>(ZC0 es).bind fun ss=>if ss.length<=140737488355328/\(([]:List UInt8).intercalate ss).length<=140737488355328 then some (AV.str (([]:List UInt8).intercalate ss),st) else none)=_
 rw [oS,Zh6,oS,ZcD,if_pos (by omega)]
structure Comp (p:Mea->Int):Prop where
 zero:p .zero=0
 add:∀ x y:Mea,p (x.add y)=p x+p y
 fit:∀ (x:Mea) n,x.Fit n->0<=p x/\p x<=n
theorem comp_b:Comp Mea.b:=⟨rfl,fun _ _=>rfl,fun _ _ h=>⟨h.1,h.2⟩⟩
theorem ZqM:Comp Mea.r:=⟨rfl,fun _ _=>rfl,fun _ _ h=>⟨h.3,h.4⟩⟩
theorem ZqN:Comp Mea.l:=⟨rfl,fun _ _=>rfl,fun _ _ h=>⟨h.5,h.6⟩⟩
def QG (p:Mea->Int):List Kid->Int->Nat × Int
 | [],a=>(0,a)
 | k::l,a=>if a<p k.m then (0,a) else ((QG p l (a-p k.m)).1+1,(QG p l (a-p k.m)).2)
def QZ (p:Mea->Int) (ks:List Kid) (i:Nat):Int:=p (Z7 ((ks.take i).map Kid.m))
theorem ZIf {p:Mea->Int} (hp:Comp p) {ks:List Kid} {i:Nat} {k:Kid} (h:ks[i]?=some k):QZ p ks (i+1)=QZ p ks i+p k.m:=by
 unfold QZ;rw [Zi h,List.map_append,Xg,hp.add]
 simp [Z7,hp.add,hp.zero]
theorem ZIE {p:Mea->Int} (hp:Comp p):∀ (ks:List Kid) (a:Int),(∀ k∈ks,k.m.Fit 65536)->0<=a->a<p (Z7 (ks.map Kid.m)) ->
 (QG p ks a).1<ks.length/\(QG p ks a).2=a-QZ p ks (QG p ks a).1/\0<=(QG p ks a).2/\∀ k,ks[(QG p ks a).1]?=some k->(QG p ks a).2<p k.m:=by
 intro ks
 induction ks with
 | nil=>intro a _ h0 h1;simp only [List.map_nil,Z7,hp.zero] at h1;omega
 | cons k l ih =>
  intro a hf h0 h1;simp only [jC,Z7,hp.add] at h1;rw [QG]
  by_cases q:a<p k.m
  ·rw [if_pos q]
   refine ⟨by simp,by simp [QZ,Z7,hp.zero],h0,fun z hz=>?_⟩
   simp at hz;subst hz;exact q
  ·rw [if_neg q]
   obtain ⟨i1,i2,i3,i4⟩:=ih (a-p k.m) (fun z hz=>hf z (List.mem_cons_of_mem _ hz)) (by omega) (by omega)
   refine ⟨by simp;omega,?_,i3,fun z hz=>i4 z (by simpa using hz)⟩
   simp only
   rw [i2]
   show _=a-p (Z7 (((k::l).take (_+1)).map Kid.m))
   rw [List.take_succ_cons,jC,Z7,hp.add];unfold QZ;omega
theorem Zh7 {p:Mea->Int} {ks:List Kid} {i:Nat} {k:Kid} (h:ks[i]?=some k) (a:Int):QG p (ks.drop i) a=if a<p k.m then (0,a) else ((QG p (ks.drop (i+1)) (a-p k.m)).1+1,(QG p (ks.drop (i+1)) (a-p k.m)).2):=by
 rw [ZIe h,QG]
def ZKz (g:FuncId) (p:Mea->Int):Prop:=∀ m st,S Tb g [Mea.av m] st=some (.int .i64 (p m),st)
theorem Zml {g:FuncId} {p:Mea->Int} (hg:ZKz g p) (hp:Comp p) (n:Nat) (ks:List Kid) (hx:NdOk ⟨n+1,[],some ks⟩) (a:Int) (h0:0<=a) (h1:a<p (Z7 (ks.map Kid.m))) (hb:a<=1000000) (st:St) :
 S Tb ZC4 [Nd.av ⟨n+1,[],some ks⟩,.int .i64 a,.func (.func g) [] []] st=some (.tup [.int .i64 (QG p ks a).1,.int .i64 (QG p ks a).2,.int .i64 0],st):=by
 refine QE rfl (fun A hA=>?_)
 have hCk:=fun st=>ZNW ⟨n+1,[],some ks⟩ hx st
 have hin:(∀ k∈ks,k.m.Fit 65536)/\ks.length<=4/\n<=15:=by
  rcases hx with q|⟨m,l,q⟩
  ·have:=q.h;simp at this
  ·have e:=q.eq
   simp only [Nd.mk.injEq,true_and,oJ] at e;obtain ⟨e1,e2⟩:=e;subst e2
   have:=q.n15
   exact ⟨fun k hk=>(q.kid k hk).fit,q.hi,by omega⟩
 obtain ⟨hf,hl4,hn15⟩:=hin;obtain ⟨s1,s2,s3,s4⟩:=ZIE hp ks a hf h0 h1;simp only [Nd.av,slV] at hCk ⊢
 repeat' (first|refine ZE ?_|refine ZD ?_|refine ZG rfl ?_|refine ZO rfl rfl ?_|refine ZS rfl rfl rfl rfl ?_|refine ZB rfl ?_|refine ZC ?_|refine QO rfl ?_|(refine Zk rfl rfl (fun _=>?_) (fun _=>?_)<;>try (exfalso;omega))|(refine Zj rfl rfl (fun _=>?_) (fun _=>?_)<;>try (exfalso;omega))|(refine Zn rfl rfl (fun _=>?_) (fun _=>?_)<;>try (exfalso;omega))|refine ZH rfl ?_|refine Zf rfl rfl rfl ?_|refine ZA rfl rfl rfl (hCk _) ?_|refine ZI ?_|refine ZQ ?_)
 all_goals try contradiction
 all_goals try (exfalso;omega)
 refine Z1 (α:=Nat × Int × List Blk) (fun q=>[(1,.int .i64 q.2.1),(2,.func (.func g) [] []),(23,.lit (ks.map Kid.av)),(24,.int .i64 ks.length),(25,.int .i64 q.1)])
  (fun q=>⟨A,false,.arr 3 0 [.agg [.int .i64 ((n+1:Nat):Int),.str [],.lit (ks.map Kid.av)]]::q.2.2⟩) (fun q=>q.1<=ks.length/\0<=q.2.1/\q.2.1<=a/\q.1<=(QG p ks a).1/\QG p ks a=((QG p (ks.drop q.1) q.2.1).1+q.1,(QG p (ks.drop q.1) q.2.1).2)) (fun q=>ks.length-q.1) (0,a,[]) rfl rfl ⟨Nat.zero_le _,h0,Int.le_refl _,Nat.zero_le _,rfl⟩ ?_
 rintro ⟨i,b,G⟩ ⟨hi,hb0,hba,hle,he⟩
 simp only at hi hb0 hba hle he ⊢
 rcases Nat.lt_or_ge i ks.length with hlt|hge
 ·obtain ⟨k,hk⟩:∃ k,ks[i]?=some k:=⟨ks[i]'hlt,jE _⟩
  have q:0<=((i:Nat):Int)/\ks[((i:Nat):Int).toNat]?=some k:=⟨by omega,by rw [show ((i:Nat):Int).toNat=i by omega];exact hk⟩
  have hgm:=fun st=>hg k.m st
  obtain ⟨f1,f2⟩:=hp.fit k.m _ (hf k (jM hk));have hd:=Zh7 (p:=p) hk b;obtain ⟨ka,km⟩:=k
  simp only at hgm f1 f2 hd
  unfold Mea.av at hgm
  generalize hpm:p km=z at *
  simp only [Kid.av] at *
  rcases Int.lt_or_le b z with hz|hz
  ·rw [if_pos hz] at hd
   rw [hd] at he;rw [he]
   have e1:(((0+i:Nat)):Int)=i:=by omega
   simp only [e1]
   repeat' (first|refine Y5 (f:=Kid.av) rfl rfl q (fun _=>rfl) ?_|refine ZE ?_|refine ZD ?_|refine ZG rfl ?_|refine ZO rfl rfl ?_|refine ZB rfl ?_|refine ZC ?_|refine QY rfl rfl rfl ?_|refine Qg rfl rfl ?_|(refine Zk rfl rfl (fun _=>?_) (fun _=>?_)<;>try (exfalso;omega))|refine ZU rfl ?_|refine Zt rfl rfl rfl ?_|refine Q1 rfl rfl rfl rfl rfl rfl ?_|refine ZA rfl rfl rfl (hgm _) ?_|refine ZI ?_|refine ZP ?_|refine ZQ ?_|refine ZJ ?_|refine ZZ ?_|refine Qc ?_|refine ZBy ?_)
   all_goals try contradiction
   all_goals try (exfalso;omega)
   refine Zb hA (by first|exact .inl rfl|exact .inr rfl) rfl rfl rfl rfl ?_
   rfl
  ·rw [if_neg (by omega)] at hd
   repeat' (first|refine Y5 (f:=Kid.av) rfl rfl q (fun _=>rfl) ?_|refine ZE ?_|refine ZD ?_|refine ZG rfl ?_|refine ZO rfl rfl ?_|refine ZB rfl ?_|refine ZC ?_|refine QY rfl rfl rfl ?_|refine Qg rfl rfl ?_|(refine Zk rfl rfl (fun _=>?_) (fun _=>?_)<;>try (exfalso;omega))|refine ZU rfl ?_|refine ZH rfl ?_|refine Zo rfl rfl (by omega) ?_|refine Qa rfl rfl (by omega) ?_|refine Zt rfl rfl rfl ?_|refine Q1 rfl rfl rfl rfl rfl rfl ?_|refine ZA rfl rfl rfl (hgm _) ?_|refine ZI ?_|refine ZQ ?_|refine QB ?_|refine QH ?_)
   all_goals try contradiction
   all_goals try (exfalso;omega)
   refine ⟨(i+1,b-z,G++[.arr 4 0 [Kid.av ⟨ka,km⟩]]),⟨rfl,rfl⟩,⟨by simp only;omega,by simp only;omega,by simp only;omega,?_,?_⟩,by simp only;omega⟩
   ·simp only;rw [he,hd];simp only;omega
   ·simp only;rw [he,hd];simp only;congr 1;omega
 ·exfalso
  omega
noncomputable def exR:AR:=(wrV (Qx exS) (JA 8 4)).1
def exRo:Ro:=⟨65538,1,⟨17,17,0⟩⟩
theorem Zpf:(wrV (Qx exS) (JA 8 4)).2.1=exRo:=by
 rw [ZgO];rfl
theorem Zpg:nw (Qx exS)=3:=by rw [ZgO];rfl
theorem Zqx:AROk exR/\GoodN exR.nodes/\Rt exR.nodes exRo exS:=by
 obtain ⟨b1,b2,b3⟩:=Xh ZNf (s:=exS) (by decide)
 have ho:=ZYg 8 4 (by omega) (by omega)
 obtain ⟨w1,w2⟩:=ZjJ (r:=JA 8 4) (ZFP [] [] [] _) ho ZNf b1 (by rw [b3];decide) (by rw [Zpg];decide)
 rw [show (JA 8 4).nodes=[] from rfl,b2,Zpf] at w2
 exact ⟨w1.ok,w1.good,w2⟩
theorem Zqy (a b c d f x y z u v:Int):eqV [(0,0),(1,0),(2,0),(3,0),(4,0)] 0 (.agg [.int .u64 a,.int .i64 b,.int .i64 c,.int .i64 d,.int .i64 f]) (.agg [.int .u64 x,.int .i64 y,.int .i64 z,.int .i64 u,.int .i64 v])=some (decide (a=x/\b=y/\c=z/\d=u/\f=v)):=by
 show (if decide (a=x)=true then (if decide (b=y)=true then (if decide (c=z)=true then (if decide (d=u)=true then (if decide (f=v)=true then some true else some false) else some false) else some false) else some false) else some false)=_
 by_cases h1:a=x<;>by_cases h2:b=y<;>by_cases h3:c=z<;>by_cases h4:d=u<;>by_cases h5:f=v<;>simp [h1,h2,h3,h4,h5]
theorem Zga {st:St} {la b:Nat} {N:ZL} (hR:Rd st la (b+5) N) {r:Ro} (hr:RtOk N r):S Tb ZBJ [.ptr la (b+5) 0 0 0,r.av] st=some (.int .i64 0,st):=by
 refine QE rfl (fun A hA=>?_)
 rcases hr with rfl|⟨h0,x,h1,h2,h3,h4⟩
 ·repeat' (first|refine ZE ?_|refine ZD ?_|refine ZG rfl ?_|refine ZS rfl rfl rfl rfl ?_|refine ZB rfl ?_|refine ZC ?_|refine ZU rfl ?_|refine ZH rfl ?_|refine Zq rfl rfl rfl ?_|refine JB rfl rfl rfl rfl ?_|refine Zf rfl rfl rfl ?_|refine ZI ?_|refine ZP ?_|refine ZJ ?_|refine ZZ ?_)
  all_goals try contradiction
  all_goals refine Zb hA (by first|exact .inl rfl|exact .inr rfl) rfl rfl rfl rfl ?_
  all_goals rfl
 ·have hG:=fun L=>ZYO (hR.push hA (ro:=false) (L:=L)) h1 h2.len
  have hok:NdOk x.copy:=by
   rcases h2 with q|⟨n,ks,q⟩
   ·left;exact ⟨q.h,q.lo,q.hi,q.ks⟩
   ·right;have e:=q.eq;subst e;exact ⟨n,ks,q⟩
  have hMe:=fun st=>ZFF x.copy hok st
  have hm:x.copy.mea=x.mea:=rfl;have hh:x.copy.h=x.h:=rfl;rw [hm,h4] at hMe
  have h0i:((r.at_:Nat):Int)≠0:=by omega
  have hne:¬ ((r.at_:Int)=0/\(r.h:Int)=0/\r.m.b=0/\r.m.r=0/\r.m.l=0):=fun q=>h0i q.1
  obtain ⟨ra,rh,rm⟩:=r
  simp only at h0 h1 h3 h4 hMe h0i hne
  have hcp:x.copy.av=.agg [.int .i64 x.h,.str x.text,.lit (x.ks.map Kid.av)]:=rfl;rw [hcp] at hG hMe
  generalize x.ks=yk at *
  obtain rfl:x.h=rh:=h3
  unfold Ro.av Mea.av at *
  simp only at *
  repeat' (first|refine ZE ?_|refine ZD ?_|refine ZG rfl ?_|refine ZO rfl rfl ?_|refine ZS rfl rfl rfl rfl ?_|refine QF rfl ?_|refine Zm rfl rfl rfl rfl ?_|refine Zu rfl rfl ?_|refine ZB rfl ?_|refine ZC ?_|(refine Zj rfl rfl (fun _=>?_) (fun _=>?_)<;>try (exfalso;omega))|(refine Zn rfl rfl (fun _=>?_) (fun _=>?_)<;>try (exfalso;omega))|refine ZU rfl ?_|refine ZH rfl ?_|refine Zq rfl rfl rfl ?_|refine JB rfl rfl rfl rfl ?_|refine Zf rfl rfl rfl ?_|refine Z5 rfl rfl rfl rfl rfl rfl ?_|refine ZA rfl rfl rfl (hG _) ?_|refine ZA rfl rfl rfl (hMe _) ?_|(refine ZCj rfl rfl (Zl7 _ _ _ _ _ _) (fun _=>?_) (fun _=>?_))|(refine ZCj rfl rfl (Zqy _ _ _ _ _ _ _ _ _ _) (fun _=>?_) (fun _=>?_))|refine ZI ?_|refine ZP ?_|refine ZJ ?_|refine ZZ ?_)
  all_goals try contradiction
  all_goals try (exfalso;omega)
  all_goals first|exact absurd ‹_› hne|(refine Zb hA (by first|exact .inl rfl|exact .inr rfl) rfl rfl rfl rfl ?_;rfl)|exact absurd (And.intro rfl (And.intro rfl rfl)) ‹_›
theorem ZkW:ZKz ZB7 Mea.b:=fun m st=>by
 refine QE rfl (fun A hA=>?_)
 unfold Mea.av
 repeat' (first|refine ZE ?_|refine ZD ?_|refine ZG rfl ?_|refine ZO rfl rfl ?_|refine ZS rfl rfl rfl rfl ?_|refine ZB rfl ?_|refine ZC ?_|refine Zf rfl rfl rfl ?_|refine ZP ?_|refine ZJ ?_)
 refine Zb hA (by first|exact .inl rfl|exact .inr rfl) rfl rfl rfl rfl ?_
 rfl
theorem Zo7 (n:Nat) (ks:List Kid) (hx:NdOk ⟨n+1,[],some ks⟩) (a:Int) (h0:0<=a) (h1:a<(Z7 (ks.map Kid.m)).b) (hb:a<=1000000) (st:St) :
 S Tb Xr [Nd.av ⟨n+1,[],some ks⟩,.int .i64 a] st=some (.tup [.int .i64 (QG Mea.b ks a).1,.int .i64 (QG Mea.b ks a).2,.int .i64 0],st):=by
 refine QE rfl (fun A hA=>?_)
 have hC:=fun st=>Zml ZkW comp_b n ks hx a h0 h1 hb st
 unfold Nd.av at *
 simp only [slV] at *
 repeat' (first|refine ZE ?_|refine ZD ?_|refine ZG rfl ?_|refine ZS rfl rfl rfl rfl ?_|refine Zu rfl rfl ?_|refine ZB rfl ?_|refine ZC ?_|refine Zf rfl rfl rfl ?_|refine ZA rfl rfl rfl (hC _) ?_|refine ZP ?_|refine ZJ ?_)
 refine Zb hA (by first|exact .inl rfl|exact .inr rfl) rfl rfl rfl rfl ?_
 rfl
structure Pass (σ:Int->St) (q:Mea->Int) (g:FuncId) (caps:List AV) (N:Nat):Prop where
 comp:Comp q
 len:∀ s,(σ s).ps.length=N
 call:∀ s m L,0<=s->s<=1000000000->m.Fit 65536->∃ v,S Tb g ([Mea.av m]++caps) ⟨(σ s).ps,false,L⟩=some (v,⟨(σ (s+q m)).ps,false,L⟩)
 wk:∀ m,ZW (Zd ([]++[Mea.av m]++caps))=some ([Mea.av m]++caps)
theorem Zo8 {O:Orc} {k:List Fr} {Q:JX} {e:Env} {st:St} {keep:List Nat} {is:List QAbs.PI} {d:Nat} {x b:Opd} {ks:List Kid} {i:Nat} (hx:Za e x=some (.lit (ks.map Kid.av))) (hb:Za e b=some (.int .i64 i)) (hi:i<=ks.length)
 (h:Is O is keep k Q ((d,.lit ((ks.take i).map Kid.av))::e) st):Is O (⟨some d,none,false,.slc 4 x none (some b)⟩::is) keep k Q e st:=by
 refine ZB1 hx hb ⟨by omega,by simp;omega⟩ (Zbx _) ?_
 rw [show ((i:Nat):Int).toNat=i by omega,<- List.map_take]
 exact h
theorem ZkX {σ:Int->St} {q:Mea->Int} {g:FuncId} {caps:List AV} {N:Nat} (hp:Pass σ q g caps N) {ks:List Kid} {L:List Blk} {v0 v3 v10 v12 v14 v16 v17:AV} (s0:Int) {A0:List (Bool × List Blk)} (hA0:A0=(σ s0).ps) {k:List Fr} {Q:JX}
 (hQ:∀ G,Rk (S Tb) k Q .norm [(0,v0),(3,v3),(4,.func (.func g) [] caps),(10,v10),(12,v12),(14,v14),(16,v16),(17,v17),(63,.lit (ks.map Kid.av)),(64,.int .i64 ks.length),(65,.int .i64 ks.length),(66,.bool false)] ⟨(σ (s0+q (Z7 (ks.map Kid.m)))).ps,false,L++G⟩) (hl:ks.length<100) (hs0:0<=s0/\s0<=900000000) (hfit:∀ k∈ks,k.m.Fit 65536) :
 Ru (S Tb) p_seek_walk_18.loop (.blk 2::k) Q [(0,v0),(3,v3),(4,.func (.func g) [] caps),(10,v10),(12,v12),(14,v14),(16,v16),(17,v17),(63,.lit (ks.map Kid.av)),(64,.int .i64 ks.length),(65,.int .i64 0)] ⟨A0,false,L⟩:=by
 subst hA0
 refine Z1 (α:=Nat × List Blk) (fun p=>[(0,v0),(3,v3),(4,.func (.func g) [] caps),(10,v10),(12,v12),(14,v14),(16,v16),(17,v17),(63,.lit (ks.map Kid.av)),(64,.int .i64 ks.length),(65,.int .i64 p.1)])
  (fun p=>⟨(σ (s0+QZ q ks p.1)).ps,false,L++p.2⟩) (fun p=>p.1<=ks.length) (fun p=>ks.length-p.1) (0,[]) rfl (by simp [QZ,Z7,hp.comp.zero]) (Nat.zero_le _) ?_
 rintro ⟨i,G⟩ hi
 simp only at hi ⊢
 rcases Nat.lt_or_ge i ks.length with hlt|hge
 ·obtain ⟨kd,hk⟩:∃ k,ks[i]?=some k:=⟨ks[i]'hlt,jE _⟩
  have qk:0<=((i:Nat):Int)/\ks[((i:Nat):Int).toNat]?=some kd:=⟨by omega,by rw [show ((i:Nat):Int).toNat=i by omega];exact hk⟩
  have hsu:=ZIf hp.comp hk
  have hsf:=hp.comp.fit _ _ (ZCT (l:=(ks.take i).map Kid.m) (fun m hm=>by obtain ⟨z,hz,rfl⟩:=List.mem_map.1 hm;exact hfit z (List.mem_of_mem_take hz)))
  rw [List.length_map,List.length_take,Nat.min_eq_left hi] at hsf
  change 0<=QZ q ks i/\QZ q ks i<=_ at hsf
  obtain ⟨v,hc⟩:=hp.call (s0+QZ q ks i) kd.m (L++G++[.arr 4 0 [kd.av]]) (by omega) (by omega) (hfit kd (jM hk))
  have hwk:=hp.wk kd.m
  have hG:L++G++[.arr 4 0 [kd.av]]=L++(G++[.arr 4 0 [kd.av]]):=List.append_assoc ..
  rw [show s0+QZ q ks i+q kd.m=s0+QZ q ks (i+1) by omega] at hc
  generalize hG3:L++(G++[.arr 4 0 [kd.av]])=L3 at *
  generalize hA1:(σ (s0+QZ q ks i)).ps=A1 at *
  obtain ⟨ka,km⟩:=kd
  unfold Kid.av Mea.av at *
  simp only at *
  repeat' (first|refine Y5 (f:=Kid.av) rfl rfl qk (fun _=>rfl) ?_|refine ZA rfl rfl hwk hc ?_|refine ZE ?_|refine ZD ?_|refine ZG rfl ?_|refine ZO rfl rfl ?_|refine ZB rfl ?_|refine ZC ?_|refine QY rfl rfl rfl ?_|refine Qg rfl rfl ?_|(refine Zk rfl rfl (fun _=>?_) (fun _=>?_)<;>try (exfalso;omega))|refine ZU rfl ?_|refine Zo rfl rfl (by omega) ?_|refine Zt rfl rfl rfl ?_|refine Q1 rfl rfl rfl rfl rfl rfl ?_|refine ZI ?_|refine ZQ ?_|refine QB ?_|refine QH ?_)
  all_goals try contradiction
  all_goals try (exfalso;omega)
  refine ⟨(i+1,G++[.arr 4 0 [Kid.av ⟨ka,km⟩]]),⟨rfl,?_⟩,by simp only;omega,by simp only;omega⟩
  simp only
  rw [<- hG3] at hG;exact congrArg (St.mk _ false) hG
 ·obtain rfl:i=ks.length:=by omega
  repeat' (first|refine ZE ?_|refine ZD ?_|refine ZB rfl ?_|refine ZC ?_|(refine Zk rfl rfl (fun _=>?_) (fun _=>?_)<;>try (exfalso;omega))|refine ZH rfl ?_|refine Zy ?_|refine Zg ?_|refine Ze rfl ?_|refine Zw ?_)
  all_goals try (exfalso;omega)
  unfold QZ;rw [List.take_length];exact hQ G
theorem ZkY {O:Orc} {k:List Fr} {Q:JX} {e:Env} {st:St} {keep:List Nat} {is:List QAbs.PI} {d:Nat} {α:Type} {f:α->AV} {l:List α} {w:Nat} {x i:Opd} {bs:List Opd} {n:Int} {a:α} (hx:Za e x=some (.lit (l.map f))) (hi:Za e i=some (.int .i64 n)) (ha:0<=n/\l[n.toNat]?=some a) (hw:(f a).wide=some w)
 (h:Is O is keep k Q ((d,.lptr (f a) 0)::e) st):Is O (⟨some d,none,false,.w (.hide bs) (.ixS w x i)⟩::is) keep k Q e st:=by
 have hlt:=(List.getElem?_eq_some_iff.1 ha.2).1
 have hn:0<=n/\n<((l.map f).length:Nat):=by rw [List.length_map];omega
 have hv:(l.map f)[n.toNat]?=some (f a):=by rw [jG,ha.2];rfl
 exact ZeQ (st':=st) (by simp only [Z8,PO.reads,if_true,evalPO,ZF hx,ZF hi,ixSV,YZ,if_pos hn,hv,if_pos hw,oS,QV,QK]) h
theorem Zh8 {O:Orc} {k:List Fr} {Q:JX} {e:Env} {st:St} {keep:List Nat} {is:List QAbs.PI} {d:Nat} {n:Nat} {a:Opd} {bs:List Opd} {x:AV} {o:Nat} {v:AV} {agg:Bool} (ha:Za e a=some (.lptr x o)) (hv:JI x agg o n=some v) (h:Is O is keep k Q ((d,v)::e) st):Is O (⟨some d,none,false,.w (.hide bs) (.ld agg n a)⟩::is) keep k Q e st :=
 ZeQ (st':=st) (by simp only [Z8,PO.reads,if_true,evalPO,ZF ha,loadP,hv,oS,QV,QK]) h
def Zh9 (M:Nat) (G:List Blk) (pv:AV) (path:List Nat):Prop:=(path=[]/\pv=.nils)\/∃ j ver,pv=.ref M (j+3) ver 0 path.length/\G[j]?=some (.arr 1 ver (path.map Y7))
theorem ZkZ {A:List (Bool × List Blk)} {b0 b1 box:Blk} {s:List UInt8} {z:Int} {pv v0 v3 v4 v10 v14 v15 v31:AV} {path:List Nat} {o:Nat} {G:List Blk} {k:List Fr} {Q:JX} (hP:Zh9 A.length G pv path) (hl:path.length<100)
 (h:∀ G' pv',Zh9 A.length G' pv' (path++[o])->G'[G.length]?=some box->Rk (S Tb) k Q .norm [(0,v0),(3,v3),(4,v4),(10,v10),(12,.ptr A.length 2 0 0 0),(14,v14)] ⟨A,false,b0::b1::.arr 3 0 [.agg [.str s,.int .i64 z,pv']]::G'⟩) :
 Ru (S Tb) ZJJ k Q [(0,v0),(3,v3),(4,v4),(10,v10),(12,.ptr A.length 2 0 0 0),(13,.int .u64 o),(14,v14),(15,v15),(31,v31)] ⟨A,false,b0::b1::.arr 3 0 [.agg [.str s,.int .i64 z,pv]]::(G++[box])⟩:=by
 rcases hP with ⟨rfl,rfl⟩|⟨j,ver,rfl,hg⟩
 ·repeat' (first|refine ZD ?_|refine ZG rfl ?_|refine ZO rfl rfl ?_|refine ZS rfl rfl rfl rfl ?_|refine JG rfl rfl rfl rfl ?_)
  refine ZFM (vx:=.lit [.int .u64 o]) (ys:=[.int .u64 o]) (bytes:=8) rfl rfl rfl (by simp) (by decide) rfl ?_
  repeat' (first|refine ZO rfl rfl ?_|refine ZB rfl ?_|refine JC rfl rfl rfl rfl (JL _ (Nat.lt_succ_self _)) rfl ?_)
  refine h (G++[box]++[.arr 1 0 [.int .u64 o]]) _ (.inr ⟨(G++[box]).length,0,?_,List.getElem?_concat_length ..⟩) ?_
  ·rfl
  ·rw [jL (by simp)];exact List.getElem?_concat_length ..
 ·have hj:=(List.getElem?_eq_some_iff.1 hg).1
  have hg2:(b0::b1::Blk.arr 3 0 [.agg [.str s,.int .i64 z,.ref A.length (j+3) ver 0 path.length]]::(G++[box]))[j+3]?=some (.arr 1 ver (path.map Y7)):=by
   show (G++[box])[j]?=_
   rw [jL hj];exact hg
  repeat' (first|refine ZD ?_|refine ZG rfl ?_|refine ZO rfl rfl ?_|refine ZS rfl rfl rfl rfl ?_|refine JG rfl rfl rfl rfl ?_)
  refine ZBi (es:=path.map Y7) (ys:=[.int .u64 o]) rfl rfl hg2 (by rw [List.length_map]) rfl rfl (by simp;omega) (by decide) ?_
  repeat' (first|refine ZO rfl rfl ?_|refine ZB rfl ?_|refine JC rfl rfl rfl rfl (JL _ (Nat.lt_succ_self _)) rfl ?_)
  refine h ((G++[box]).set j (.arr 1 (ver+1) (path.map Y7++[.int .u64 o]))) (.ref A.length (j+3) (ver+1) 0 (path.length+1)) (.inr ⟨j,ver+1,by simp,?_⟩) ?_
  ·rw [List.getElem?_set_self (by simp;omega),List.map_append];rfl
  ·rw [jS (by omega)];exact List.getElem?_concat_length ..
theorem Zmm {b lv ix ver q n:Nat} {z:Int} {s:List UInt8} (st:St) (hl:lv<b):ZY QJ b st (.agg [.str s,.int .i64 z,.ref lv ix ver q n])=some (.agg [.str s,.int .i64 z,.ref lv ix ver q n],st):=by
 show (mapSt (keepN (ZY 5 b)) _ _).bind ZFm=_
 simp only [mapSt,keepN,XB,jB,if_false,ZY,oS,if_pos hl,YY,ZFm]
theorem Zo9 {A:List (Bool × List Blk)} {L:List Blk} {ix ver n:Nat} {s:List UInt8} {z z2:Int} {l:List Nat} (hg:L[ix]?=some (.arr 1 ver (l.map Y7))) (hn:n=l.length) :
 ZY QJ A.length ⟨A,false,L⟩ (.tup [.agg [.str s,.int .i64 z,.ref A.length ix ver 0 n],.int .i64 z2])=some (.tup [.agg [.str s,.int .i64 z,.lit (l.map Y7)],.int .i64 z2],⟨A,false,L.set ix .dead⟩):=by
 subst hn
 have h1:=ZIQ (n:=3) (A:=A) (s:=0) (m:=l.length) hg (by simp) (es':=l.map Y7) (by
  rw [List.drop_zero,List.take_of_length_le (by simp)]
  exact ZQQ (k:=.u64) (fun n:Nat=>(n:Int)) 2 0 _ l)
 show (mapSt (ZY 5 A.length) _ _).bind ZcN=_
 have h2:ZY 5 A.length ⟨A,false,L⟩ (.agg [.str s,.int .i64 z,.ref A.length ix ver 0 l.length])=some (.agg [.str s,.int .i64 z,.lit (l.map Y7)],⟨A,false,L.set ix .dead⟩):=by
  show (mapSt (keepN (ZY 4 A.length)) _ _).bind ZFm=_
  simp only [mapSt,keepN,XB,jB,if_false,oS];simp only [ZY,oS] at h1 ⊢;simp only [h1,oS,YY,ZFm]
 simp only [mapSt,h2,oS];rfl
theorem ZqO {e:Env} {A:List (Bool × List Blk)} {st:St} {L:List Blk} {x:Ex} {c4 c5 j4 w4 v4 ix ver n:Nat} {s:List UInt8} {z z2:Int} {l:List Nat} (hA:A=st.A++[(st.ro,st.L)]) (hx:x=.norm\/x=.ret) (h4:Jp e c4=some (.ptr A.length j4 v4 0 0)) (hg4:L[j4]?=some (.arr w4 v4 [.agg [.str s,.int .i64 z,.ref A.length ix ver 0 n]]))
 (hg:L[ix]?=some (.arr 1 ver (l.map Y7))) (hn:n=l.length) (h5:Jp e c5=some (.int .i64 z2)):Jf false [.c c4 true 3,.s c5] (x,e,⟨A,false,L⟩)=some (.tup [.agg [.str s,.int .i64 z,.lit (l.map Y7)],.int .i64 z2],st):=by
 refine ZC1 (v:=.tup [.agg [.str s,.int .i64 z,.ref A.length ix ver 0 n],.int .i64 z2]) hA hx ?_ (Zo9 hg hn) rfl
 have h1:ZAt ⟨A,false,L⟩ e (.c c4 true 3)=some (.agg [.str s,.int .i64 z,.ref A.length ix ver 0 n]):=by
  simp only [ZAt,QL h4,loadP,St.get_cur,hg4,vis,ZCf,if_true,List.getElem?_cons_zero,oS];rfl
 simp only [QT,ZCy,h1,oS];simp only [ZAt,QL h5,oS,Option.map_some,ZFQ]
end Go.Q15
namespace Go.QAbs
section
variable {O:Orc} {k:List Fr} {Q:JX} {e:Env} {A:List (Bool × List Blk)} {L:List Blk} {keep:List Nat} {is:List PI} {d:Nat} {st:St}
theorem ZYk {a x b:Opd} {n lv ix v1 i1 o1 v2 i2 o2:Nat} {vx:AV} (ha:Za e a=some (.ptr lv ix v1 i1 o1)) (hb:Za e b=some (.ptr lv ix v2 i2 o2)) (hx:Za e x=some vx) (hi:imm 6 vx=true)
 (h:Is O (⟨none,none,false,.st n a x⟩::is) keep k Q e st):Is O (⟨none,none,false,.w (.plain b) (.st n a x)⟩::is) keep k Q e st:=by
 refine ZeX ?_ h
 have hs:ZEA (.ptr lv ix v1 i1 o1) (.ptr lv ix v2 i2 o2)=true:=by simp [ZEA]
 simp only [Zc,Z8,ZJX,ZF ha,ZF hb,ZF hx,hs,hi,and_self,if_true]
end
end Go.QAbs
namespace Go.Q15
open Go Go.QAbs
set_option maxRecDepth 100000
set_option maxHeartbeats 8000000
structure NextOk (f:FuncId) (ch:List Kid->Int->Nat × Int) (D:Mea->Int->Prop):Prop where
 call:∀ n ks,NdOk ⟨n+1,[],some ks⟩->∀ a,D (Z7 (ks.map Kid.m)) a->∀ st,S Tb f [Nd.av ⟨n+1,[],some ks⟩,.int .i64 a] st=some (.tup [.int .i64 (ch ks a).1,.int .i64 (ch ks a).2,.int .i64 0],st)
 ok:∀ ks a,(∀ k∈ks,k.m.Fit 65536)->D (Z7 (ks.map Kid.m)) a->(ch ks a).1<ks.length/\∀ k,ks[(ch ks a).1]?=some k->D k.m (ch ks a).2
theorem Zgb:NextOk Xr (QG Mea.b) (fun m a=>0<=a/\a<m.b/\m.b<=1000000) where
 call n ks hx a ha st:=Zo7 n ks hx a ha.1 ha.2.1 (by omega) st
 ok ks a hf ha:=by
  obtain ⟨h1,h2,h3,h4⟩:=ZIE comp_b ks a hf ha.1 ha.2.1
  exact ⟨h1,fun k hk=>⟨h3,h4 k hk,by have:=(hf k (jM hk)).2;omega⟩⟩
def Q8 (ch:List Kid->Int->Nat × Int) (q:Mea->Int) (N:ZL):Nat->Nat->Int->(List UInt8 × Int) × List Nat × Int
 | 0,o,a=>(((QS N o).text,a),[o],0)
 | n+1,o,a =>
  let c:=ch (QS N o).ks a
  let r:=Q8 ch q N n (((QS N o).ks[c.1]?.map Kid.at_).getD 0) c.2
  (r.1,o::r.2.1,QZ q (QS N o).ks c.1+r.2.2)
structure WkS where
 n:Nat
 o:Nat
 a:Int
 s:Int
 path:List Nat
 pv:AV
 G:List Blk
structure WkInv (N:ZL) (D:Mea->Int->Prop) (M:Nat) (p:WkS) (ch:List Kid->Int->Nat × Int) (q:Mea->Int) (s0:Int) (R:(List UInt8 × Int) × List Nat × Int):Prop where
 nd:∃ x,lk N p.o=some x/\NdOk x/\x.h=p.n/\D x.mea p.a
 path:Zh9 M p.G p.pv p.path
 len:p.path.length+p.n<100
 sb:0<=p.s/\p.s<=1000+300000*p.path.length
 res:R=((Q8 ch q N p.n p.o p.a).1,p.path++(Q8 ch q N p.n p.o p.a).2.1,p.s-s0+(Q8 ch q N p.n p.o p.a).2.2)
theorem Zgc {σ:Int->St} {q:Mea->Int} {g f:FuncId} {caps:List AV} {M:Nat} (hp:Pass σ q g caps M) {ch:List Kid->Int->Nat × Int} {D:Mea->Int->Prop} (hf:NextOk f ch D) {N:ZL} (hN:GoodN N) {la b:Nat} (hR:∀ s,Rd (σ s) la (b+5) N) {r:Ro} (hr:RtOk N r) (h0:r.at_≠0) (a:Int) (ha:D r.m a) (s0:Int) (hs0:0<=s0/\s0<=1000) :
 S Tb ZCo [.ptr la (b+5) 0 0 0,r.av,.int .i64 a,.func (.func f) [] [],.func (.func g) [] caps] (σ s0)=some (.tup [.agg [.str (Q8 ch q N r.h r.at_ a).1.1,.int .i64 (Q8 ch q N r.h r.at_ a).1.2,.lit ((Q8 ch q N r.h r.at_ a).2.1.map Y7)],.int .i64 0],σ (s0+(Q8 ch q N r.h r.at_ a).2.2)):=by
 refine ZCW rfl (fun A hA=>?_)
 obtain ⟨x0,x1,x2,x3,x4⟩:∃ x,lk N r.at_=some x/\NdOk x/\x.h=r.h/\x.mea=r.m:=by
  rcases hr with rfl|w
  ·exact absurd rfl h0
  ·exact w.2
 have h13:=hr.h13 hN;have hM:=hp.len s0;obtain ⟨R,hRes⟩:∃ R,R=Q8 ch q N r.h r.at_ a:=⟨_,rfl⟩;rw [<- hRes];have hA':A=(σ s0).ps:=hA
 have hAM:A.length=M:=by rw [hA'];exact hM
 unfold Ro.av
 repeat' (first|refine Zt rfl rfl rfl ?_|refine ZE ?_|refine ZD ?_|refine ZG rfl ?_|refine ZO rfl rfl ?_|refine ZS rfl rfl rfl rfl ?_|refine ZB rfl ?_|refine ZC ?_|refine Zq rfl rfl rfl ?_|refine Q1 rfl rfl rfl rfl rfl rfl ?_|refine ZQ ?_)
 rw [hAM,hA']
 refine Z1 (α:=WkS) (fun p=>[(0,.ptr la (b+5) 0 0 0),(3,.func (.func f) [] []),(4,.func (.func g) [] caps),(10,.ptr M 1 0 0 0),(12,.ptr M 2 0 0 0),(13,.int .u64 p.o)])
  (fun p=>⟨(σ p.s).ps,false,.arr 5 0 [r.av]::.arr 3 0 [.agg [.str [],.int .i64 0,.nils]]::.arr 3 0 [.agg [.str [],.int .i64 p.a,p.pv]]::p.G⟩)
  (fun p=>WkInv N D M p ch q s0 R) (fun p=>p.n) ⟨r.h,r.at_,a,s0,[],.nils,[]⟩ rfl rfl ⟨⟨x0,x1,x2,x3,by rw [x4];exact ha⟩,.inl ⟨rfl,rfl⟩,by simp only [List.length_nil];omega,by simp only [List.length_nil];omega,by rw [hRes];simp⟩ ?_
 rintro ⟨n,o,a,s,path,pv,G⟩ hI
 obtain ⟨⟨x,y1,y2,y3,y4⟩,hPa,hln,hsb,hres⟩:=hI
 simp only at y1 y3 y4 hPa hln hsb hres ⊢
 have hG:=fun L=>ZYO ((hR s).push rfl (ro:=false) (L:=L)) y1 y2.len
 have hcp:x.copy.av=.agg [.int .i64 x.h,.str x.text,.lit (x.ks.map Kid.av)]:=rfl;rw [hcp,y3] at hG;have hlA:=hp.len s;obtain ⟨A1,hA1⟩:∃ A1,A1=(σ s).ps:=⟨_,rfl⟩
 have e1:M=A1.length:=by rw [hA1];exact hlA.symm
 have hpl:=fun s'=>hp.len s'
 simp only [show (σ s).A++[((σ s).ro,(σ s).L)]=(σ s).ps from rfl,<- hA1] at hG
 rw [<- hA1];clear hlA;subst e1
 have hpath:=fun (v0 v3 v4 v10 v14 v15 v31:AV) (box b0 b1:Blk) (k:List Fr) (Q:JX)=>ZkZ (A:=A1) (b0:=b0) (b1:=b1) (box:=box) (s:=[]) (z:=a) (v0:=v0) (v3:=v3) (v4:=v4) (v10:=v10) (v14:=v14) (v15:=v15) (v31:=v31) (o:=o) (k:=k) (Q:=Q) hPa (by omega)
 have hnd:=YL y1
 cases n with
 | zero =>
  repeat' (first|refine hpath _ _ _ _ _ _ _ _ _ _ _ _ (fun G' pv' hP' hb=>?_)|refine ZE ?_|refine ZD ?_|refine ZG rfl ?_|refine ZO rfl rfl ?_|refine Zu rfl rfl ?_|refine ZB rfl ?_|refine ZC ?_|(refine Zn rfl rfl (fun _=>?_) (fun _=>?_)<;>try (exfalso;omega))|refine ZH rfl ?_|refine Zt rfl rfl rfl ?_|refine Q1 rfl rfl rfl rfl rfl rfl ?_|refine ZA rfl rfl rfl (hG _) ?_|refine ZI ?_|refine ZQ ?_)
  all_goals try contradiction
  rcases hP' with ⟨w,_⟩|⟨j,ver,rfl,hg⟩
  ·exact absurd w (by simp)
  have hg3:∀ b0 b1 b2:Blk,(b0::b1::b2::G')[j+3]?=some (.arr 1 ver ((path++[o]).map Y7)):=fun _ _ _=>hg
  repeat' (first|refine ZS rfl hb rfl rfl ?_|refine JC rfl rfl rfl rfl (Zmm _ (Nat.lt_succ_self _)) rfl ?_|refine ZE ?_|refine ZD ?_|refine ZG rfl ?_|refine ZO rfl rfl ?_|refine ZS rfl rfl rfl rfl ?_|refine ZB rfl ?_|refine ZC ?_|(refine Zj rfl rfl (fun _=>?_) (fun _=>?_)<;>try (exfalso;omega))|refine ZU rfl ?_|refine JC rfl rfl rfl rfl rfl rfl ?_|refine ZP ?_|refine ZJ ?_|refine ZZ ?_|refine Qc ?_|refine ZBy ?_)
  all_goals try contradiction
  refine (ZqO (st:=σ s) hA1 (.inr rfl) rfl rfl (hg3 _ _ _) rfl rfl).trans ?_;rw [hres];simp only [Q8,hnd,Int.add_zero]
  rw [show s0+(s-s0)=s by omega]
 | succ n =>
  obtain ⟨ks,hi⟩:∃ ks,InnerOk x n ks:=by
   rcases y2 with w|⟨m,ks,w⟩
   ·have:=w.h;omega
   ·have e:=w.eq
    have:m=n:=by rw [e] at y3;simpa using y3
    exact ⟨ks,this▸w⟩
  have e:=hi.eq;have hkids:=(hN o x y1).2
  have hfit:∀ k∈ks,k.m.Fit 65536:=fun k hk=>(hi.kid k hk).fit
  subst e;have hks:Nd.ks ⟨n+1,[],some ks⟩=ks:=rfl;rw [hks] at hG;have hD:D (Z7 (ks.map Kid.m)) a:=y4
  have hCl:=fun st=>hf.call n ks y2 a hD st
  obtain ⟨c1,c2⟩:=hf.ok ks a hfit hD;obtain ⟨k,hk⟩:∃ k,ks[(ch ks a).1]?=some k:=⟨_,jE c1⟩;have c3:=c2 k hk
  have hseek:Q8 ch q N (n+1) o a=((Q8 ch q N n k.at_ (ch ks a).2).1,o::(Q8 ch q N n k.at_ (ch ks a).2).2.1,QZ q ks (ch ks a).1+(Q8 ch q N n k.at_ (ch ks a).2).2.2):=by
   rw [Q8,hnd];simp only [hks,hk,Option.map_some,Option.getD_some]
  have hi2:=hi.hi
  have qk:0<=(((ch ks a).1:Nat):Int)/\ks[(((ch ks a).1:Nat):Int).toNat]?=some k:=⟨by omega,by rw [show (((ch ks a).1:Nat):Int).toNat=(ch ks a).1 by omega];exact hk⟩
  have hsf:=hp.comp.fit _ _ (ZCT (l:=(ks.take (ch ks a).1).map Kid.m) (fun m hm=>by obtain ⟨z,hz,rfl⟩:=List.mem_map.1 hm;exact hfit z (List.mem_of_mem_take hz)))
  rw [List.length_map,List.length_take,Nat.min_eq_left (Nat.le_of_lt c1)] at hsf
  change 0<=QZ q ks (ch ks a).1/\QZ q ks (ch ks a).1<=_ at hsf
  have hsumK:q (Z7 ((ks.take (ch ks a).1).map Kid.m))=QZ q ks (ch ks a).1:=rfl
  generalize (ch ks a).1=ci at *
  generalize (ch ks a).2=cr at *
  unfold Nd.av at hCl;simp only [slV] at hCl
  have hlt:(ks.take ci).length=ci:=by simp;omega
  repeat' (first|refine hpath _ _ _ _ _ _ _ _ _ _ _ _ (fun G' pv' hP' hb=>?_)|refine ZE ?_|refine ZD ?_|refine ZG rfl ?_|refine ZO rfl rfl ?_|refine Zu rfl rfl ?_|refine ZB rfl ?_|refine ZC ?_|(refine Zn rfl rfl (fun _=>?_) (fun _=>?_)<;>try (exfalso;omega))|refine ZH rfl ?_|refine Zt rfl rfl rfl ?_|refine Q1 rfl rfl rfl rfl rfl rfl ?_|refine ZA rfl rfl rfl (hG _) ?_|refine ZI ?_|refine ZQ ?_)
  all_goals try contradiction
  repeat' (first|refine ZS rfl hb rfl rfl ?_|refine Zo8 rfl rfl (Nat.le_of_lt c1) ?_|refine ZFl rfl ?_|refine ZE ?_|refine ZD ?_|refine ZG rfl ?_|refine ZO rfl rfl ?_|refine ZS rfl rfl rfl rfl ?_|refine Zu rfl rfl ?_|refine ZB rfl ?_|refine ZC ?_|(refine Zj rfl rfl (fun _=>?_) (fun _=>?_)<;>try (exfalso;omega))|(refine Zn rfl rfl (fun _=>?_) (fun _=>?_)<;>try (exfalso;omega))|refine ZH rfl ?_|refine ZA rfl rfl rfl (hCl _) ?_|refine ZI ?_|refine ZQ ?_)
  all_goals try contradiction
  all_goals try (exfalso;omega)
  refine ZkX hp s hA1 (fun G2=>?_) (by omega) (by omega) (fun z hz=>hfit z (List.mem_of_mem_take hz))
  rw [hsumK];obtain ⟨A2,hA2⟩:∃ A2,A2=(σ (s+QZ q ks ci)).ps:=⟨_,rfl⟩
  have e2:A1.length=A2.length:=by rw [hA2];exact (hpl _).symm
  rw [<- hA2,e2];rw [e2] at hP';have hb2:=hb.symm▸jL (m:=G2) (List.getElem?_eq_some_iff.1 hb).1
  have hb3:∀ b0 b1 b2:Blk,(b0::b1::b2::G'++G2)[G.length+1+1+1]?=_:=fun _ _ _=>hb2
  rcases hP' with ⟨w,_⟩|⟨j,ver,rfl,hg⟩
  ·exact absurd w (by simp)
  repeat' (first|refine ZBo rfl rfl rfl (hb3 _ _ _) rfl rfl ?_|refine ZkY (f:=Kid.av) rfl rfl qk rfl ?_|refine Zh8 rfl rfl ?_|refine ZYk rfl rfl rfl rfl ?_|refine JC rfl rfl rfl rfl rfl rfl ?_|refine ZD ?_|refine ZG rfl ?_|refine ZO rfl rfl ?_|refine ZB rfl ?_|refine ZC ?_|refine QB ?_|refine QH ?_)
  all_goals try contradiction
  obtain ⟨_,y,z1,z2,z3⟩:=hkids k (jM hk);rw [hA2]
  refine ⟨⟨n,k.at_,cr,s+QZ q ks ci,path++[o],.ref (σ (s+QZ q ks ci)).ps.length (j+3) ver 0 (path++[o]).length,G'++G2⟩,⟨rfl,rfl⟩,⟨⟨y,z1,(hN _ y z1).1,by simp only at z2 ⊢;omega,by rw [z3];exact c3⟩,.inr ⟨j,ver,rfl,?_⟩,by simp only [lL,List.length_singleton];omega,by simp only [lL,List.length_singleton];omega,?_⟩,Nat.lt_succ_self _⟩
  ·show (G'++G2)[j]?=_
   rw [jL (List.getElem?_eq_some_iff.1 hg).1];exact hg
  ·rw [hres,hseek]
   simp only [List.append_assoc,List.singleton_append]
   congr 2
   omega
theorem ZYl {N:ZL} {n:Nat}:∀ {ks:List Kid},(∀ k∈ks,Qk (QI N n k.at_)=k.m)->Qk (ks.flatMap fun k=>QI N n k.at_)=Z7 (ks.map Kid.m):=by
 intro ks
 induction ks with
 | nil=>intro _;rfl
 | cons k l ih =>
  intro h
  rw [List.flatMap_cons,ZCv,h k (by simp),ih (fun z hz=>h z (List.mem_cons_of_mem _ hz)),jC,Z7]
theorem NdOk.ksFit {x:Nd} (h:NdOk x):∀ k∈x.ks,k.m.Fit 65536:=by
 rcases h with q|⟨n,ks,q⟩
 ·rw [q.ks];intro k hk;simp at hk
 ·have e:=q.eq;subst e;exact fun k hk=>(q.kid k hk).fit
theorem ZcE {p q:Mea->Int} (hp:Comp p) (hq:Comp q) {N:ZL} (hN:GoodN N):∀ (n o:Nat) (x:Nd) (a:Int),lk N o=some x->x.h=n->0<=a->a<p x.mea ->
 ∃ pre leaf post,QI N n o=pre++leaf++post/\(Q8 (QG p) q N n o a).1=(leaf,a-p (Qk pre))/\0<=a-p (Qk pre)/\a-p (Qk pre)<p (Qk leaf)/\(Q8 (QG p) q N n o a).2.2=q (Qk pre):=by
 intro n
 induction n with
 | zero =>
  intro o x a hx hh h0 h1
  have hm:x.mea=Qk x.text:=by unfold Nd.mea;rw [if_pos hh]
  have e:p (Qk [])=0:=by rw [Zf4];exact hp.zero
  have e2:q (Qk [])=0:=by rw [Zf4];exact hq.zero
  refine ⟨[],x.text,[],?_,?_,by rw [e];omega,by rw [e,<- hm];omega,by rw [e2];rfl⟩
  ·rw [QI,hx];simp
  ·rw [Q8,YL hx,e];simp
 | succ n ih =>
  intro o x a hx hh h0 h1;obtain ⟨hok,hkids⟩:=hN o x hx
  have hm:x.mea=Z7 (x.ks.map Kid.m):=by unfold Nd.mea;rw [if_neg (by omega)]
  rw [hm] at h1;obtain ⟨c1,c2,c3,c4⟩:=ZIE hp x.ks a hok.ksFit h0 h1;obtain ⟨k,hk⟩:∃ k,x.ks[(QG p x.ks a).1]?=some k:=⟨_,jE c1⟩;have c5:=c4 k hk;obtain ⟨_,y,y1,y2,y3⟩:=hkids k (jM hk)
  have hmk:∀ k∈x.ks,Qk (QI N n k.at_)=k.m:=fun k hk=>by
   obtain ⟨_,y,y1,y2,y3⟩:=hkids k hk
   rw [ZAW hN n k.at_ y y1 (by omega),y3]
  obtain ⟨pre,leaf,post,t1,t2,t3,t4,t5⟩:=ih k.at_ y (QG p x.ks a).2 y1 (by omega) c3 (by rw [y3];exact c5)
  have hseek:Q8 (QG p) q N (n+1) o a=((Q8 (QG p) q N n k.at_ (QG p x.ks a).2).1,o::(Q8 (QG p) q N n k.at_ (QG p x.ks a).2).2.1,QZ q x.ks (QG p x.ks a).1+(Q8 (QG p) q N n k.at_ (QG p x.ks a).2).2.2):=by
   rw [Q8,YL hx];simp only [hk,Option.map_some,Option.getD_some]
  rw [hseek,c2] at *
  generalize hci:(QG p x.ks a).1=ci at *
  have hsplit:x.ks=x.ks.take ci++k::x.ks.drop (ci+1):=by
   have:=List.take_append_drop ci x.ks
   rw [ZIe hk] at this;exact this.symm
  have hpm:Qk ((x.ks.take ci).flatMap fun k=>QI N n k.at_)=Z7 ((x.ks.take ci).map Kid.m):=ZYl (fun z hz=>hmk z (List.mem_of_mem_take hz))
  have e3:p (Qk ((x.ks.take ci).flatMap (fun k=>QI N n k.at_)++pre))=QZ p x.ks ci+p (Qk pre):=by
   rw [ZCv,hp.add,hpm];rfl
  have e4:q (Qk ((x.ks.take ci).flatMap (fun k=>QI N n k.at_)++pre))=QZ q x.ks ci+q (Qk pre):=by
   rw [ZCv,hq.add,hpm];rfl
  refine ⟨(x.ks.take ci).flatMap (fun k=>QI N n k.at_)++pre,leaf,post++(x.ks.drop (ci+1)).flatMap (fun k=>QI N n k.at_),?_,?_,?_,?_,?_⟩
  ·rw [QI,hx]
   simp only [Option.map_some,Option.getD_some];rw [hsplit,List.flatMap_append,List.flatMap_cons,t1]
   have e:((x.ks.take ci++k::x.ks.drop (ci+1)).take ci)=x.ks.take ci:=by rw [<- hsplit]
   have e':((x.ks.take ci++k::x.ks.drop (ci+1)).drop (ci+1))=x.ks.drop (ci+1):=by rw [<- hsplit]
   rw [e,e'];simp only [List.append_assoc]
  ·simp only
   rw [t2,e3]
   congr 1
   omega
  ·rw [e3];omega
  ·rw [e3];omega
  ·simp only
   rw [t5,e4]
theorem Zka {p q:Mea->Int} (hp:Comp p) {N:ZL} (hN:GoodN N):∀ (n o:Nat) (x:Nd) (a:Int),lk N o=some x->x.h=n->0<=a->a<p x.mea ->
 (Q8 (QG p) q N n o a).2.1.length=n+1/\(Q8 (QG p) q N n o a).2.1[0]?=some o /\
 ∀ j h,(Q8 (QG p) q N n o a).2.1[j]?=some h->∃ y,lk N h=some y/\y.h+j=n/\(y.h=0->y.text=(Q8 (QG p) q N n o a).1.1)/\∀ h',(Q8 (QG p) q N n o a).2.1[j+1]?=some h'->∃ (i:Nat) (k:Kid),y.ks[i]?=some k/\k.at_=h':=by
 intro n
 induction n with
 | zero =>
  intro o x a hx hh h0 h1;rw [Q8]
  refine ⟨rfl,rfl,fun j h hj=>?_⟩
  match j,hj with
  | 0,hj =>
   obtain rfl:o=h:=by simpa using hj
   exact ⟨x,hx,by omega,fun _=>by simp only [YL hx],fun h' q=>by simp at q⟩
  | j+1,hj=>simp at hj
 | succ n ih =>
  intro o x a hx hh h0 h1;obtain ⟨hok,hkids⟩:=hN o x hx
  have hm:x.mea=Z7 (x.ks.map Kid.m):=by unfold Nd.mea;rw [if_neg (by omega)]
  rw [hm] at h1;obtain ⟨c1,c2,c3,c4⟩:=ZIE hp x.ks a hok.ksFit h0 h1;obtain ⟨k,hk⟩:∃ k,x.ks[(QG p x.ks a).1]?=some k:=⟨_,jE c1⟩;have c5:=c4 k hk;obtain ⟨_,y,y1,y2,y3⟩:=hkids k (jM hk)
  obtain ⟨i1,i2,i3⟩:=ih k.at_ y (QG p x.ks a).2 y1 (by omega) c3 (by rw [y3];exact c5)
  have hseek:Q8 (QG p) q N (n+1) o a=((Q8 (QG p) q N n k.at_ (QG p x.ks a).2).1,o::(Q8 (QG p) q N n k.at_ (QG p x.ks a).2).2.1,QZ q x.ks (QG p x.ks a).1+(Q8 (QG p) q N n k.at_ (QG p x.ks a).2).2.2):=by
   rw [Q8,YL hx];simp only [hk,Option.map_some,Option.getD_some]
  rw [hseek]
  simp only
  generalize Q8 (QG p) q N n k.at_ (QG p x.ks a).2=R at *
  refine ⟨by rw [List.length_cons,i1],rfl,fun j h hj=>?_⟩
  match j,hj with
  | 0,hj =>
   obtain rfl:o=h:=by simpa using hj
   refine ⟨x,hx,by omega,fun q=>by omega,fun h' hq=>⟨_,k,hk,?_⟩⟩
   simp only [Nat.zero_add,List.getElem?_cons_succ] at hq;rw [i2] at hq;exact Option.some.inj hq
  | j+1,hj =>
   simp only [List.getElem?_cons_succ] at hj ⊢;obtain ⟨z,z1,z2,z3,z4⟩:=i3 j h hj
   exact ⟨z,z1,by omega,z3,z4⟩
theorem Zmn (m:Mea) (st:St):S Tb ZAc [m.av] st=some (.tup [],st):=by
 refine QE rfl (fun A hA=>?_)
 unfold Mea.av
 repeat' (first|refine ZD ?_|refine ZB rfl ?_|refine Zf rfl rfl rfl ?_|refine ZJ ?_)
 refine Zb hA (by first|exact .inl rfl|exact .inr rfl) rfl rfl rfl rfl ?_
 rfl
theorem Zkb (st:St):Pass (fun _=>st) Mea.b ZAc [] st.ps.length :=
 ⟨comp_b,fun _=>rfl,fun s m L _ _ _=>⟨_,Zmn m _⟩,fun m=>rfl⟩
abbrev Jx (N:ZL) (r:Ro) (a:Int):(List UInt8 × Int) × List Nat × Int:=Q8 (QG Mea.b) Mea.b N r.h r.at_ a
theorem RtOk.nz {N:ZL} {r:Ro} (h:RtOk N r) (hb:0<r.m.b):r.at_≠0/\∃ x,lk N r.at_=some x/\NdOk x/\x.h=r.h/\x.mea=r.m:=by
 rcases h with rfl|w
 ·simp [Ro.zero,Mea.zero] at hb
 ·exact w
theorem ZqP {st:St} {la b:Nat} {N:ZL} (hN:GoodN N) (hR:Rd st la (b+5) N) {r:Ro} (hr:RtOk N r) (a:Int) (h0:0<=a) (h1:a<r.m.b) (hb:r.m.b<=1000000) :
 S Tb ZGy [.ptr la (b+5) 0 0 0,r.av,.int .i64 a] st=some (.tup [.str (Jx N r a).1.1,.int .i64 (Jx N r a).1.2,.lit ((Jx N r a).2.1.map Y7),.int .i64 0],st):=by
 refine QE rfl (fun A hA=>?_)
 have hC:=fun L=>Zga (hR.push hA (ro:=false) (L:=L)) hr
 have hW:=fun L=>Zgc (Zkb ⟨A,false,L⟩) Zgb hN (fun _=>hR.push hA (ro:=false) (L:=L)) hr (hr.nz (by omega)).1 a ⟨h0,h1,hb⟩ 0 ⟨by decide,by decide⟩
 unfold Jx
 generalize Q8 (QG Mea.b) Mea.b N r.h r.at_ a=R at *
 unfold Ro.av at *
 repeat' (first|refine ZE ?_|refine ZD ?_|refine ZG rfl ?_|refine ZO rfl rfl ?_|refine ZS rfl rfl rfl rfl ?_|refine QF rfl ?_|refine Zm rfl rfl rfl rfl ?_|refine Zu rfl rfl ?_|refine ZB rfl ?_|refine ZC ?_|(refine Zk rfl rfl (fun _=>?_) (fun _=>?_)<;>try (exfalso;omega))|(refine J1 rfl rfl (fun _=>?_) (fun _=>?_)<;>try (exfalso;omega))|(refine Zn rfl rfl (fun _=>?_) (fun _=>?_)<;>try (exfalso;omega))|refine ZH rfl ?_|refine Zf rfl rfl rfl ?_|refine Z5 rfl rfl rfl rfl rfl rfl ?_|refine ZA rfl rfl rfl (hC _) ?_|refine ZA rfl rfl rfl (hW _) ?_|refine ZI ?_|refine ZP ?_|refine ZJ ?_)
 all_goals try contradiction
 all_goals try (exfalso;omega)
 refine Zb hA (by first|exact .inl rfl|exact .inr rfl) rfl rfl rfl rfl ?_
 rfl
end Go.Q15
namespace Go.QAbs
theorem Yv {A:List (Bool × List Blk)} {L T:List Blk} {lv ix:Nat} {c:Blk} (hg:St.get ⟨A,false,L⟩ lv ix=some c):St.get ⟨A,false,L++T⟩ lv ix=some c:=by
 rw [St.get] at hg ⊢
 simp only at hg ⊢
 by_cases h:lv=A.length
 ·rw [if_pos h] at hg ⊢
  rw [jL (ZOF hg)];exact hg
 ·rw [if_neg h] at hg ⊢;exact hg
section
variable {O:Orc} {k:List Fr} {Q:JX} {e:Env} {A A0:List (Bool × List Blk)} {L L0 T:List Blk} {keep:List Nat} {is:List PI} {d:Nat} {ks:List (Nat × Nat)} {b0 bs:List Blk}
end
end Go.QAbs
namespace Go.Q15
open Go Go.QAbs
set_option maxRecDepth 100000
set_option maxHeartbeats 8000000
theorem Zmq {O:Orc} {k:List Fr} {Q:JX} {e:Env} {st:St} {keep:List Nat} {is:List QAbs.PI} {d:Nat} {a b:Opd} {agg:Bool} {n lv ix ver i o lj jx vb ib ob w:Nat} {es:List AV} {x v:AV} (ha:Za e a=some (.ptr lv ix ver i o)) (hb:Za e b=some (.ptr lj jx vb ib ob)) (hne:¬ (lj=lv/\jx=ix))
 (hg:st.get lv ix=some (Blk.arr w ver es)) (hx:es[i]?=some x) (hv:JI x agg o n=some v) (h:Is O is keep k Q ((d,v)::e) st):Is O (⟨some d,none,false,.w (.hide [b]) (.ld agg n a)⟩::is) keep k Q e st:=by
 refine ZeQ ?_ h
 have hp:Yf (Yw e [b]) lv ix=false:=by
  simp only [Yf,Yw,ZF hb,List.any_cons,List.any_nil,Bool.or_false,Ye,Bool.and_eq_false_iff,beq_eq_false_iff_ne]
  by_cases q:lj=lv
  ·right;intro w;exact hne ⟨q,w.symm⟩
  ·left;exact fun w=>q w.symm
 have hgt:(St.hide (Yf (Yw e [b])) st).get lv ix=some (Blk.arr w ver es):=by
  rw [Yi,hp,hg];rfl
 simp only [Z8,PO.reads,if_true,evalPO,ZF ha,loadP,hgt,ZCf,hx,hv,oS,QV,QK]
def pcs (N:ZL) (r:Ro):Nat->Nat->Nat->List (List UInt8)
 | 0,_,_=>[]
 | f+1,a,n=>if n=0 then [] else
  let p:=((Jx N r (a:Int)).1.1.drop (Jx N r (a:Int)).1.2.toNat).take n
  p::pcs N r f (a+p.length) (n-p.length)
theorem ZK0 {N:ZL} (hN:GoodN N) {r:Ro} {s:List UInt8} (h:Rt N r s) {a:Nat} (ha:a<s.length):0<=(Jx N r (a:Int)).1.2/\(Jx N r (a:Int)).1.2<(Jx N r (a:Int)).1.1.length/\(Jx N r (a:Int)).1.1.length<=16 /\
 ∀ n,((Jx N r (a:Int)).1.1.drop (Jx N r (a:Int)).1.2.toNat).take n=(s.drop a).take (min n ((Jx N r (a:Int)).1.1.length-(Jx N r (a:Int)).1.2.toNat)):=by
 have hmb:r.m.b=s.length:=(h.b hN).2
 obtain ⟨hz,x,x1,x2,x3,x4⟩:=h.rt.nz (by rw [hmb];omega)
 have htx:ZID N r=s:=h.tx;unfold ZID at htx;rw [if_neg hz] at htx
 obtain ⟨pre,leaf,post,t1,t2,t3,t4,t5⟩:=ZcE comp_b comp_b hN r.h r.at_ x (a:Int) x1 x3 (by omega) (by rw [x4,hmb];omega)
 obtain ⟨p1,p2,p3⟩:=Zka comp_b (q:=Mea.b) hN r.h r.at_ x (a:Int) x1 x3 (by omega) (by rw [x4,hmb];omega)
 obtain ⟨o,ho⟩:∃ o,(Q8 (QG Mea.b) Mea.b N r.h r.at_ (a:Int)).2.1[r.h]?=some o:=⟨_,jE (by rw [p1];omega)⟩
 obtain ⟨y,y1,y2,y3,_⟩:=p3 r.h o ho
 have y4:=y3 (by omega)
 rw [t2] at y4
 have el:∀ l:List UInt8,(Qk l).b=l.length:=fun l=>rfl
 rw [el] at t2 t3 t4;rw [el] at t4;have e1:(Jx N r (a:Int)).1=(leaf,(a:Int)-pre.length):=t2;rw [e1]
 have hlf:leaf.length<=16:=by
  rcases (hN o y y1).1 with q|⟨m,ks,q⟩
  ·have:=q.hi;rw [y4] at this;exact this
  ·have e:=q.eq;rw [e] at y2;simp only at y2;omega
 refine ⟨t3,t4,hlf,fun n=>?_⟩
 simp only
 rw [htx] at t1
 have hpl:a-pre.length=((a:Int)-pre.length).toNat:=by omega
 have hsd:s.drop a=leaf.drop (a-pre.length)++post:=by
  rw [t1,List.append_assoc,List.drop_append,List.drop_of_length_le (l:=pre) (by omega),lE,List.drop_append_of_le_length (by omega)]
 rw [<- hpl,hsd,List.take_append_of_le_length (by rw [List.length_drop];omega)]
 rw [List.take_eq_take_iff,List.length_drop];omega
theorem Zei {N:ZL} (hN:GoodN N) {r:Ro} {s:List UInt8} (h:Rt N r s):∀ (f a n:Nat),n<=f->a+n<=s.length->(pcs N r f a n).flatten=(s.drop a).take n/\(∀ p∈pcs N r f a n,1<=p.length/\p.length<=16)/\(pcs N r f a n).length<=n
 | 0,a,n,hf,ha=>by
  obtain rfl:n=0:=by omega
  simp [pcs]
 | f+1,a,n,hf,ha=>by
  rw [pcs]
  by_cases q:n=0
  ·subst q;simp
  rw [if_neg q]
  obtain ⟨k1,k2,k3,k4⟩:=ZK0 hN h (a:=a) (by omega)
  have k5:=k4 n
  generalize hp:((Jx N r (a:Int)).1.1.drop (Jx N r (a:Int)).1.2.toNat).take n=p at *
  have hpl:1<=p.length/\p.length<=16/\p.length<=n:=by
   rw [<- hp,List.length_take,List.length_drop];omega
  have hpe:p=(s.drop a).take p.length:=by
   have:p.length=min n ((Jx N r (a:Int)).1.1.length-(Jx N r (a:Int)).1.2.toNat):=by rw [<- hp,List.length_take,List.length_drop]
   rw [this];exact k5
  obtain ⟨i1,i2,i3⟩:=Zei hN h f (a+p.length) (n-p.length) (by omega) (by omega)
  refine ⟨?_,fun z hz=>?_,?_⟩
  ·simp only [List.flatten_cons]
   rw [i1]
   have e2:(s.drop a).take n=(s.drop a).take p.length++((s.drop a).drop p.length).take (n-p.length):=by
    rw [<- List.take_append_drop p.length ((s.drop a).take n),List.take_take,Nat.min_eq_left hpl.2.2,List.drop_take]
   rw [e2,<- hpe,List.drop_drop]
  ·simp only [List.mem_cons] at hz
   rcases hz with rfl|hz
   ·exact ⟨hpl.1,hpl.2.1⟩
   ·exact i2 z hz
  ·simp only [List.length_cons];omega
def pcL (A:List (Bool × List Blk)) (la b:Nat) (r:Ro) (es:List AV) (a n:Nat):List Blk:=[.arr 5 0 [r.av],.arr 1 es.length es,.arr 1 0 [.ref A.length 1 es.length 0 es.length],.arr 1 0 [.int .i64 0],.arr 1 0 [.ptr la (b+5) 0 0 0],.arr 5 0 [r.av],.arr 1 0 [.int .i64 a],.arr 1 0 [.int .i64 n]]
def pcF (A:List (Bool × List Blk)) (la b:Nat) (r:Ro) (es:List AV) (a n:Nat):St:=⟨A,false,pcL A la b r es a n⟩
def pcK (A:List (Bool × List Blk)):List (Nat × Nat):=[(A.length,1),(A.length,2),(A.length,6),(A.length,7)]
def pcB (A:List (Bool × List Blk)) (es:List AV) (a n:Nat):List Blk:=[.arr 1 es.length es,.arr 1 0 [.ref A.length 1 es.length 0 es.length],.arr 1 0 [.int .i64 a],.arr 1 0 [.int .i64 n]]
section
variable {A:List (Bool × List Blk)} {la b:Nat} {r:Ro}
theorem Zpi (es:List AV) (a n:Nat):Cl (pcF A la b r es a n) (pcK A) (pcB A es a n):=by
 refine ⟨by simp [pcK],rfl,fun k hk=>?_,fun j lv ix b h1 h2=>?_⟩
 ·simp only [pcK,List.mem_cons,List.not_mem_nil,or_false] at hk
  rcases hk with rfl|rfl|rfl|rfl<;>simp [St.wr,pcF]
 ·match j,h1,h2 with
  | 0,h1,h2=>obtain ⟨rfl,rfl⟩:=Prod.mk.inj (Option.some.inj h1);obtain rfl:=Option.some.inj h2;exact St.get_cur ..
  | 1,h1,h2=>obtain ⟨rfl,rfl⟩:=Prod.mk.inj (Option.some.inj h1);obtain rfl:=Option.some.inj h2;exact St.get_cur ..
  | 2,h1,h2=>obtain ⟨rfl,rfl⟩:=Prod.mk.inj (Option.some.inj h1);obtain rfl:=Option.some.inj h2;exact St.get_cur ..
  | 3,h1,h2=>obtain ⟨rfl,rfl⟩:=Prod.mk.inj (Option.some.inj h1);obtain rfl:=Option.some.inj h2;exact St.get_cur ..
  | n+4,h1,h2=>simp [pcK] at h1
theorem Zmr (es fs:List AV) (a n a' n':Nat):Z0 (pcF A la b r es a n) (pcK A) (pcB A fs a' n')=pcF A la b r fs a' n':=by
 simp [Z0,St.upd,pcF,pcL,pcK,pcB]
theorem Zpj:∀ k∈pcK A,k.1<=A.length:=by simp [pcK]
theorem Zms {caps:List AV} (hc:∃ rest,caps=.any::.any::.any::.any::.any::.any::.any::.any::.any::.any::.any::.ptr A.length 2 0 0 0::.ptr A.length 3 0 0 0::rest/\rest.length=26) (es:List AV) (a n:Nat) (hlim:es.length<4000000000) (p:List UInt8) (more:List (Bool × List Blk)) (ro:Bool) (L:List Blk) :
 ZAw (S Tb) itS p_slice_Pieces.nt p_slice_Pieces.rng (.str p::.int .i64 0::caps) ⟨(pcF A la b r es a n).ps++more,ro,L⟩=some (.bool true,⟨(pcF A la b r (es++[.str p]) a n).ps++more,ro,L⟩):=by
 obtain ⟨rest,rfl,hrl⟩:=hc;have H:=(Zpi (A:=A) (la:=la) (b:=b) (r:=r) es a n).more more ro L
 refine ZmZ (by simp [hrl];rfl) (fun A' hA'=>?_)
 rw [<- H.same] at hA'
 have g2:=fun L'=>H.old hA' rfl rfl (ro:=false) (L:=L') (j:=1) rfl rfl
 repeat' (first|refine ZE ?_|refine ZD ?_|refine ZG rfl ?_|refine ZB rfl ?_|refine ZC ?_|refine ZJ ?_)
 all_goals refine ⟨rfl,?_⟩
 all_goals repeat' (first|refine ZE ?_|refine ZD ?_|refine ZG rfl ?_|refine ZB rfl ?_|refine ZC ?_|(refine Zn rfl rfl (fun _=>?_) (fun _=>?_)<;>try (exfalso;omega))|refine ZH rfl ?_|refine JG rfl rfl rfl rfl ?_|refine Z2 rfl (g2 _) rfl rfl ?_|refine ZI ?_|refine ZQ ?_)
 all_goals try contradiction
 refine Zi0 H hA' rfl rfl (j:=0) rfl rfl rfl rfl rfl rfl (ZkV 5 _ _ [p]) (by simp only [List.length_singleton];omega) (by decide) (fun A2 hA2 hl2=>?_)
 refine ZKs H hA2 rfl rfl (j:=1) rfl rfl rfl rfl rfl (JL _ (Nat.lt_succ_self _)) rfl (fun A3 hA3 hl3=>?_)
 repeat' (first|refine ZB rfl ?_|refine ZJ ?_|refine QB ?_)
 refine ⟨rfl,hA3.trans ?_⟩;have e:=Zmr (A:=A) (la:=la) (b:=b) (r:=r) es (es++[.str p]) a n a n
 rw [<- e,<- ZcA (s:=pcF A la b r es a n) (ks:=pcK A) (fun k hk=>Zpj k hk)]
 simp only [pcB,lL,List.length_singleton];rfl
end
end Go.Q15
namespace Go.QAbs
open Go.RowKit (Below)
section
variable {P:Program} {W0:World} {B0:Bse} {st:St} {ρ:Rho} {W W':World}
def ZQ5 (f:List UInt8->List UInt8->Option AV):List AV->St->Option (AV × St)
 | [.str s,.str t],st=>(f s t).map fun v=>(v,st)
 | _,_=>none
theorem strO2_frame (f:List UInt8->List UInt8->Option AV) (args:List AV):(∃ v,∀ st,ZQ5 f args st=some (v,st))\/∀ st,ZQ5 f args st=none:=by
 by_cases h:∃ s t,args=[.str s,.str t]
 ·obtain ⟨s,t,rfl⟩:=h
  cases hq:f s t with
  | none=>exact .inr fun st=>by simp [ZQ5,hq]
  | some v=>exact .inl ⟨v,fun st=>by simp [ZQ5,hq]⟩
 ·refine .inr fun st=>?_
  unfold ZQ5
  split
  ·exact absurd ⟨_,_,rfl⟩ h
  ·rfl
def ZQU:List AV->St->Option (AV × St):=ZQ5 fun s t=>if s.length<4294967281 then some (.int .i64 (Lib.index s t)) else none
theorem Zmt {f : FuncId} {g : Nat} (hg : P.globalNamed "internal/bytealg.MaxLen" = some g)
 (h1:∀ (s sub:ByteArray) (m:Int) (w:World),s.size<4294967281->w.cell? ⟨g,0,none⟩=some (.int .i64 m)->Calls P f #[.string s,.string sub] w fun e w'=>e=.returned (.int .i64 (Lib.index s.data.toList sub.data.toList))/\w'=w) :
 ZQi P f (.base ZQU):=by
 refine ⟨fun args=>?_,?_⟩
 ·rcases strO2_frame (fun s t=>if s.length<4294967281 then some (.int .i64 (Lib.index s t)) else none) args with ⟨v,hv⟩|hv
  ·exact (FrP.ret v).congr hv
  ·exact FrP.nope.congr hv
 intro args st v st' h W0 B0 ρ W xs hk hr hx;unfold ZQU ZQ5 at h
 split at h
 ·rename_i s t
  simp only at h
  split at h
  ·rename_i hb
   simp only [Option.map_some,oJ,jP] at h;obtain ⟨rfl,rfl⟩:=h;obtain ⟨x,ys,rfl,hx1,hx2⟩:=hx.cons_inv;obtain ⟨y,zs,rfl,hy1,hy2⟩:=hx2.cons_inv;obtain rfl:=hy2.nil_inv;have hxs:=J0 hx1;subst hxs;have hy:=J0 hy1;subst hy;obtain ⟨m,hm,_⟩:=(hk.rel hr) g hg
   refine (h1 ⟨s.toArray⟩ ⟨t.toArray⟩ m W (by simpa [ByteArray.size] using hb) hm).mono ?_
   rintro e' W' ⟨rfl,rfl⟩
   exact ⟨_,ρ,rfl,ZfU hr (.refl _ _),.int _ _⟩
  ·simp at h
 ·simp at h
end
end Go.QAbs
namespace Go.Q15
open Go Go.QAbs
set_option maxRecDepth 100000
set_option maxHeartbeats 8000000
set_option maxHeartbeats 16000000
def ltL (n:Nat) (r:AR) (v:Nat) (ros:List Ro) (G0:List Blk) (w:Nat) (ss:List (List UInt8)) (G1:List Blk):List Blk :=
 r.b0::r.b1::r.b2::r.b3 n 0::r.b4::r.b5 n 0::.arr 5 v (ros.map Ro.av)::(G0++.arr 1 w (ss.map .str)::G1)
section
variable {A:List (Bool × List Blk)} {r:AR} {v:Nat} {ros:List Ro} {G0:List Blk} {w:Nat} {ss:List (List UInt8)} {G1:List Blk}
theorem ZYm:Has ⟨A,false,ltL A.length r v ros G0 w ss G1⟩ A.length 0 r:=ZFP A [] (.arr 5 v (ros.map Ro.av)::(G0++.arr 1 w (ss.map .str)::G1)) r
theorem Zpk:Rd ⟨A,false,ltL A.length r v ros G0 w ss G1⟩ A.length 5 r.nodes:=(ZYm).r.rd
theorem ZqQ (r':AR):Q3 ⟨A,false,ltL A.length r v ros G0 w ss G1⟩ A.length 0 r'=⟨A,false,ltL A.length r' v ros G0 w ss G1⟩:=ZYf A [] (.arr 5 v (ros.map Ro.av)::(G0++.arr 1 w (ss.map .str)::G1)) r r'
theorem ZqR {n:Nat}:(ltL n r v ros G0 w ss G1)[6]?=some (.arr 5 v (ros.map Ro.av)):=rfl
theorem lt_7 {n:Nat}:(ltL n r v ros G0 w ss G1)[7+G0.length]?=some (.arr 1 w (ss.map .str)):=by
 rw [show 7+G0.length=G0.length+7 by omega]
 show (G0++.arr 1 w (ss.map .str)::G1)[G0.length]?=_
 exact ZQM _ _ _
theorem Zmu {n:Nat} (b:Blk):ltL n r v ros G0 w ss G1++[b]=ltL n r v ros G0 w ss (G1++[b]):=by simp [ltL]
theorem ZpB {n:Nat} (v':Nat) (x:Ro):(ltL n r v ros G0 w ss G1).set 6 (.arr 5 v' (ros.map Ro.av++[x.av]))=ltL n r v' (ros++[x]) G0 w ss G1:=by
 unfold ltL;rw [List.map_append];rfl
theorem ZpC {n:Nat} (w':Nat) (s:List UInt8):(ltL n r v ros G0 w ss G1).set (7+G0.length) (.arr 1 w' (ss.map .str++[.str s]))=ltL n r v ros G0 w' (ss++[s]) G1:=by
 rw [show 7+G0.length=G0.length+7 by omega]
 unfold ltL;simp only [List.set_cons_succ,List.map_append]
 rw [show (G0++Blk.arr 1 w (ss.map .str)::G1).set G0.length (Blk.arr 1 w' (ss.map .str++[AV.str s]))=G0++Blk.arr 1 w' (ss.map .str++[AV.str s])::G1 by simp]
 rfl
end
theorem ZiC {ys:List Ed} {i:Nat} {y:Ed} (h:ys[i]?=some y):((ys.map Ed.av).drop i).take (i+1-i)=[y].map Ed.av:=by
 rw [<- List.map_drop,<- List.map_take,show i+1-i=1 by omega]
 obtain ⟨h1,h2⟩:=List.getElem?_eq_some_iff.1 h;rw [List.drop_eq_getElem_cons h1,h2];rfl
theorem Zmv (ys:List Ed):Q6 5 (ys.map Ed.av)=true:=by
 induction ys with
 | nil=>rfl
 | cons b s ih=>rw [jC,Q6,List.all_cons];exact Bool.and_eq_true_iff.2 ⟨rfl,ih⟩
theorem ZjN {O:Orc} {k:List Fr} {Q:JX} {e:Env} {st:St} {keep:List Nat} {is:List QAbs.PI} {d:Nat} {ys:List Ed} {i:Nat} {y:Ed} {x a b:Opd} {z:Int} (hx:Za e x=some (.lit (ys.map Ed.av))) (ha:Za e a=some (.int .i64 i)) (hb:Za e b=some (.int .i64 z)) (hz:z=i+1) (hy:ys[i]?=some y)
 (h:Is O is keep k Q ((d,.lit ([y].map Ed.av))::e) st):Is O (⟨some d,none,false,.slc 5 x (some a) (some b)⟩::is) keep k Q e st:=by
 have hlt:=(List.getElem?_eq_some_iff.1 hy).1;refine Zcr (r:=i+1) (l:=i) hx ?_ ?_ (Zmv _) ?_
 ·simp only [ZBD,ZF hb,JJ,List.length_map]
  rw [if_pos (by omega)];congr 1;omega
 ·simp only [ZBD,ZF ha,JJ]
  rw [if_pos (by omega)];rfl
 ·rw [ZiC hy];exact h
theorem ZqS {texts:List (List UInt8)} {ys:List Ed} (hl:¬ ZQ3 texts) (hm:¬ ZYj ys):(texts.flatten.length<=900/\texts.length<=4)/\ys.length<=60/\∀ y∈ys,y.text.length<=200:=by
 refine ⟨?_,Zmi hm⟩
 have:=Zmj hl
 rw [List.length_flatten];omega
theorem ZiD {texts:List (List UInt8)} (h9:texts.flatten.length<=900):∀ s∈texts,s.length<=900:=by
 intro s hs;obtain ⟨i,hi,rfl⟩:=List.getElem_of_mem hs;have h1:=ZgX (l:=texts) (jE hi);have h2:=ZUL texts (i+1);rw [h1,lL] at h2;omega
theorem Zmw (texts:List (List UInt8)) (hl:texts.flatten.length<=900):∀ i,i<=texts.length->(XA (texts.take i)).1.nodes.length+(XA (texts.take i)).1.n=1500:=by
 intro i
 induction i with
 | zero=>intro _;simp [XA,JA]
 | succ i ih =>
  intro hi
  obtain ⟨s,hs⟩:∃ s,texts[i]?=some s:=⟨texts[i]'(by omega),by simp [show i<texts.length by omega]⟩
  have hl2:=ZUL texts (i+1)
  have h:=ZYi texts hl i (by omega)
  obtain ⟨hn,_⟩:=ZYh (s:=s) h (by rw [<- Zi hs];omega)
  have hfl:=ZgX hs
  have hs2:s.length<=900:=by rw [hfl,lL] at hl2;omega
  obtain ⟨b1,b2,b3⟩:=Xh h.good (show s.length<=65536 by omega)
  obtain ⟨w1,_⟩:=ZjJ (ZFP [] [] [] _) h.ok h.good b1 (by rw [b3];omega) hn
  have h1:=w1.n;have h2:=w1.nl
  have h3:=ih (by omega)
  rw [Zi hs,ZKy]
  show (wrV (Qx s) _).1.nodes.length+(wrV (Qx s) _).1.n=1500
  omega
theorem Zmx {N:ZL} (hN:GoodN N) {ros:List Ro} (h:PlanOk N ros) {y:Ed} (hy:y.text.length<=200) {B:Int} (hB:0<=B) (hr:∀ r∈ros,r.m.b<=B):(ZCY N ros y).bytes<=B+200:=by
 unfold ZCY
 match hq:ZcB ros y.n with
 | none =>
  obtain ⟨b1,b2,b3⟩:=Xh hN (s:=y.text) (by omega)
  show (Qx y.text).bytes<=_;omega
 | some r =>
  have hm:=jM (show ros[_]?=some r from hq)
  obtain ⟨h1,h2,h3,h4⟩:=h.rt r hm;have h5:=hr r hm;have p1:=Qs (x:=y.at_) h3
  have p2:=Qs (x:=y.len) (n:=r.m.b-JH y.at_ r.m.b) (by omega)
  have:=ZNe hN (s:=y.text) h1.keep (a:=JH y.at_ r.m.b) (n:=JH y.len (r.m.b-JH y.at_ r.m.b)) p1.1 p2.1 (by omega) (by omega) (by omega)
  show (Tr.own _).bytes<=_
  rw [ZId,this.bytes];omega
structure MkInv (r:AR) (ros:List Ro) (ss:List (List UInt8)) (n:Nat) (B:Nat):Prop where
 ok:AROk r
 good:GoodN r.nodes
 rts:Rts r.nodes ros ss
 len:ros.length=n
 n20:n<=20
 small:∀ s∈ss,s.length<=B
 nl:r.nodes.length+r.n=1500
theorem MkInv.plan {r:AR} {ros:List Ro} {ss:List (List UInt8)} {n B:Nat} (h:MkInv r ros ss n B) (hB:B<=60000):PlanOk r.nodes ros:=h.rts.plan h.good (by have:=h.len;have:=h.n20;omega) (fun s hs=>by have:=h.small s hs;omega)
theorem MkInv.mb {r:AR} {ros:List Ro} {ss:List (List UInt8)} {n B:Nat} (h:MkInv r ros ss n B):∀ ro∈ros,ro.m.b<=(B:Int):=by
 intro ro hr;obtain ⟨i,hi,rfl⟩:=List.getElem_of_mem hr
 have hi2:i<ss.length:=by rw [<- h.rts.1];exact hi
 have g:=h.rts.2 i _ _ (jE hi) (jE hi2)
 have:=(g.b h.good).2
 have:=h.small _ (List.getElem_mem hi2)
 omega
theorem ZqT (texts:List (List UInt8)) (ys:List Ed) (h9:texts.flatten.length<=900/\texts.length<=4) (hy12:ys.length<=12) (hys:∀ y∈ys,y.text.length<=200) (A:List (Bool × List Blk)) :
 Sp Tb YF [.lit (texts.map .str),.lit (ys.map Ed.av)] ⟨A,false,[]⟩ (fun v st'=>∃ r c ros ss G0 G1 n,v=.tup [.ptr A.length 5 0 0 0,.ref A.length 6 n 0 n,.ref A.length (7+G0.length) c 0 n,.bool true]/\st'=⟨A,false,ltL A.length r n ros G0 c ss G1⟩/\MkInv r ros ss n 3300):=by
 refine Zcv (rfl:Tb YF=some (.pf Xb)) ?_;have hLd:=ZqK texts h9.1 h9.2 A [];have hLok:=ZYi texts h9.1 texts.length (Nat.le_refl _);have hnl0:=Zmw texts h9.1 texts.length (Nat.le_refl _);rw [List.take_length] at hLok hnl0;have hrl:=hLok.rts.1;obtain ⟨r0,ros0,hV⟩:∃ r0 ros0,XA texts=(r0,ros0):=⟨_,_,rfl⟩;rw [hV] at hLd hLok hrl hnl0
 simp only at hLd hLok hrl hnl0
 have hG:(ZDE ros0).length=texts.length:=by unfold ZDE;rw [List.length_map,hrl]
 generalize ZDE ros0=G0 at *
 change S Tb YH [.lit (texts.map .str)] ⟨A,false,[]⟩=some (.tup [.ptr A.length 5 0 0 0,.ref A.length 6 texts.length 0 texts.length,.bool true],⟨A,false,r0.b0::r0.b1::r0.b2::r0.b3 A.length 0::r0.b4::r0.b5 A.length 0::.arr 5 texts.length (ros0.map Ro.av)::G0⟩) at hLd
 repeat' (first|refine ZE ?_|refine ZD ?_|refine ZG rfl ?_|refine Zu rfl rfl ?_|refine ZB rfl ?_|refine ZC ?_|refine ZH rfl ?_|refine XD rfl rfl ?_|refine JG rfl rfl rfl rfl ?_|refine ZA rfl rfl rfl (hLd) ?_|refine ZI ?_)
 all_goals try contradiction
 refine ZFM (vx:=.lit (texts.map .str)) (ys:=texts.map .str) (bytes:=16) rfl rfl rfl (by rw [List.length_map];omega) (by decide) (ZkU _) ?_
 repeat' (first|refine ZE ?_|refine ZD ?_|refine ZG rfl ?_|refine ZB rfl ?_|refine ZC ?_|refine ZQ ?_)
 have hl7:(r0.b0::r0.b1::r0.b2::r0.b3 A.length 0::r0.b4::r0.b5 A.length 0::Blk.arr 5 texts.length (ros0.map Ro.av)::G0).length=7+G0.length:=by simp;omega
 rw [hl7,List.length_map]
 refine Z1 (α:=Nat × Nat × AR × List Ro × List (List UInt8) × List Blk) (fun q=>[(1,.lit (ys.map Ed.av)),(8,.ptr A.length 5 0 0 0),(9,.ref A.length 6 (texts.length+q.2.1) 0 (texts.length+q.2.1)),(11,.ref A.length (7+G0.length) q.2.1 0 (texts.length+q.2.1)),(12,.int .i64 q.1)])
  (fun q=>⟨A,false,ltL A.length q.2.2.1 (texts.length+q.2.1) q.2.2.2.1 G0 q.2.1 q.2.2.2.2.1 q.2.2.2.2.2⟩) (fun q=>q.1<=ys.length/\q.2.1<=q.1/\MkInv q.2.2.1 q.2.2.2.1 q.2.2.2.2.1 (texts.length+q.2.1) (900+200*q.1)) (fun q=>ys.length-q.1) (0,0,r0,ros0,texts,[]) rfl rfl ⟨Nat.zero_le _,Nat.zero_le _,hLok.ok,hLok.good,hLok.rts,hrl,by simp only;omega,ZiD h9.1,hnl0⟩ ?_
 rintro ⟨i,c,r,ros,ss,G1⟩ ⟨hi,hci,hI⟩
 simp only at hi hci hI ⊢
 have hsl:=hI.rts.1;have hrs:=hI.len
 rcases Nat.lt_or_ge i ys.length with hlt|hge
 ·obtain ⟨y,hyi⟩:∃ y,ys[i]?=some y:=⟨ys[i]'(by omega),by simp [hlt]⟩
  have hy2:=hys y (jM hyi)
  have hP:PlanOk r.nodes ros:=hI.plan (by omega)
  obtain ⟨hv,hvb⟩:=Zmg hI.good hP hy2
  have hvs:=Zmx hI.good hP hy2 (B:=((900+200*i:Nat):Int)) (by omega) hI.mb
  have hPl:=fun L (hR:Rd ⟨A,false,L⟩ A.length 5 r.nodes) (hg:St.get ⟨A,false,L⟩ A.length 6=some (.arr 5 (texts.length+c) (ros.map Ro.av)))=>Zo6 (b:=0) hI.good hR hg hP (ys:=[y]) (by simp) (fun z hz=>by rw [List.mem_singleton] at hz;rw [hz];exact hy2)
  have hPl:=hPl _ Zpk (Zec (ZqR (r:=r) (v:=texts.length+c) (G0:=G0) (w:=c) (ss:=ss) (G1:=G1)) rfl)
  have hTx:=ZqC hI.good (Zpk (A:=A) (r:=r) (v:=texts.length+c) (ros:=ros) (G0:=G0) (w:=c) (ss:=ss) (G1:=G1)) hv (by omega)
  have hln:=hv.len hI.good;simp only [jC,List.map_nil] at hPl;rw [hrs] at hPl
  generalize hT:ZCY r.nodes ros y=t at *
  rcases Nat.lt_or_ge r.n (nw t) with hfull|hroom
  ·have hWr:=Zh5 (ZYm (A:=A) (r:=r) (v:=texts.length+c) (ros:=ros) (G0:=G0) (w:=c) (ss:=ss) (G1:=G1)) hI.ok hI.good hv (by omega) hfull
   have eb:=Zmu (n:=A.length) (r:=r) (v:=texts.length+c) (ros:=ros) (G0:=G0) (w:=c) (ss:=ss) (G1:=G1) (.arr 5 0 [Ro.zero.av])
   generalize ltL A.length r (texts.length+c) ros G0 c ss G1=L1 at *
   repeat' (first|refine ZFl rfl ?_|refine ZjN rfl rfl rfl rfl hyi ?_|refine Y5 (f:=Tr.av) (l:=[t]) rfl rfl ⟨by decide,rfl⟩ Z9 ?_|refine ZE ?_|refine ZD ?_|refine ZG rfl ?_|refine Zu rfl rfl ?_|refine ZB rfl ?_|refine ZC ?_|(refine Zk rfl rfl (fun _=>?_) (fun _=>?_)<;>try (exfalso;omega))|(refine Zj rfl rfl (fun _=>?_) (fun _=>?_)<;>try (exfalso;omega))|(refine Zn rfl rfl (fun _=>?_) (fun _=>?_)<;>try (exfalso;omega))|refine ZU rfl ?_|refine ZH rfl ?_|refine XD rfl rfl ?_|refine Zo rfl rfl (by omega) ?_|refine Zt rfl rfl rfl ?_|refine Q1 rfl rfl rfl rfl rfl rfl ?_|refine Qg rfl (Zs _) ?_|refine ZA rfl rfl (by first|rfl|(simp only [lE,lN,lC,Zd,ZX,ZW];first|done|rfl)) (hPl) ?_|refine ZA rfl rfl (by first|rfl|(simp only [lE,lN,lC,Zd,ZX,ZW];first|done|rfl)) (hTx) ?_|refine ZA rfl rfl (by first|rfl|(simp only [lE,lN,lC,Zd,ZX,ZW];first|done|rfl)) (hWr) ?_|refine ZI ?_|refine Zy ?_|refine ZQ ?_|refine Zg ?_|refine Ze rfl ?_|refine QH ?_)
   all_goals try contradiction
   all_goals try (exfalso;omega)
   refine ⟨(i+1,c,r,ros,ss,G1++[Blk.arr 5 0 [Ro.zero.av]]),⟨rfl,?_⟩,⟨by simp only;omega,by simp only;omega,hI.ok,hI.good,hI.rts,hrs,hI.n20,fun s hs=>by have:=hI.small s hs;simp only;omega,hI.nl⟩,by simp only;omega⟩
   exact congrArg (St.mk A false) eb
  ·have hWr:=ZjH (ZYm (A:=A) (r:=r) (v:=texts.length+c) (ros:=ros) (G0:=G0) (w:=c) (ss:=ss) (G1:=G1)) hI.ok hI.good hv (by omega) hroom
   rw [ZqQ] at hWr
   obtain ⟨w1,w2⟩:=ZjJ (ZYm (A:=A) (r:=r) (v:=texts.length+c) (ros:=ros) (G0:=G0) (w:=c) (ss:=ss) (G1:=G1)) hI.ok hI.good hv (by omega) hroom
   have f6:(ltL A.length (wrV t r).1 (texts.length+c) ros G0 c ss G1)[6]?=_:=ZqR;have f7:(ltL A.length (wrV t r).1 (texts.length+c) ros G0 c ss G1)[7+G0.length]?=_:=lt_7;have n1:=w1.n;have n2:=w1.nl;have n3:=hI.nl;have n4:=hI.n20
   generalize hL2:ltL A.length (wrV t r).1 (texts.length+c) ros G0 c ss G1=L2 at *
   generalize ltL A.length r (texts.length+c) ros G0 c ss G1=L1 at *
   generalize (wrV t r).1=r2 at *
   generalize (wrV t r).2.1=ro at *
   generalize (wrV t r).2.2=hh at *
   generalize hTT:t.txt r.nodes=T at *
   have hl6:=(List.getElem?_eq_some_iff.1 f6).1;have hl7':=(List.getElem?_eq_some_iff.1 f7).1
   repeat' (first|refine ZFl rfl ?_|refine ZjN rfl rfl rfl rfl hyi ?_|refine Y5 (f:=Tr.av) (l:=[t]) rfl rfl ⟨by decide,rfl⟩ Z9 ?_|refine ZE ?_|refine ZD ?_|refine ZG rfl ?_|refine Zu rfl rfl ?_|refine ZB rfl ?_|refine ZC ?_|refine QY rfl rfl rfl ?_|(refine Zk rfl rfl (fun _=>?_) (fun _=>?_)<;>try (exfalso;omega))|(refine Zj rfl rfl (fun _=>?_) (fun _=>?_)<;>try (exfalso;omega))|(refine Zn rfl rfl (fun _=>?_) (fun _=>?_)<;>try (exfalso;omega))|refine ZU rfl ?_|refine ZH rfl ?_|refine XD rfl rfl ?_|refine Zo rfl rfl (by omega) ?_|refine Zt rfl rfl rfl ?_|refine Q1 rfl rfl rfl rfl rfl rfl ?_|refine JG rfl rfl rfl rfl ?_|refine Qg rfl (Zs _) ?_|refine ZA rfl rfl (by first|rfl|(simp only [lE,lN,lC,Zd,ZX,ZW];first|done|rfl)) (hPl) ?_|refine ZA rfl rfl (by first|rfl|(simp only [lE,lN,lC,Zd,ZX,ZW];first|done|rfl)) (hTx) ?_|refine ZA rfl rfl (by first|rfl|(simp only [lE,lN,lC,Zd,ZX,ZW];first|done|rfl)) (hWr) ?_|refine ZI ?_|refine ZQ ?_)
   all_goals try contradiction
   all_goals try (exfalso;omega)
   refine ZBi (es:=ros.map Ro.av) (ys:=[ro.av]) rfl rfl (X9 f6) (by rw [List.length_map];omega) rfl rfl (by rw [List.length_map,List.length_singleton];omega) (by decide) ?_
   repeat' (first|refine ZD ?_|refine ZG rfl ?_|refine ZB rfl ?_|refine ZC ?_|refine JG rfl rfl rfl rfl ?_)
   refine ZBi (es:=ss.map .str) (ys:=[.str T]) rfl rfl ((jS (by omega)).trans (X9 f7)) (by rw [List.length_map];omega) rfl rfl (by rw [List.length_map,List.length_singleton];omega) (by decide) ?_
   repeat' (first|refine ZD ?_|refine ZG rfl ?_|refine ZB rfl ?_|refine ZC ?_|refine Zo rfl rfl (by omega) ?_|refine QB ?_|refine QH ?_)
   refine ⟨(i+1,c+1,r2,ros++[ro],ss++[T],G1++[.arr 5 0 [ro.av]]),⟨rfl,?_⟩,⟨by simp only;omega,by simp only;omega,w1.ok,w1.good,(hI.rts.ext hI.good w1.ext).snoc w2,by simp only [lL,List.length_singleton];omega,by simp only;omega,fun s hs=>?_,by simp only;omega⟩,by simp only;omega⟩
   ·show (⟨A,false,((L2++[Blk.arr 5 0 [ro.av]]).set 6 (Blk.arr 5 (texts.length+c+1) (ros.map Ro.av++[ro.av]))).set (7+G0.length) (Blk.arr 1 (c+1) (ss.map AV.str++[AV.str T]))⟩:St)=_
    rw [<- hL2,Zmu,ZpB,ZpC];rfl
   ·rcases List.mem_append.1 hs with q|q
    ·have:=hI.small s q;simp only;omega
    ·rw [List.mem_singleton.1 q];simp only;omega
 ·obtain rfl:i=ys.length:=by omega
  repeat' (first|refine ZFl rfl ?_|refine ZE ?_|refine ZD ?_|refine ZG rfl ?_|refine ZB rfl ?_|refine ZC ?_|(refine Zk rfl rfl (fun _=>?_) (fun _=>?_)<;>try (exfalso;omega))|refine ZH rfl ?_|refine ZP ?_|refine Zy ?_|refine ZJ ?_|refine Zg ?_|refine Ze rfl ?_|refine Zw ?_)
  all_goals try (exfalso;omega)
  refine ⟨_,_,Jv (.inr rfl) rfl rfl rfl rfl,r,c,ros,ss,G0,G1,texts.length+c,rfl,rfl,hI.ok,hI.good,hI.rts,hrs,hI.n20,fun s hs=>?_,hI.nl⟩
  have:=hI.small s hs
  omega
end Go.Q15
