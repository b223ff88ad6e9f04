/- A part of the proof: P4, R3, R4, P5, P6, P7, P8, P9, S1, S2, W, W2. No condition. -/
import Derived.Orders
import Derived.OrdersIn
import Derived.RangeFuncIn
import Derived.LoopN
import Derived.LoopNIn
import Derived.Scope
import Derived.Shelf.SlicesE.Clone
import Derived.Test.YtnbialakgbcbfaaGreatPlT2
set_option linter.unusedVariables false
set_option linter.unusedSimpArgs false
namespace Go.QAbs
variable {u v v':AV}{agg ro:Bool}{cm:CM}{e e1 e2:Env}{f g:FuncId}{a b:Int}{A A0:List (Bool × List Blk)}{args cap cs es es' first vs ws z:LV}{L':List Blk}{is:List PI}{xs:List Value}{i id ix j l n s t ver w:Nat}{c x:Opd}{body:PC}{o q:PO}{p:Prop}{st st':St}{k:WK}
theorem Yi{j:Nat}:∀ {L:List Blk} {i:Nat},findH j L=some i->L[i]?=some (.hole j)
 | [],i,h=>by simp[findH]at h
 | b::L,i,h=>by
  simp only[findH]at h
  split at h
  ·rename_i k hk
   simp only[Option.some.injEq]at h;subst h
   simpa using Yi hk
  ·split at h
   ·split at h
    ·rename_i hk
     simp only[Option.some.injEq]at h;subst h
     simp[hk]
    ·simp at h
   ·simp at h
theorem ZTe{j:Nat}:∀ {L L':List Blk},ZBs L=ZBs L'->findH j L=findH j L'
 | [],[],_=>rfl
 | [],b::L,h=>by simp[ZBs]at h
 | b::L,[],h=>by simp[ZBs]at h
 | b::L,b'::L',h=>by
  simp only[ZBs,jC,List.cons.injEq]at h;have ih:=ZTe (j:=j) (L:=L) (L':=L') h.2;have hb:=h.1;simp only[findH,ih]
  cases b<;>cases b'<;>simp[ZCL]at hb<;>first|rfl|(subst hb;rfl)
theorem ZXG{j:Nat}:∀ {L:List Blk} {a:Nat} {b:Blk},L[a]?≠some (.hole j)->b≠.hole j->findH j (L.set a b)=findH j L
 | [],a,b,_,_=>rfl
 | c::L,0,b,h,hb=>by
  simp only[List.set_cons_zero,findH]
  have h':c≠.hole j:=by simpa using h
  cases findH j L with
  | some i=>rfl
  | none =>
   simp only
   have e1:∀d:Blk,d≠.hole j->(match d with|.hole k=>if k=j then some 0 else none|_=>none:Option Nat)=none:=by
    intro d hd
    cases d<;>first|rfl|(simp only;rw[if_neg (fun q=>hd (by rw[q]))])
   exact (e1 b hb).trans (e1 c h').symm
 | c::L,a+1,b,h,hb=>by
  have h':L[a]?≠some (.hole j):=by simpa using h
  simp only[List.set_cons_succ,findH,ZXG h' hb]
theorem Adds.of_fill{s:St}{b:Blk}(h:s.L[i]?=some (.hole j)):Adds s { s with L:=s.L.set i b }:=by
 have key:∀(A:List (Bool × List Blk)) (ro:Bool) lv ix c,St.get ⟨A,ro,s.L⟩ lv ix=some c->St.get ⟨A,ro,s.L.set i b⟩ lv ix=some c:=by
  intro A ro lv ix c hc;unfold St.get at hc ⊢
  simp only at hc ⊢
  split at hc
  ·rename_i h1
   rw[if_pos h1]
   have hne:i≠ix:=by
    intro q;subst q;rw[h]at hc;simp[vis]at hc
   rw[jS hne];exact hc
  ·rename_i h1;rw[if_neg h1];exact hc
 exact⟨fun lv ix c hc=>key s.A s.ro lv ix c hc,fun lv ix c hc=>key _ true lv ix c hc⟩
section
variable {O:Orc}{x p:PI}{e:Env}{s s':St}{v:AV}
theorem More.refl(s:St):More s s:=fun _ _ _ h=>h
theorem ZxD(hk:x.own=true)(h:Qs O e s x=some (v,s')):s'=s/\∀t,More s.mask t.mask->Qs O e t x=some (v,t):=by
 unfold Qs at h;rw[if_pos hk]at h
 split at h
 ·rename_i hr
  simp only[Option.bind_eq_some_iff,Z8,Option.some.injEq,jP]at h;obtain⟨⟨v0,s0⟩,h0,h1,rfl⟩:=h
  simp only at h1;subst h1
  refine⟨rfl,fun t m=>?_⟩
  unfold Qs;rw[if_pos hk,if_pos hr,(QS hr m h0).1];rfl
 ·simp at h
theorem ZBa(hk:¬ x.own=true)(hc:∀m f l,x.op≠.call m f l)(hw:∀k o,x.op≠.w k o)(s:St):Qs O e s x=evalPO e s x.op:=by
 unfold Qs;rw[if_neg hk]
 cases hx:x.op<;>first|rfl|exact absurd hx (hc _ _ _)|exact absurd hx (hw _ _)
theorem ZvY(h:Qs O e s x=some (v,s')):
 (x.kind=0->s'=s/\∀t,Qs O e t x=some (v,t))/\(x.kind=1->s'=s/\∀t,More s t->Qs O e t x=some (v,t)) /\
 (x.kind=2->s'=s/\∀t,More s.mask t.mask->Qs O e t x=some (v,t))/\(x.kind=3->Adds s s')/\(x.kind=4->s'=s)/\(x.kind=5->s'.mask=s.mask):=by
 by_cases hk:x.own=true
 ·have hkind:x.kind=2:=by unfold PI.kind;rw[if_pos hk]
  rw[hkind]
  exact⟨by simp,by simp,fun _=>ZxD hk h,by simp,by simp,by simp⟩
 ·by_cases hp:x.op.pure=true
  ·have hkind:x.kind=0:=by unfold PI.kind;rw[if_neg hk,if_pos hp]
   rw[hkind]
   have hc:∀m f l,x.op≠.call m f l:=fun m f l q=>by rw[q]at hp;simp[PO.pure]at hp
   have hw:∀k o,x.op≠.w k o:=fun k o q=>by rw[q]at hp;simp[PO.pure]at hp
   rw[ZBa hk hc hw]at h
   exact⟨fun _=>⟨(ZqD (t:=s) hp h).2,fun t=>by rw[ZBa hk hc hw];exact (ZqD hp h).1⟩,by simp,by simp,by simp,by simp,by simp⟩
  ·by_cases hr:x.op.reads=true
   ·have hc:∀m f l,x.op≠.call m f l:=fun m f l q=>by rw[q]at hr;simp[PO.reads]at hr
    have hw:∀k o,x.op≠.w k o:=fun k o q=>by rw[q]at hr;simp[PO.reads]at hr
    have hkind:x.kind=1:=by unfold PI.kind;rw[if_neg hk,if_neg hp,if_pos hr]
    rw[hkind];rw[ZBa hk hc hw]at h
    exact⟨by simp,fun _=>⟨(QS hr (.refl s) h).2,fun t m=>by rw[ZBa hk hc hw];exact (QS hr m h).1⟩,by simp,by simp,by simp,by simp⟩
   ·by_cases ha:x.op.adds=true
    ·have hc:∀m f l,x.op≠.call m f l:=fun m f l q=>by rw[q]at ha;simp[PO.adds]at ha
     have hw:∀k o,x.op≠.w k o:=fun k o q=>by rw[q]at ha;simp[PO.adds]at ha
     have hkind:x.kind=3:=by unfold PI.kind;rw[if_neg hk,if_neg hp,if_neg hr,if_pos ha]
     rw[hkind];rw[ZBa hk hc hw]at h
     exact⟨by simp,by simp,by simp,fun _=>ZvO ha h,by simp,by simp⟩
    ·have hkind:x.kind=Zlt x.op:=by unfold PI.kind;rw[if_neg hk,if_neg hp,if_neg hr,if_neg ha]
     unfold Qs at h;rw[if_neg hk]at h
     cases hx:x.op with
     | call m f l =>
      rw[hx]at h hkind;simp only[Zd]at h;unfold Xj at h
      split at h
      ·cases m with
       | pin =>
        rw[show x.kind=4 from hkind]
        simp only[Z4,Option.bind_eq_some_iff,Z8,Option.some.injEq,jP]at h;obtain⟨q,_,_,rfl⟩:=h
        exact⟨by simp,by simp,by simp,by simp,fun _=>rfl,by simp⟩
       | move=>rw[show x.kind=6 from hkind];exact⟨by simp,by simp,by simp,by simp,by simp,by simp⟩
       | give n=>rw[show x.kind=6 from hkind];exact⟨by simp,by simp,by simp,by simp,by simp,by simp⟩
       | inner=>rw[show x.kind=6 from hkind];exact⟨by simp,by simp,by simp,by simp,by simp,by simp⟩
       | norm=>rw[show x.kind=6 from hkind];exact⟨by simp,by simp,by simp,by simp,by simp,by simp⟩
       | pure =>
        rw[show x.kind=4 from hkind]
        simp only[Z4,Option.bind_eq_some_iff,Z8,Option.some.injEq,jP]at h;obtain⟨q,_,_,rfl⟩:=h
        exact⟨by simp,by simp,by simp,by simp,fun _=>rfl,by simp⟩
       | own =>
        rw[show x.kind=5 from hkind]
        simp only[Z4,Option.bind_eq_some_iff,Zlr]at h;obtain⟨q,_,h⟩:=h
        split at h
        ·rename_i hl
         simp only[Option.some.injEq,jP]at h;obtain⟨_,rfl⟩:=h
         refine⟨by simp,by simp,by simp,by simp,by simp,fun _=>?_⟩
         simp only[St.mask]
         congr 1
         apply List.ext_getElem?
         intro i;simp only[jG]
         by_cases hi:i<s.A.length
         ·rw[jE hi,jE (by omega)];rfl
         ·rw[List.getElem?_eq_none (by omega),List.getElem?_eq_none (by omega)]
        ·simp at h
      ·cases m with
       | pin =>
        rw[show x.kind=4 from hkind]
        simp only[Z4,Option.bind_eq_some_iff,Z8,Option.some.injEq,jP]at h;obtain⟨q,_,_,rfl⟩:=h
        exact⟨by simp,by simp,by simp,by simp,fun _=>rfl,by simp⟩
       | move=>rw[show x.kind=6 from hkind];exact⟨by simp,by simp,by simp,by simp,by simp,by simp⟩
       | give n=>rw[show x.kind=6 from hkind];exact⟨by simp,by simp,by simp,by simp,by simp,by simp⟩
       | inner=>rw[show x.kind=6 from hkind];exact⟨by simp,by simp,by simp,by simp,by simp,by simp⟩
       | norm=>rw[show x.kind=6 from hkind];exact⟨by simp,by simp,by simp,by simp,by simp,by simp⟩
       | pure =>
        rw[show x.kind=4 from hkind]
        simp only[Z4,Option.bind_eq_some_iff,Z8,Option.some.injEq,jP]at h;obtain⟨q,_,_,rfl⟩:=h
        exact⟨by simp,by simp,by simp,by simp,fun _=>rfl,by simp⟩
       | own =>
        rw[show x.kind=5 from hkind]
        simp only[Z4,Option.bind_eq_some_iff,Zlr]at h;obtain⟨q,_,h⟩:=h
        split at h
        ·rename_i hl
         simp only[Option.some.injEq,jP]at h;obtain⟨_,rfl⟩:=h
         refine⟨by simp,by simp,by simp,by simp,by simp,fun _=>?_⟩
         simp only[St.mask]
         congr 1
         apply List.ext_getElem?
         intro i;simp only[jG]
         by_cases hi:i<s.A.length
         ·rw[jE hi,jE (by omega)];rfl
         ·rw[List.getElem?_eq_none (by omega),List.getElem?_eq_none (by omega)]
        ·simp at h
      ·simp at h
     | w k o =>
      rw[hx]at h hkind
      have hev:∀t,Qs O e t x=Zs e t o k:=fun t=>by
       unfold Qs;rw[if_neg hk,hx];rfl
      cases k with
      | blind =>
       rw[show x.kind=0 from hkind]
       simp only[Zd,Zs]at h
       split at h
       ·rename_i hr
        simp only[Option.bind_eq_some_iff,Z8,Option.some.injEq,jP]at h;obtain⟨q,hq,rfl,rfl⟩:=h
        exact⟨fun _=>⟨rfl,fun t=>by rw[hev];simp only[Zs,if_pos hr,hq,Option.bind_some,Z8]⟩,by simp,by simp,by simp,by simp,by simp⟩
       ·simp at h
      | imm =>
       rw[show x.kind=0 from hkind]
       simp only[Zd,Zs]at h;unfold Zlo at h
       split at h
       ·rename_i w z ps
        simp only[Option.bind_eq_some_iff,ZcM]at h;obtain⟨es,he,h⟩:=h
        split at h
        ·rename_i hi
         simp only[Option.some.injEq,jP]at h;obtain⟨rfl,rfl⟩:=h
         exact⟨fun _=>⟨rfl,fun t=>by rw[hev];simp only[Zs,Zlo,he,Option.bind_some,ZcM,if_pos hi]⟩,by simp,by simp,by simp,by simp,by simp⟩
        ·simp at h
       ·simp at h
      | app0 =>
       rw[show x.kind=3 from hkind]
       simp only[Zd,Zs]at h;unfold ZLC at h
       split at h
       ·rename_i w bytes sl x'
        split at h
        ·rename_i hn
         simp only[evalPO,Option.bind_eq_some_iff]at h;obtain⟨ys,_,h⟩:=h
         cases hsv:sl.get e<;>rw[hsv]at hn h<;>simp only[Xo,jB]at hn
         simp only[Q4]at h
         split at h
         ·simp only[Option.bind_eq_some_iff,JO,Option.some.injEq,jP]at h
          obtain⟨⟨i,s1⟩,hnw,_,rfl⟩:=h
          exact⟨by simp,by simp,by simp,fun _=>.of_new hnw,by simp,by simp⟩
         ·simp at h
        ·simp at h
       ·simp at h
      | hide _ =>
       rw[show x.kind=1 from hkind]
       simp only[Zd,Zs]at h
       split at h
       ·rename_i hr
        simp only[Option.bind_eq_some_iff,Z8,Option.some.injEq,jP]at h;obtain⟨⟨q1,q2⟩,hq,rfl,rfl⟩:=h
        refine⟨by simp,fun _=>⟨rfl,fun t m=>?_⟩,by simp,by simp,by simp,by simp⟩
        rw[hev];simp only[Zs,if_pos hr,(QS hr (m.hide2 _) hq).1,Option.bind_some,Z8]
       ·simp at h
      | only _ =>
       rw[show x.kind=1 from hkind]
       simp only[Zd,Zs]at h
       split at h
       ·rename_i hr
        simp only[Option.bind_eq_some_iff,Z8,Option.some.injEq,jP]at h;obtain⟨⟨q1,q2⟩,hq,rfl,rfl⟩:=h
        refine⟨by simp,fun _=>⟨rfl,fun t m=>?_⟩,by simp,by simp,by simp,by simp⟩
        rw[hev];simp only[Zs,if_pos hr,(QS hr (m.hide2 _) hq).1,Option.bind_some,Z8]
       ·simp at h
      | first _ n =>
       rw[show x.kind=1 from hkind]
       simp only[Zd,Zs]at h
       split at h
       ·rename_i hr
        simp only[Option.bind_eq_some_iff,Z8,Option.some.injEq,jP]at h;obtain⟨⟨q1,q2⟩,hq,rfl,rfl⟩:=h
        refine⟨by simp,fun _=>⟨rfl,fun t m=>?_⟩,by simp,by simp,by simp,by simp⟩
        rw[hev];simp only[Zs,if_pos hr,(QS hr.1 (m.hide2 _) hq).1,Option.bind_some,Z8]
       ·simp at h
      | app0n n=>rw[show x.kind=6 from hkind];exact⟨by simp,by simp,by simp,by simp,by simp,by simp⟩
      | plain b=>rw[show x.kind=6 from hkind];exact⟨by simp,by simp,by simp,by simp,by simp,by simp⟩
      | off b=>rw[show x.kind=6 from hkind];exact⟨by simp,by simp,by simp,by simp,by simp,by simp⟩
      | grow b=>rw[show x.kind=6 from hkind];exact⟨by simp,by simp,by simp,by simp,by simp,by simp⟩
      | here j =>
       rw[show x.kind=3 from hkind]
       simp only[Zd,Zs,Option.bind_eq_some_iff,ZcL]at h;obtain⟨b,hb,h⟩:=h
       split at h
       ·simp only[Option.bind_eq_some_iff,ZcK,Option.some.injEq,jP]at h
        obtain⟨i,hi,_,rfl⟩:=h
        exact⟨by simp,by simp,by simp,fun _=>.of_fill (Yi hi),by simp,by simp⟩
       ·simp at h
     | _=>rw[hx]at hkind;rw[show x.kind=6 from hkind];exact⟨by simp,by simp,by simp,by simp,by simp,by simp⟩
theorem Zc0(h:XJ O x e s=some (v,s')):
 (x.kind=0->s'=s/\∀t,XJ O x e t=some (v,t))/\(x.kind=1->s'=s/\∀t,More s t->XJ O x e t=some (v,t)) /\
 (x.kind=2->s'=s/\∀t,More s.mask t.mask->XJ O x e t=some (v,t))/\(x.kind=3->Adds s s')/\(x.kind=4->s'=s)/\(x.kind=5->s'.mask=s.mask):=by
 unfold XJ at h ⊢;simp only[Option.bind_eq_some_iff]at h;obtain⟨b,hb,h⟩:=h;rw[hb];simp only[Option.bind_some]
 cases b with
 | true=>exact ZvY h
 | false =>
  simp only[ZLE,Option.some.injEq,jP]at h;obtain⟨rfl,rfl⟩:=h
  exact⟨fun _=>⟨rfl,fun _=>rfl⟩,fun _=>⟨rfl,fun _ _=>rfl⟩,fun _=>⟨rfl,fun _ _=>rfl⟩,fun _=>⟨.refl _,.refl _⟩,fun _=>rfl,fun _=>rfl⟩
theorem Zib(hk:ZjS x.kind=true)(h:XJ O x e s=some (v,s')):s'=s:=by
 obtain⟨h0,h1,h2,_,h4,_⟩:=Zc0 h;unfold ZjS at hk
 split at hk
 ·rename_i q;exact (h0 q).1
 ·rename_i q;exact (h1 q).1
 ·rename_i q;exact (h2 q).1
 ·rename_i q;exact h4 q
 ·simp at hk
theorem ZtB{s1 s2:St}{w:AV}(hc:ZsI x.kind p.kind=true)(hx:XJ O x e s=some (v,s1))(hp:XJ O p e1 s1=some (w,s2))
 (h1:∀t,XJ O p e1 t=XJ O p e t) (h2:∀t,XJ O x e2 t=XJ O x e t):∃s1',XJ O p e s=some (w,s1')/\XJ O x e2 s1'=some (v,s2):=by
 obtain⟨x0,x1,x2,x3,x4,x5⟩:=Zc0 hx;obtain⟨p0,p1,p2,p3,p4,p5⟩:=Zc0 hp;simp only[ZsI,Bool.or_eq_true,Bool.and_eq_true,beq_iff_eq]at hc
 rcases hc with ((((hc|hc)|⟨hc,hc'⟩)|⟨hc|hc,hc'⟩)|⟨hc,hc'⟩)|⟨hc,hc'⟩
 ·obtain⟨rfl,q⟩:=x0 hc
  exact⟨s2,by rw[<- h1];exact hp,by rw[h2];exact q _⟩
 ·obtain⟨rfl,q⟩:=p0 hc
  exact⟨s,by rw[<- h1];exact q _,by rw[h2];exact hx⟩
 ·have e1:=Zib hc hx;subst e1
  have e2:=Zib hc' hp;subst e2
  exact⟨_,by rw[<- h1];exact hp,by rw[h2];exact hx⟩
 ·obtain⟨rfl,q⟩:=x1 hc
  exact⟨s2,by rw[<- h1];exact hp,by rw[h2];exact q _ (p3 hc').more⟩
 ·obtain⟨rfl,q⟩:=x2 hc
  exact⟨s2,by rw[<- h1];exact hp,by rw[h2];exact q _ (p3 hc').mask⟩
 ·obtain⟨rfl,q⟩:=x2 hc
  exact⟨s2,by rw[<- h1];exact hp,by rw[h2];exact q _ (by rw[p5 hc'];exact .refl _)⟩
 ·obtain⟨rfl,q⟩:=p2 hc'
  exact⟨s,by rw[<- h1];exact q _ (by rw[x5 hc];exact .refl _),by rw[h2];exact hx⟩
theorem QM(hk:x.own=false)(hx:x.op=.w k o)(t:St):Qs O e t x=Zs e t o k:=by
 unfold Qs
 rw[if_neg (by rw[hk];simp),hx];rfl
theorem ZrH{b:Opd}(h:Zs e s o (.plain b)=some (v,s')):∃lv ix ver i of,b.get e=.ptr lv ix ver i of/\∀lv' ix',¬ (lv'=lv/\ix'=ix)->s'.get lv' ix'=s.get lv' ix':=by
 simp only[Zs]at h;unfold ZTU at h
 split at h
 ·rename_i n a y
  split at h
  ·rename_i hc
   obtain⟨hsm,him⟩:=hc;unfold ZIU at hsm
   split at hsm
   ·rename_i lv ix ver i of lv' ix' ver' i' of' ha hb
    simp only[Bool.and_eq_true,beq_iff_eq]at hsm;obtain⟨rfl,rfl⟩:=hsm;refine⟨_,_,_,_,_,hb,?_⟩;simp only[evalPO,ha,ZA7,Option.bind_eq_some_iff,ZCI,Option.some.injEq,jP]at h;obtain⟨s2,⟨⟨v2,s3⟩,h1,h2⟩,_,rfl⟩:=h
    have e3:s3=s:=by
     have:=ZDE (n:=QK) (b:=lv+1) (st:=s) him
     rw[this]at h1;simp only[Option.some.injEq,jP]at h1;exact h1.2.symm
    subst e3;simp only[ZGM]at h2;unfold Xp at h2
    split at h2
    ·split at h2
     ·simp only[Option.bind_eq_some_iff]at h2
      obtain⟨e1,_,e2,_,h2⟩:=h2
      exact fun lv' ix' hne=>(Sh.of_put h2).get lv' ix' hne
     ·simp at h2
    ·simp at h2
   ·simp at hsm
  ·simp at h
 ·simp at h
theorem ZvZ{az:List Opd}{b:Opd}(h:az.any (Opd.same b)=true):∀ {lv ix ver i of:Nat},b.get e=.ptr lv ix ver i of->ZAc (Xu e az) lv ix=true:=by
 intro lv ix ver i of hb
 induction az with
 | nil=>simp at h
 | cons a az ih =>
  simp only[List.any_cons,Bool.or_eq_true]at h;simp only[Xu,ZAc,List.any_cons,Bool.or_eq_true]
  rcases h with h|h
  ·left
   unfold Opd.same at h
   split at h
   ·rename_i t u
    simp only[beq_iff_eq]at h;subst h;rw[hb];simp[YQ]
   ·simp at h
  ·right;exact ih h
theorem Zic{az:List Opd}{b:Opd}{w:AV}(hb:az.any (Opd.same b)=true)(hr:o.reads=true)(hp:Zs e s q (.plain b)=some (v,s')):
 (∀r t,evalPO e (s.hide (ZAc (Xu e az))) o=some (r,t)->∃t',evalPO e (s'.hide (ZAc (Xu e az))) o=some (r,t'))/\(∀r t,evalPO e (s'.hide (ZAc (Xu e az))) o=some (r,t)->∃t',evalPO e (s.hide (ZAc (Xu e az))) o=some (r,t')):=by
 obtain⟨lv,ix,ver,i,of,h1,h2⟩:=ZrH hp;have hP:=ZvZ hb h1
 have hg:∀lv' ix',(s'.hide (ZAc (Xu e az))).get lv' ix'=(s.hide (ZAc (Xu e az))).get lv' ix':=by
  intro lv' ix';rw[XO,XO]
  split
  ·rfl
  ·rename_i hn
   exact h2 lv' ix' (by rintro⟨rfl,rfl⟩;exact hn hP)
 exact⟨fun r t h=>⟨_,(QS hr (fun lv' ix' c hc=>by rw[hg];exact hc) h).1⟩,fun r t h=>⟨_,(QS hr (fun lv' ix' c hc=>by rw[<- hg];exact hc) h).1⟩⟩
theorem ZtC{b:Opd}(h:Zs e s o (.grow b)=some (v,s')):∀lv' ix' c,YQ lv' ix' (b.get e)=true->s.get lv' ix'=some c->s'.get lv' ix'=some c:=by
 simp only[Zs]at h;unfold Zlp at h
 split at h
 ·rename_i w bytes sl x'
  split at h
  ·rename_i hc
   obtain⟨hsm,hok⟩:=hc;simp only[evalPO,Option.bind_eq_some_iff]at h;obtain⟨ys,hys,h⟩:=h;rw[hys]at hok;unfold ZsF at hsm
   split at hsm
   ·rename_i ha
    rw[ha]at h;simp only[Q4]at h
    split at h
    ·simp only[Option.bind_eq_some_iff,JO,Option.some.injEq,jP]at h
     obtain⟨⟨i,s1⟩,hnw,_,rfl⟩:=h
     exact fun lv' ix' c _ hc=>(Adds.of_new hnw).more _ _ _ hc
    ·simp at h
   ·rename_i lv ix ver q m ha
    rw[ha]at h hok;simp only[ZsE,List.all_eq_true]at hok;simp only[Q4]at h
    split at h
    ·rw[Yw (f:=Zb QK (lv+1)) (fun u hu=>ZBE (n:=QK) (hok u hu))]at h
     simp only[Option.bind_some,Zf4]at h;unfold ZRL at h
     split at h
     ·split at h
      ·simp only[Option.bind_eq_some_iff,Option.some.injEq,jP]at h
       obtain⟨st2,hput,_,rfl⟩:=h;intro lv' ix' c hne hcc
       rw[(Sh.of_put hput).get lv' ix' (by
        rintro⟨rfl,rfl⟩
        rw[hne]at hsm;simp at hsm)]
       exact hcc
      ·simp at h
     ·simp at h
    ·simp at h
   ·simp at hsm
  ·simp at h
 ·simp at h
theorem ZrI{a b:Opd}(hb:Opd.same a b=true)(hr:o.reads=true)(hp:Zs e s q (.grow b)=some (v,s')):
 ∀r t,evalPO e (s.hide fun lv ix=>!YQ lv ix (a.get e)) o=some (r,t)->∃t',evalPO e (s'.hide fun lv ix=>!YQ lv ix (a.get e)) o=some (r,t'):=by
 have hi:=ZtC hp
 have hab:a.get e=b.get e:=by
  unfold Opd.same at hb
  split at hb
  ·simp only[beq_iff_eq]at hb;rw[hb]
  ·simp at hb
 refine fun r t h=>⟨_,(QS hr (fun lv' ix' c hc=>?_) h).1⟩
 rw[XO]at hc ⊢
 split at hc
 ·simp at hc
 ·rename_i hn
  rw[if_neg hn]
  exact hi lv' ix' c (by rw[<- hab];simpa using hn) hc
theorem Zva{b:Opd}(h:Zs e s o (.off b)=some (v,s')):∀lv' ix' c,YQ lv' ix' (b.get e)=true->s.get lv' ix'=some c->s'.get lv' ix'=some c:=by
 simp only[Zs]at h;unfold Zqn at h
 split at h
 ·rename_i n a y
  split at h
  ·rename_i hc
   unfold Zlq at hc
   split at hc
   ·rename_i lv ix ver i of x0 ha
    simp only[Bool.and_eq_true,Bool.not_eq_true']at hc;simp only[evalPO,ha,ZA7,Option.bind_eq_some_iff,ZCI,Option.some.injEq,jP]at h;obtain⟨s2,⟨⟨v2,s3⟩,h1,h2⟩,_,rfl⟩:=h;rw[ZBE (n:=QK) hc.2]at h1;simp only[Option.some.injEq,jP]at h1;obtain⟨rfl,rfl⟩:=h1;simp only[ZGM]at h2;unfold Xp at h2
    split at h2
    ·split at h2
     ·simp only[Option.bind_eq_some_iff]at h2
      obtain⟨e1,_,e2,_,h2⟩:=h2;intro lv' ix' c hat hcc
      rw[(Sh.of_put h2).get lv' ix' (by
       rintro⟨rfl,rfl⟩
       rw[hat]at hc;simp at hc)]
      exact hcc
     ·simp at h2
    ·simp at h2
   ·simp at hc
  ·simp at h
 ·simp at h
theorem ZtD{a b:Opd}(hb:Opd.same a b=true)(hr:o.reads=true)(hp:Zs e s q (.off b)=some (v,s')):
 ∀r t,evalPO e (s.hide fun lv ix=>!YQ lv ix (a.get e)) o=some (r,t)->∃t',evalPO e (s'.hide fun lv ix=>!YQ lv ix (a.get e)) o=some (r,t'):=by
 have hi:=Zva hp
 have hab:a.get e=b.get e:=by
  unfold Opd.same at hb
  split at hb
  ·simp only[beq_iff_eq]at hb;rw[hb]
  ·simp at hb
 refine fun r t h=>⟨_,(QS hr (fun lv' ix' c hc=>?_) h).1⟩
 rw[XO]at hc ⊢
 split at hc
 ·simp at hc
 ·rename_i hn
  rw[if_neg hn]
  exact hi lv' ix' c (by rw[<- hab];simpa using hn) hc
def ZtE(n:Nat)(s s':St):Prop:=∀lv ix c,ix<n->s'.get lv ix=some c->s.get lv ix=some c
theorem ZqH{s s':St}(hA:s'.A=s.A)(hn:n<=s.L.length)(hL:s'.L=s.L\/∃b,s'.L=s.L++[b]):ZtE n s s':=by
 intro lv ix c hi hg;unfold St.get at hg ⊢;rw[hA]at hg
 split at hg
 ·rename_i hl
  rw[if_pos hl]
  rcases hL with q|⟨b,q⟩
  ·rw[q]at hg;exact hg
  ·rw[q,jL (by omega)]at hg;exact hg
 ·rename_i hl
  rw[if_neg hl];exact hg
theorem ZrJ(h:Zs e s o (.app0n n)=some (v,s')):ZtE n s s':=by
 simp only[Zs]at h
 split at h
 ·rename_i hn
  unfold ZLC at h
  split at h
  ·rename_i w bytes sl x'
   split at h
   ·rename_i hnl
    simp only[evalPO,Option.bind_eq_some_iff]at h;obtain⟨ys,_,h⟩:=h
    cases hsv:sl.get e<;>rw[hsv]at hnl h<;>simp only[Xo,jB]at hnl
    simp only[Q4]at h
    split at h
    ·simp only[Option.bind_eq_some_iff,JO,Option.some.injEq,jP]at h
     obtain⟨⟨i,s1⟩,hnw,_,rfl⟩:=h;unfold St.new at hnw
     split at hnw
     ·simp at hnw
     ·simp only[Option.some.injEq,jP]at hnw
      obtain⟨_,rfl⟩:=hnw;exact ZqH Y hn (.inr ⟨_,rfl⟩)
    ·simp at h
   ·simp at h
  ·simp at h
 ·simp at h
theorem Zc1{r:Bool × List Blk}{L:List Blk}{v:AV}{q:AV × St}(h:XL ⟨A++[r],ro,L⟩ v=some q):q.2.A=A/\(q.2.L=r.2\/∃b,q.2.L=r.2++[b]):=by
 unfold XL at h
 split at h
 ·split at h
  ·unfold ZTW at h
   split at h
   ·split at h
    ·simp only[Yd,Option.bind_some,ZTV]at h
     split at h
     ·simp at h
     ·simp only[Option.some.injEq]at h
      subst h;exact⟨rfl,.inr ⟨_,rfl⟩⟩
    ·simp at h
   ·simp at h
  ·simp at h
 ·simp only[Y5,Yd,Option.bind_some,ZcN,Option.some.injEq]at h
  subst h;exact⟨rfl,.inl Y⟩
 ·simp at h
theorem Zoc{r:Bool × List Blk}{L:List Blk}{v:AV}{q:AV × St}(h:ZAC (v,⟨A++[r],ro,L⟩)=some q):q.2.A=A/\(q.2.L=r.2\/∃b,q.2.L=r.2++[b]):=by
 unfold ZAC at h
 split at h
 ·split at h
  ·simp only[Option.bind_eq_some_iff,ZsG,Option.some.injEq]at h
   obtain⟨q1,h1,rfl⟩:=h;exact Zc1 (q:=q1) h1
  ·simp at h
 ·exact Zc1 h
theorem ZmW(h:Z4 O (.give n) f args s=some (v,s')):ZtE n s s':=by
 simp only[Z4]at h
 split at h
 ·rename_i hn
  simp only[Option.bind_eq_some_iff,ZiH]at h;obtain⟨r,_,h⟩:=h;obtain⟨h1,h2⟩:=Zoc h;exact ZqH h1 hn h2
 ·simp at h
theorem Zid{s s' t:St}{w:AV}{a:Opd}{m:Nat}(hm:m<=n)(ho:ZtE n s s')(h:Zs e s' o (.first a m)=some (w,t)):t=s'/\Zs e s o (.first a m)=some (w,s):=by
 simp only[Zs]at h ⊢
 split at h
 ·rename_i hr
  simp only[Option.bind_eq_some_iff,Z8,Option.some.injEq,jP]at h;obtain⟨⟨q1,q2⟩,hq,rfl,rfl⟩:=h;refine⟨rfl,?_⟩
  have hmo:More (s'.hide fun lv ix=>!YQ lv ix (a.get e)) (s.hide fun lv ix=>!YQ lv ix (a.get e)):=by
   intro lv ix c hc;rw[XO]at hc ⊢
   split at hc
   ·simp at hc
   ·rename_i hnn
    rw[if_neg hnn];refine ho lv ix c ?_ hc;have h2:=hr.2;unfold Zuh at h2
    split at h2
    ·rename_i l2 i2 _ _ _ hv
     rw[hv]at hnn;simp only[YQ,Bool.not_eq_true',Bool.not_eq_false,Bool.and_eq_true,beq_iff_eq]at hnn;simp only[decide_eq_true_eq]at h2;omega
    ·simp at h2
  rw[if_pos hr,(QS hr.1 hmo hq).1];rfl
 ·simp at h
theorem ZDF(h:Zs e s o (.here j)=some (v,s')):∃b i,newOf e o=some b/\s.ro=false/\Zln b.1=true/\findH j s.L=some i/\v=b.2 s.A.length i/\s'={ s with L:=s.L.set i b.1 }:=by
 simp only[Zs,Option.bind_eq_some_iff,ZcL]at h;obtain⟨b,hb,h⟩:=h
 split at h
 ·rename_i hc
  simp only[Option.bind_eq_some_iff,ZcK,Option.some.injEq,jP]at h;obtain⟨i,hi,rfl,rfl⟩:=h;exact⟨b,i,hb,hc.1,hc.2,hi,rfl,rfl⟩
 ·simp at h
theorem ZQ7{b:Blk × (Nat->Nat->AV)}(hb:newOf e o=some b)(hro:s.ro=false)(him:Zln b.1=true)(hf:findH j s.L=some i):Zs e s o (.here j)=some (b.2 s.A.length i,{ s with L:=s.L.set i b.1 }):=by
 simp only[Zs,hb,Option.bind_some,ZcL,if_pos (And.intro hro him),hf,ZcK]
theorem Zie{b:Blk}(h:Zln b=true)(j:Nat):b≠.hole j:=by
 rintro rfl;simp[Zln]at h
theorem ZrK(hO:FrO O){s1 s2:St}{w:AV}(ho:x.own=false/\p.own=false)(hc:ZsH x.op p.op=true)(hx:XJ O x e s=some (v,s1))(hp:XJ O p e1 s1=some (w,s2))
 (h1:∀t,XJ O p e1 t=XJ O p e t) (h2:∀t,XJ O x e2 t=XJ O x e t):∃s1',XJ O p e s=some (w,s1')/\XJ O x e2 s1'=some (v,s2):=by
 rw[h1]at hp;have hx':=hx;have hp':=hp;unfold XJ at hx hp;simp only[Option.bind_eq_some_iff]at hx hp;obtain⟨bx,hbx,hx⟩:=hx;obtain⟨bp,hbp,hp⟩:=hp
 have vx:∀t,XJ O x e t=ZLE O x e t bx:=fun t=>by unfold XJ;rw[hbx];rfl
 have vp:∀t,XJ O p e t=ZLE O p e t bp:=fun t=>by unfold XJ;rw[hbp];rfl
 cases bx with
 | false =>
  simp only[ZLE,Option.some.injEq,jP]at hx;obtain⟨rfl,rfl⟩:=hx
  exact⟨s2,hp',by rw[h2,vx];rfl⟩
 | true =>
  cases bp with
  | false =>
   simp only[ZLE,Option.some.injEq,jP]at hp;obtain⟨rfl,rfl⟩:=hp
   exact⟨s,by rw[vp];rfl,by rw[h2];exact hx'⟩
  | true =>
   simp only[ZLE]at hx hp;simp only[h2,vx,vp,ZLE];unfold ZsH at hc
   split at hc
   ·-- two holes
    rename_i i ox j op hxo hpo
    rw[QM ho.1 hxo]at hx;rw[QM ho.2 hpo]at hp;obtain⟨b,a,q1,q2,q3,q4,rfl,rfl⟩:=ZDF hx;obtain⟨b',a',r1,r2,r3,r4,rfl,rfl⟩:=ZDF hp
    have hij:i≠j:=by simpa using hc
    have la:=Yi q4
    have r4':findH j s.L=some a':=by
     rw[<- r4]
     exact (ZXG (by rw[la];simpa using hij) (Zie q3 j)).symm
    have la':=Yi r4'
    have hne:a≠a':=by
     rintro rfl
     rw[la]at la';simp only[Option.some.injEq,Blk.hole.injEq]at la';exact hij la'
    refine⟨{ s with L:=s.L.set a' b'.1 },by rw[QM ho.2 hpo];exact ZQ7 r1 q2 r3 r4',?_⟩
    rw[QM ho.1 hxo,ZQ7 (s:={ s with L:=s.L.set a' b'.1 }) (i:=a) q1 q2 q3 (by
     simp only
     rw[ZXG (by rw[la'];simpa using fun q=>hij q.symm) (Zie r3 i)];exact q4)]
    simp only[Option.some.injEq,jP,St.mk.injEq,true_and,and_true];exact List.set_comm _ _ hne.symm
   ·-- a look that does not see the block,and a write
    rename_i az ox b op hxo hpo
    rw[QM ho.1 hxo]at hx;rw[QM ho.2 hpo]at hp;simp only[Zs]at hx
    split at hx
    ·rename_i hr
     simp only[Option.bind_eq_some_iff,Z8,Option.some.injEq,jP]at hx;obtain⟨⟨q1,q2⟩,hq,rfl,rfl⟩:=hx;obtain⟨t',ht'⟩:=(Zic (w:=q1) hc hr hp).1 _ _ hq
     refine⟨s2,by rw[QM ho.2 hpo];exact hp,?_⟩
     rw[QM ho.1 hxo];simp only[Zs,if_pos hr,ht',Option.bind_some,Z8]
    ·simp at hx
   ·rename_i b ox az op hxo hpo
    rw[QM ho.1 hxo]at hx;rw[QM ho.2 hpo]at hp;simp only[Zs]at hp
    split at hp
    ·rename_i hr
     simp only[Option.bind_eq_some_iff,Z8,Option.some.injEq,jP]at hp;obtain⟨⟨q1,q2⟩,hq,rfl,rfl⟩:=hp;obtain⟨t',ht'⟩:=(Zic (w:=q1) hc hr hx).2 _ _ hq
     refine⟨s,?_,by rw[QM ho.1 hxo];exact hx⟩
     rw[QM ho.2 hpo];simp only[Zs,if_pos hr,ht',Option.bind_some,Z8]
    ·simp at hp
   ·-- a look that does not see the slice,and an append
    rename_i az ox b op hxo hpo
    rw[QM ho.1 hxo]at hx;rw[QM ho.2 hpo]at hp;simp only[Zs]at hx
    split at hx
    ·rename_i hr
     simp only[Option.bind_eq_some_iff,Z8,Option.some.injEq,jP]at hx;obtain⟨⟨q1,q2⟩,hq,rfl,rfl⟩:=hx;obtain⟨t',ht'⟩:=ZrI hc hr hp _ _ hq
     refine⟨s2,by rw[QM ho.2 hpo];exact hp,?_⟩
     rw[QM ho.1 hxo];simp only[Zs,if_pos hr,ht',Option.bind_some,Z8]
    ·simp at hx
   ·-- a look that sees one block alone,and a store elsewhere
    rename_i az ox b op hxo hpo
    rw[QM ho.1 hxo]at hx;rw[QM ho.2 hpo]at hp;simp only[Zs]at hx
    split at hx
    ·rename_i hr
     simp only[Option.bind_eq_some_iff,Z8,Option.some.injEq,jP]at hx;obtain⟨⟨q1,q2⟩,hq,rfl,rfl⟩:=hx;obtain⟨t',ht'⟩:=ZtD hc hr hp _ _ hq
     refine⟨s2,by rw[QM ho.2 hpo];exact hp,?_⟩
     rw[QM ho.1 hxo];simp only[Zs,if_pos hr,ht',Option.bind_some,Z8]
    ·simp at hx
   ·-- a call in a region of its own,and a hole
    rename_i f l j op hxo hpo
    have hxe:∀t,Qs O e t x=Xj O .inner (Xu e l) t (f.get e):=fun t=>by
     unfold Qs
     rw[if_neg (by rw[ho.1];simp),hxo];rfl
    rw[hxe]at hx;rw[QM ho.2 hpo]at hp;unfold Xj at hx hxe
    split at hx
    ·rename_i g first cap hf
     obtain⟨⟨k1,k2,k3⟩,k4⟩:=ZId hO hx;obtain⟨b',a',r1,r2,r3,r4,rfl,rfl⟩:=ZDF hp
     have r4':findH j s.L=some a':=by rw[<- r4];exact (ZTe k3).symm
     have la':=Yi r4';refine⟨{ s with L:=s.L.set a' b'.1 },?_,?_⟩
     ·rw[QM ho.2 hpo,ZQ7 r1 (by rw[<- k2];exact r2) r3 r4',k1]
     ·rw[hxe,hf]
      exact k4 a' j b'.1 la'
    ·rename_i g hf
     obtain⟨⟨k1,k2,k3⟩,k4⟩:=ZId hO hx;obtain⟨b',a',r1,r2,r3,r4,rfl,rfl⟩:=ZDF hp
     have r4':findH j s.L=some a':=by rw[<- r4];exact (ZTe k3).symm
     have la':=Yi r4';refine⟨{ s with L:=s.L.set a' b'.1 },?_,?_⟩
     ·rw[QM ho.2 hpo,ZQ7 r1 (by rw[<- k2];exact r2) r3 r4',k1]
     ·rw[hxe,hf]
      exact k4 a' j b'.1 la'
    ·simp at hx
   ·-- the same,of a call that writes nothing
    rename_i f l j op hxo hpo
    have hxe:∀t,Qs O e t x=Xj O .pin (Xu e l) t (f.get e):=fun t=>by
     unfold Qs
     rw[if_neg (by rw[ho.1];simp),hxo];rfl
    rw[hxe]at hx;rw[QM ho.2 hpo]at hp;unfold Xj at hx hxe
    split at hx
    ·rename_i g first cap hf
     have hx2:(Z4 O .inner g (ZH (first++Xu e l++cap)) s.allRo).bind (Z8 s)=some (v,s1):=hx
     simp only[Option.bind_eq_some_iff,Z8,Option.some.injEq,jP]at hx2;obtain⟨⟨v0,s0⟩,hin,rfl,rfl⟩:=hx2;obtain⟨_,k4⟩:=ZId hO hin;obtain⟨b',a',r1,r2,r3,r4,rfl,rfl⟩:=ZDF hp;have la':=Yi r4;refine⟨{ s with L:=s.L.set a' b'.1 },?_,?_⟩
     ·rw[QM ho.2 hpo,ZQ7 r1 r2 r3 r4]
     ·rw[hxe,hf]
      have q:=k4 a' j b'.1 la'
      show (Z4 O .inner g (ZH (first++Xu e l++cap)) ({ s with L:=s.L.set a' b'.1 }:St).allRo).bind (Z8 { s with L:=s.L.set a' b'.1 })=_
      have e1:({ s with L:=s.L.set a' b'.1 }:St).allRo={ s.allRo with L:=s.allRo.L.set a' b'.1 }:=rfl;rw[e1,q];rfl
    ·rename_i g cs hf
     have hx2:(Z4 O .inner (yB+g) (ZH (Xu e l++cs)) s.allRo).bind (Z8 s)=some (v,s1):=hx;simp only[Option.bind_eq_some_iff,Z8,Option.some.injEq,jP]at hx2;obtain⟨⟨v0,s0⟩,hin,rfl,rfl⟩:=hx2;obtain⟨_,k4⟩:=ZId hO hin;obtain⟨b',a',r1,r2,r3,r4,rfl,rfl⟩:=ZDF hp;have la':=Yi r4;refine⟨{ s with L:=s.L.set a' b'.1 },?_,?_⟩
     ·rw[QM ho.2 hpo,ZQ7 r1 r2 r3 r4]
     ·rw[hxe,hf]
      have q:=k4 a' j b'.1 la'
      show (Z4 O .inner (yB+g) (ZH (Xu e l++cs)) ({ s with L:=s.L.set a' b'.1 }:St).allRo).bind (Z8 { s with L:=s.L.set a' b'.1 })=_
      have e1:({ s with L:=s.L.set a' b'.1 }:St).allRo={ s.allRo with L:=s.allRo.L.set a' b'.1 }:=rfl;rw[e1,q];rfl
    ·simp at hx
   ·-- a slice is begun,and a look at what was there
    rename_i n op a m ox hxo hpo
    rw[QM ho.1 hxo]at hx;rw[QM ho.2 hpo]at hp;obtain⟨rfl,q⟩:=Zid (of_decide_eq_true hc) (ZrJ hx) hp
    exact⟨s,by rw[QM ho.2 hpo];exact q,by rw[QM ho.1 hxo];exact hx⟩
   ·-- a call hands its slice over,and a look at what was there
    rename_i n f l a m op hxo hpo
    have hxe:∀t,Qs O e t x=Xj O (.give n) (Xu e l) t (f.get e):=fun t=>by
     unfold Qs
     rw[if_neg (by rw[ho.1];simp),hxo];rfl
    rw[hxe]at hx;rw[QM ho.2 hpo]at hp
    have hol:ZtE n s s1:=by
     unfold Xj at hx
     split at hx
     ·exact ZmW hx
     ·exact ZmW hx
     ·simp at hx
    obtain⟨rfl,q⟩:=Zid (of_decide_eq_true hc) hol hp
    exact⟨s,by rw[QM ho.2 hpo];exact q,by rw[hxe];exact hx⟩
   ·simp at hc
theorem Zvb(hO:FrO O){R:List PI}{r:Env × St}(hc:ZY7 x p=true)(h:JK O (x::p::R) e s=some r):∃r',JK O (p::x::R) e s=some r'/\EqE r.1 r'.1/\r'.2=r.2:=by
 simp only[ZY7,Bool.and_eq_true]at hc;obtain⟨hk,hd,hx,hp⟩:=hc;simp only[ZAR,Option.bind_eq_some_iff]at h;obtain⟨⟨v,s1⟩,h1,⟨w,s2⟩,h2,h3⟩:=h
 have hcomm:∃s1',XJ O p e s=some (w,s1')/\XJ O x (ZC5 e p.dst w) s1'=some (v,s2):=by
  simp only[Bool.or_eq_true,Bool.and_eq_true,Bool.not_eq_true']at hk
  rcases hk with hk|hk
  ·exact ZtB hk h1 h2 (fun t=>ZVA (ZQ6 hx)) (fun t=>ZVA (ZQ6 hp))
  ·exact ZrK hO hk.1 hk.2 h1 h2 (fun t=>ZVA (ZQ6 hx)) (fun t=>ZVA (ZQ6 hp))
 obtain⟨s1',q1,q2⟩:=hcomm;obtain⟨r',r1,r2,r3⟩:=ZiY (ZrE hd) h3
 exact⟨r',by simp only[ZAR,q1,q2,Option.bind_some];exact r1,r2,r3⟩
theorem EqE.trans{e3:Env}(h:EqE e1 e2)(k:EqE e2 e3):EqE e1 e3:=fun t=>(h t).trans (k t)
theorem ZmX(hO:FrO O){R:List PI}:∀ {pre:List PI} {e:Env} {s:St} {r:Env × St},(∀x∈pre,ZY7 x p=true)->JK O (pre++p::R) e s=some r ->
 ∃r',JK O (p::(pre++R)) e s=some r'/\EqE r.1 r'.1/\r'.2=r.2
 | [],e,s,r,_,h=>⟨r,h,fun _=>rfl,rfl⟩
 | x::pre,e,s,r,hc,h=>by
  rw[List.cons_append,ZAR,Option.bind_eq_some_iff]at h;obtain⟨q,hq,h⟩:=h
  obtain⟨r',h1,h2,h3⟩:=ZmX hO (fun y hy=>hc y (by simp[hy])) h
  have h4:JK O (x::p::(pre++R)) e s=some r':=by rw[ZAR,hq];exact h1
  obtain⟨r'',k1,k2,k3⟩:=Zvb hO (hc x (by simp)) h4
  exact⟨r'',k1,h2.trans k2,k3.trans h3⟩
end
section
variable {P:Program}{O:Orc}{W0:World}{B0:Bse}{st st':St}{ρ:Rho}{W:World}{e:Env}{a:Act}
theorem box_inv{own:Bool}{o:Oper}(h:Q5 P own cm o=some (.box x)):(∃el z,o.op=.alloc el/\ZC9 P el=some z/\x=.v z)\/(∃el y,o.op=.box el y/\opd y=some x):=by
 cases hop:o.op with
 | alloc el =>
  left
  simp only[Q5,hop]at h
  repeat' first
   | (exfalso;simp at h;done)
   | (exfalso;simp only[Option.bind_eq_some_iff]at h;obtain⟨_,_,h⟩:=h;repeat' split at h<;>simp at h;done)
   | split at h
  all_goals
   simp only[Option.map_eq_some_iff,PO.box.injEq]at h;obtain⟨z,hz,rfl⟩:=h;exact⟨el,z,rfl,hz,rfl⟩
 | box el y =>
  right
  simp only[Q5,hop]at h
  split at h
  ·exfalso
   repeat' first
    | (simp at h;done)
    | split at h
    | (simp only[Option.bind_eq_some_iff]at h;obtain⟨_,_,h⟩:=h)
  ·simp only[Option.map_eq_some_iff,PO.box.injEq]at h
   obtain⟨z,hz,rfl⟩:=h;exact⟨el,_,rfl,hz⟩
 | call c =>
  exfalso;simp only[Q5,hop]at h
  split at h
  ·unfold XM at h
   repeat' split at h
   all_goals simp[Option.bind_eq_some_iff,Option.map_eq_some_iff]at h
   all_goals (split at h<;>simp at h)
  ·simp[Option.bind_eq_some_iff,Option.map_eq_some_iff]at h
  ·simp at h
 | makeMap t r=>exfalso;cases r<;>simp[Q5,hop]at h
 | slice t x lo hi mx =>
  exfalso
  cases mx<;>simp only[Q5,hop]at h
  all_goals repeat' first
   | (exfalso;simp at h;done)
   | split at h
   | (simp only[Option.bind_eq_some_iff]at h;obtain⟨_,_,h⟩:=h)
 | _ =>
  exfalso;simp only[Q5,hop]at h
  repeat' first
   | (exfalso;simp at h;done)
   | split at h
   | (simp only[Option.bind_eq_some_iff]at h;obtain⟨_,_,h⟩:=h)
   | (simp only[Option.map_eq_some_iff]at h;obtain⟨_,_,h⟩:=h)
   | unfold ZOD at h
theorem no_w{own:Bool}{o:Oper}(h:Q5 P own cm o=some (.w k q)):False:=by
 cases hop:o.op with
 | call c =>
  simp only[Q5,hop]at h
  split at h
  ·unfold XM at h
   repeat' split at h
   all_goals simp[Option.bind_eq_some_iff,Option.map_eq_some_iff]at h
   all_goals (split at h<;>simp at h)
  ·simp[Option.bind_eq_some_iff,Option.map_eq_some_iff]at h
  ·simp at h
 | makeMap t r=>cases r<;>simp[Q5,hop]at h
 | slice t x lo hi mx =>
  cases mx<;>simp only[Q5,hop]at h
  all_goals repeat' first
   | (exfalso;simp at h;done)
   | split at h
   | (simp only[Option.bind_eq_some_iff]at h;obtain⟨_,_,h⟩:=h)
 | _ =>
  simp only[Q5,hop]at h
  repeat' first
   | (exfalso;simp at h;done)
   | split at h
   | (simp only[Option.bind_eq_some_iff]at h;obtain⟨_,_,h⟩:=h)
   | (simp only[Option.map_eq_some_iff]at h;obtain⟨_,_,h⟩:=h)
   | unfold ZOD at h
theorem ZtF{own:Bool}{o:Oper}{bytes:Nat}{z:AV}{l:Opd}(h:Q5 P own cm o=some (.mkslice w bytes z l c)):
 ∃t l' c' el i,o.op=.makeSlice t l' c'/\P.underlying t=some (.slice el)/\P.info? el=some i/\i.size≠0/\ZC9 P el=some z/\z.wide=some i.size/\opd l'=some l/\opd c'=some c/\i.size=w/\i.bytes=bytes:=by
 cases hop:o.op with
 | makeSlice t l' c' =>
  simp only[Q5,hop]at h
  split at h
  ·rename_i el hu
   simp only[Option.bind_eq_some_iff]at h;obtain⟨i,hi,h⟩:=h
   split at h
   ·simp at h
   ·rename_i hw0
    simp only[Option.bind_eq_some_iff]at h;obtain⟨z',hz,h⟩:=h
    split at h
    ·rename_i hzw
     simp only[Option.bind_eq_some_iff,Option.map_eq_some_iff,PO.mkslice.injEq]at h;obtain⟨l2,hl,c2,hc,rfl,rfl,rfl,rfl,rfl⟩:=h;exact⟨t,l',c',el,i,rfl,hu,hi,hw0,hz,hzw,hl,hc,rfl,rfl⟩
    ·simp at h
  ·simp at h
 | call c =>
  exfalso;simp only[Q5,hop]at h
  split at h
  ·unfold XM at h
   repeat' split at h
   all_goals simp[Option.bind_eq_some_iff,Option.map_eq_some_iff]at h
   all_goals (split at h<;>simp at h)
  ·simp[Option.bind_eq_some_iff,Option.map_eq_some_iff]at h
  ·simp at h
 | makeMap t r=>exfalso;cases r<;>simp[Q5,hop]at h
 | slice t x lo hi mx =>
  exfalso
  cases mx<;>simp only[Q5,hop]at h
  all_goals repeat' first
   | (exfalso;simp at h;done)
   | split at h
   | (simp only[Option.bind_eq_some_iff]at h;obtain⟨_,_,h⟩:=h)
 | _ =>
  exfalso;simp only[Q5,hop]at h
  repeat' first
   | (exfalso;simp at h;done)
   | split at h
   | (simp only[Option.bind_eq_some_iff]at h;obtain⟨_,_,h⟩:=h)
   | (simp only[Option.map_eq_some_iff]at h;obtain⟨_,_,h⟩:=h)
   | unfold ZOD at h
theorem ZtG(hr:Rel W0 B0 st ρ W)(he:EnvR (cx st ρ W st.A.length) e a.tmps){o:Oper}{own:Bool}{po:PO}(hc:Q5 P own cm o=some po)
 (h:Zs e st po (.here j)=some (v,st')):Fin W0 B0 st ρ W ((execOp a.eval o).run P W) v st':=by
 obtain⟨⟨blk,mk⟩,k,hb,hro,him,hk,rfl,rfl⟩:=ZDF h
 simp only at him ⊢
 have hvis:vis (some blk)=some blk:=by
  cases blk<;>first|rfl|simp[Zln]at him
 have hn:News st blk k { st with L:=st.L.set k blk }:=.of_fill hro (Yi hk) hvis;unfold newOf at hb
 split at hb
 ·rename_i x
  simp only[Option.bind_eq_some_iff,Option.some.injEq,jP]at hb;obtain⟨w,hw,rfl,rfl⟩:=hb
  have boxN:∀ {s:Sem Value} {t:TypeId} {y:Value},R (cx st ρ W st.A.length) (x.get e) y->(∀r W',(newVar t y).run P W=.ok r W'->s.run P W=.ok (.pointer (some r)) W') ->
   (execOp a.eval o).run P W=(do pure (Next.value (<- s)):Sem Next).run P W->Fin W0 B0 st ρ W ((execOp a.eval o).run P W) (.ptr st.A.length k 0 0 0) { st with L:=st.L.set k (.arr w 0 [x.get e]) }:=by
   intro s t y hx hs hrun;obtain⟨ρ',W',e1,g,hv⟩:=ZoQ (P:=P) (t:=t) hr hx hw hn
   exact⟨_,_,_,_,by rw[hrun];exact ZBX (hs _ _ e1),.inl Y,g,hv⟩
  rcases box_inv hc with⟨el,z,hop,hz,rfl⟩|⟨el,y,hop,hy⟩
  ·obtain⟨zv,hzr,hzc,_⟩:=ZGu (W:=W) hz
   exact boxN (s:=Instr.alloc el true (.tuple #[])) (t:=el) (hzc _) (fun r W' hn=>by simp[Instr.alloc,hzr,hn]) (by simp[execOp,hop])
  ·exact boxN (s:=Instr.box el (a.eval y)) (t:=el) (Zt hy he) (fun r W' hn=>by simp[Instr.box,hn]) (by simp[execOp,hop])
 ·rename_i w bytes z l c
  simp only[Option.bind_eq_some_iff,Option.some.injEq,jP]at hb;obtain⟨⟨b,n⟩,hb,rfl,rfl⟩:=hb;obtain⟨t,l',c',el,i,hop,hu,hi,hw0,hz,hzw,hl,hc',rfl,rfl⟩:=ZtF hc;obtain⟨x,ρ',W',hx,g,hv⟩:=ZiU (P:=P) hr hb hn (Zt hl he) (Zt hc' he) hu hi rfl rfl hw0 hz hzw
  exact⟨_,_,_,_,by simp only[execOp,hop];exact ZBX hx,.inl Y,g,hv⟩
 ·simp at hb
theorem Zxm(hr:Rel W0 B0 st ρ W)(he:EnvR (cx st ρ W st.A.length) e a.tmps){o:Oper}{own:Bool}{po:PO}(hc:Q5 P own cm o=some po)
 (h:Zs e st po k=some (v,st')):Fin W0 B0 st ρ W ((execOp a.eval o).run P W) v st':=by
 have nc:∀ {po:PO} {r:AV × St},Q5 P own cm o=some po->evalPO e st po=some r->Fin W0 B0 st ρ W ((execOp a.eval o).run P W) r.1 r.2:=by
  intro po r hc h
  exact Zs2 hr he hc (fun m f l q=>by subst q;simp[evalPO]at h) h
 cases k with
 | blind =>
  simp only[Zs]at h
  split at h
  ·rename_i hrd
   simp only[Option.bind_eq_some_iff,Z8,Option.some.injEq,jP]at h;obtain⟨⟨q1,q2⟩,hq,rfl,rfl⟩:=h;exact nc hc (QS hrd (.blank st) hq).1
  ·simp at h
 | hide _ =>
  simp only[Zs]at h
  split at h
  ·rename_i hrd
   simp only[Option.bind_eq_some_iff,Z8,Option.some.injEq,jP]at h;obtain⟨⟨q1,q2⟩,hq,rfl,rfl⟩:=h;exact nc hc (QS hrd (.hide _ st) hq).1
  ·simp at h
 | first b n =>
  simp only[Zs]at h
  split at h
  ·rename_i hrd
   simp only[Option.bind_eq_some_iff,Z8,Option.some.injEq,jP]at h;obtain⟨⟨q1,q2⟩,hq,rfl,rfl⟩:=h;exact nc hc (QS hrd.1 (.hide _ st) hq).1
  ·simp at h
 | app0n n =>
  simp only[Zs]at h;unfold ZLC at h
  split at h
  ·split at h
   ·split at h
    ·exact nc hc h
    ·simp at h
   ·simp at h
  ·simp at h
 | only b =>
  simp only[Zs]at h
  split at h
  ·rename_i hrd
   simp only[Option.bind_eq_some_iff,Z8,Option.some.injEq,jP]at h;obtain⟨⟨q1,q2⟩,hq,rfl,rfl⟩:=h;exact nc hc (QS hrd (.hide _ st) hq).1
  ·simp at h
 | imm =>
  simp only[Zs]at h;unfold Zlo at h
  split at h
  ·rename_i w z ps
   simp only[Option.bind_eq_some_iff,ZcM]at h;obtain⟨es,hes,h⟩:=h
   split at h
   ·rename_i hi
    simp only[Option.some.injEq,jP]at h;obtain⟨rfl,rfl⟩:=h
    refine nc (r:=(if es.isEmpty=true then .nils else .lit es,st)) hc ?_
    simp only[evalPO,hes,Option.bind_some,Zf5,jB,if_false]
    by_cases he':es.isEmpty=true
    ·simp[he']
    ·rw[if_neg he',if_neg he']
     have:=Yw (f:=Zb QK 0) (st:=st) (es:=es) fun v hv=>ZDE (List.all_eq_true.1 hi v hv)
     rw[this];rfl
   ·simp at h
  ·simp at h
 | app0 =>
  simp only[Zs]at h;unfold ZLC at h
  split at h
  ·split at h
   ·exact nc hc h
   ·simp at h
  ·simp at h
 | off b =>
  simp only[Zs]at h;unfold Zqn at h
  split at h
  ·split at h
   ·exact nc hc h
   ·simp at h
  ·simp at h
 | plain b =>
  simp only[Zs]at h;unfold ZTU at h
  split at h
  ·split at h
   ·exact nc hc h
   ·simp at h
  ·simp at h
 | here j=>exact ZtG hr he hc h
 | grow b =>
  simp only[Zs]at h;unfold Zlp at h
  split at h
  ·split at h
   ·exact nc hc h
   ·simp at h
  ·simp at h
end
end Go.QAbs
namespace Go.QAbs
open Go.RowKit (Below)
variable {u v v':AV}{agg ro:Bool}{cm:CM}{e e1 e2:Env}{f g:FuncId}{a b:Int}{A A0:List (Bool × List Blk)}{args cap cs es es' first vs ws z:LV}{L':List Blk}{is:List PI}{xs:List Value}{i id ix j l n s t ver w:Nat}{c x:Opd}{body:PC}{o q:PO}{p:Prop}{st st':St}{k:WK}
section
variable {P:Program}{O:Orc}{W0:World}{B0:Bse}{st s:St}{ρ ρ2:Rho}{W W2:World}
theorem ZmY:∀ {n:Nat} {C D:Cx} {v:AV} {x:Value},imm n v=true->R C v x->(∀b o u,C.im b o u->D.im b o u)->R D v x
 | 0,C,D,v,x,h,_,_=>by simp[imm]at h
 | n+1,C,D,v,x,h,hR,hm=>by
  have hp:C.pure.le D.pure:=⟨hm,fun _ _ _ _ _ _ q=>q,fun _ _ _ _ _ _ q=>q,fun _ _ _ q=>q,fun _ _ _ q=>q⟩
  cases hR with
  | any=>exact .any _
  | undef=>exact .undef
  | bool b=>exact .bool b
  | int k n=>exact .int k n
  | str s=>exact .str s
  | nilptr=>exact .nilptr
  | lptr h1 h2=>exact .lptr (h1.mono hp) (h2.mono hm)
  | nils a=>simp[imm]at h
  | lit0 a c=>exact .lit0 a c
  | lit xs h1 h2 h3=>exact .lit xs (fun i e he=>(h1 i e he).mono hp) (fun i hi=>⟨(h2 i hi).1,(h2 i hi).2.mono hm⟩) h3
  | nilmap=>exact .nilmap
  | nilfunc=>exact .nilfunc
  | niliface=>exact .niliface
  | agg hl h1 =>
   simp only[imm,List.all_eq_true]at h
   refine .agg hl fun i v x hv hx=>?_
   have h2:=h v (jM hv);have h3:=h1 i v x hv hx
   cases v with
   | nils=>cases h3 with|nils a=>exact .nils a
   | _=>exact ZmY (by simpa [Xo] using h2) h3 hm
  | tup hl h1 =>
   simp only[imm,List.all_eq_true]at h
   exact .tup hl fun i v x hv hx=>ZmY (h v (jM hv)) (h1 i v x hv hx) hm
  | ptr _=>simp[imm]at h
  | ref _=>simp[imm]at h
  | map _=>simp[imm]at h
  | func _ _ _ _ _=>simp[imm]at h
  | yld _ _ _=>simp[imm]at h
  | iface _ _=>simp[imm]at h
theorem ZtH(hr:Rel W0 B0 s ρ2 W2)(he:Ev st.push ρ W s ρ2 W2){A':List (Bool × List Blk)}{r:Bool × List Blk}(hp:pop s.A=some (A',r))(hro:r.1=false){b:Nat}{es0:LV}
 (hL:s.L[ix]?=some (.arr w ver es0)) (hbn:b+n<=es0.length) (him:((es0.drop b).take n).all (imm 6)=true) {x:Value} (hx:(cx s ρ2 W2 s.A.length).ref s.A.length ix ver b n x) :
 ∃ρ4,Goes W0 B0 st ρ W ⟨A',r.1,r.2++[.arr w 0 ((es0.drop b).take n)]⟩ ρ4 W2/\(∀m,m<=st.A.length->(cx s ρ2 W2 m).le (cx ⟨A',r.1,r.2++[.arr w 0 ((es0.drop b).take n)]⟩ ρ4 W2 m)) /\
  R (cx ⟨A',r.1,r.2++[.arr w 0 ((es0.drop b).take n)]⟩ ρ4 W2 A'.length) (.ref A'.length r.2.length 0 0 n) x:=by
 have hA:=ZjY hp
 have hlen:A'.length=st.A.length:=by have:=he.len;rw[hA]at this;simp[St.push]at this;exact this
 have hsA:s.A.length=A'.length+1:=by rw[hA];simp
 have hst2:s=⟨A'++[(r.1,r.2)],s.ro,s.L⟩:=by rw[<- hA]
 have hget0:s.get s.A.length ix=some (.arr w ver es0):=by simp[St.get,hL,vis]
 have hold:∀lv' ix',lv'<=A'.length->s.get lv' ix'=St.get ⟨A',r.1,r.2⟩ lv' ix':=by
  intro lv' ix' h
  rw[hst2,St.get_push,if_neg (by omega)]
 generalize hes:(es0.drop b).take n=es at *
 have hesl:es.length=n:=by rw[<- hes];simp;omega
 let l0:=ρ2 s.A.length ix
 let ρ4:=upd ρ2 A'.length r.2.length ⟨l0.b,l0.o+b*w,l0.c-b⟩
 have hg0:St.get ⟨A',r.1,r.2++[.arr w 0 es]⟩ A'.length r.2.length=some (.arr w 0 es):=by simp[St.get,vis]
 have hg1:∀lv' ix',¬ (lv'=A'.length/\ix'=r.2.length)->St.get ⟨A',r.1,r.2++[.arr w 0 es]⟩ lv' ix'=St.get ⟨A',r.1,r.2⟩ lv' ix':=by
  intro lv' ix' hne;simp only[St.get]
  split
  ·rename_i h1
   by_cases h3:ix'<r.2.length
   ·rw[jL h3]
   ·have:¬ ix'=r.2.length:=fun he=>hne ⟨h1,he⟩
    rw[List.getElem?_eq_none (by simp;omega),List.getElem?_eq_none (by omega)]
  ·rfl
 have hnone:St.get ⟨A',r.1,r.2⟩ A'.length r.2.length=none:=by simp[St.get,vis]
 have hr4:∀lv' ix',¬ (lv'=A'.length/\ix'=r.2.length)->ρ4 lv' ix'=ρ2 lv' ix':=fun lv' ix' h=>ZW5 _ _ _ _ h
 have hr0:ρ4 A'.length r.2.length=⟨l0.b,l0.o+b*w,l0.c-b⟩:=upd_same _ _ _ _;have aok:=hr.arr _ _ _ _ _ hget0;have hclen:=aok.len
 -- what t shows,s shows
 have hback:∀lv' ix' blk,St.get ⟨A',r.1,r.2++[.arr w 0 es]⟩ lv' ix'=some blk->¬ (lv'=A'.length/\ix'=r.2.length)->s.get lv' ix'=some blk/\lv'<=A'.length:=by
  intro lv' ix' blk h hne;have hl:=St.get_le h;rw[hg1 _ _ hne,<- hold _ _ hl]at h;exact⟨h,hl⟩
 have hfwd:∀lv' ix',lv'<=A'.length->(s.get lv' ix').isSome=true->¬ (lv'=A'.length/\ix'=r.2.length):=by
  rintro lv' ix' h1 h2 ⟨rfl,rfl⟩
  rw[hold _ _ h1,hnone]at h2;simp at h2
 have heq:∀lv' ix',lv'<=A'.length->¬ (lv'=A'.length/\ix'=r.2.length)->St.get ⟨A',r.1,r.2++[.arr w 0 es]⟩ lv' ix'=s.get lv' ix':=by
  intro lv' ix' h1 h2;rw[hg1 _ _ h2,hold _ _ h1]
 have hmul:∀j,j<(l0.c-b)*w->b*w+j<l0.c*w:=by
  intro j hj
  have:(l0.c-b)*w+b*w=l0.c*w:=by rw[<- Nat.add_mul];congr 1;show (ρ2 s.A.length ix).c-b+b=(ρ2 s.A.length ix).c;omega
  omega
 have hle:∀m,m<=A'.length->(cx s ρ2 W2 m).le (cx ⟨A',r.1,r.2++[.arr w 0 es]⟩ ρ4 W2 m):=by
  intro m hm
  refine⟨?_,?_,?_,?_,fun _ _ _ q=>q⟩
  ·rintro b' o' v ⟨h1,h2⟩
   refine⟨h1,fun hmut=>h2 ?_⟩
   obtain⟨lv',ix',w',ver',es',hg,hr1,hr2,hr3⟩:=hmut
   by_cases hne:lv'=A'.length/\ix'=r.2.length
   ·obtain⟨rfl,rfl⟩:=hne
    rw[hg0]at hg;simp only[Option.some.injEq,Blk.arr.injEq]at hg;obtain⟨rfl,_,_⟩:=hg;rw[hr0]at hr1 hr2 hr3
    simp only at hr1 hr2 hr3
    refine⟨s.A.length,ix,w,ver,es0,hget0,hr1,by show l0.o<=o';omega,?_⟩
    have:=hmul (o'-(l0.o+b*w)) (by omega)
    show o'<l0.o+l0.c*w
    omega
   ·rw[hr4 _ _ hne]at hr1 hr2 hr3
    exact⟨lv',ix',w',ver',es',(hback _ _ _ hg hne).1,hr1,hr2,hr3⟩
  ·rintro lv' ix' ver' i o' v ⟨h1,h2,h3,h4,h5⟩
   have hne:=hfwd lv' ix' (by omega) h2
   have e:=heq lv' ix' (by omega) hne
   exact⟨h1,by rw[e];exact h2,h3,fun w u es hg=>h4 w u es (by rw[<- e];exact hg),fun w es hg=>by rw[hr4 _ _ hne];exact h5 w es (by rw[<- e];exact hg)⟩
  ·rintro lv' ix' ver' i o' v ⟨h1,h2,h3,a,c,h4,h5⟩
   have hne:=hfwd lv' ix' (by omega) h2
   have e:=heq lv' ix' (by omega) hne
   exact⟨h1,by rw[e];exact h2,fun w u es hg=>h3 w u es (by rw[<- e];exact hg),a,c,h4,fun w es hg=>by rw[hr4 _ _ hne];exact h5 w es (by rw[<- e];exact hg)⟩
  ·rintro lv' ix' v ⟨h1,h2,r',h3,h5⟩
   have hne:=hfwd lv' ix' (by omega) h2
   have e:=heq lv' ix' (by omega) hne
   exact⟨h1,by rw[e];exact h2,r',h3,fun es hg=>by rw[hr4 _ _ hne];exact h5 es (by rw[<- e];exact hg)⟩
 have hrel:Rel W0 B0 ⟨A',r.1,r.2++[.arr w 0 es]⟩ ρ4 W2:=by
  have selfNe:∀lv' ix',lv'<=A'.length->¬ (lv'=s.A.length/\ix'=ix):=by rintro lv' ix' h ⟨rfl,_⟩;omega
  refine⟨hr.below,hr.b0,hr.yl,?_,?_,?_,?_⟩
  ·intro lv' ix' w' ver' es' hg
   by_cases hne:lv'=A'.length/\ix'=r.2.length
   ·obtain⟨rfl,rfl⟩:=hne
    rw[hg0]at hg;simp only[Option.some.injEq,Blk.arr.injEq]at hg;obtain⟨rfl,_,rfl⟩:=hg;rw[hr0]
    refine⟨by show es.length<=l0.c-b;have:es0.length<=l0.c:=hclen;omega,fun i e hi=>?_,fun j hj=>?_⟩
    ·have hi':=Zm hi
     rw[<- hes,List.getElem?_take]at hi
     split at hi
     ·rw[List.getElem?_drop]at hi
      obtain⟨y,q1,q2,q3⟩:=aok.el _ _ hi
      have himm:imm 6 e=true:=List.all_eq_true.1 him e (by rw[<- hes];rw[<- hes]at hi';exact jM (i:=i) (by rw[List.getElem?_take,if_pos (by omega),List.getElem?_drop];exact hi))
      refine⟨y,ZmY himm q1 ?_,q2,?_⟩
      ·exact (hle A'.length (Nat.le_refl _)).im
      ·show Lies _ l0.b (l0.o+b*w+i*w) y
       have e1:l0.o+b*w+i*w=l0.o+(b+i)*w:=by rw[Nat.add_mul];omega
       rw[e1];exact q3
     ·simp at hi
    ·have:=aok.mem (b*w+j) (hmul j hj)
     have e1:(ρ2 s.A.length ix).o+(b*w+j)=l0.o+b*w+j:=by show l0.o+(b*w+j)=_;omega
     rw[e1]at this;exact this
   ·obtain⟨h1,h2⟩:=hback _ _ _ hg hne
    obtain⟨a1,a2,a3⟩:=hr.arr _ _ _ _ _ h1;rw[hr4 _ _ hne]
    refine⟨a1,fun i e he=>?_,a3⟩
    obtain⟨y,q1,q2⟩:=a2 i e he;exact⟨y,q1.mono (hle lv' h2),q2⟩
  ·intro lv1 ix1 w1 ver1 es1 lv2 ix2 w2 ver2 es2 hg1' hg2' hne12 j1 j2 hj1 hj2
   by_cases hn1:lv1=A'.length/\ix1=r.2.length
   ·obtain⟨rfl,rfl⟩:=hn1
    have hn2:¬ (lv2=A'.length/\ix2=r.2.length):=fun q=>hne12 ⟨q.1.symm,q.2.symm⟩
    obtain⟨k1,k2⟩:=hback _ _ _ hg2' hn2;rw[hg0]at hg1';simp only[Option.some.injEq,Blk.arr.injEq]at hg1';obtain⟨rfl,_,_⟩:=hg1';rw[hr0]at hj1;rw[hr0,hr4 _ _ hn2];rw[hr4 _ _ hn2]at hj2
    have:=hr.sep _ _ _ _ _ _ _ _ _ _ hget0 k1 (fun q=>selfNe _ _ k2 ⟨q.1.symm,q.2.symm⟩) (b*w+j1) j2 (hmul j1 hj1) hj2
    rintro⟨p1,p2⟩
    exact this ⟨p1,by simp only at p2;show l0.o+(b*w+j1)=_;omega⟩
   ·obtain⟨k1,k2⟩:=hback _ _ _ hg1' hn1
    by_cases hn2:lv2=A'.length/\ix2=r.2.length
    ·obtain⟨rfl,rfl⟩:=hn2
     rw[hg0]at hg2';simp only[Option.some.injEq,Blk.arr.injEq]at hg2';obtain⟨rfl,_,_⟩:=hg2';rw[hr0]at hj2;rw[hr0,hr4 _ _ hn1];rw[hr4 _ _ hn1]at hj1
     have:=hr.sep _ _ _ _ _ _ _ _ _ _ k1 hget0 (selfNe _ _ k2) j1 (b*w+j2) hj1 (hmul j2 hj2)
     rintro⟨p1,p2⟩
     exact this ⟨p1,by simp only at p2;show _=l0.o+(b*w+j2);omega⟩
    ·obtain⟨m1,m2⟩:=hback _ _ _ hg2' hn2
     rw[hr4 _ _ hn1]at hj1;rw[hr4 _ _ hn2]at hj2;rw[hr4 _ _ hn1,hr4 _ _ hn2];exact hr.sep _ _ _ _ _ _ _ _ _ _ k1 m1 hne12 j1 j2 hj1 hj2
  ·intro lv' ix' es' hg
   have hne:¬ (lv'=A'.length/\ix'=r.2.length):=by rintro⟨rfl,rfl⟩;rw[hg0]at hg;simp at hg
   obtain⟨h1,h2⟩:=hback _ _ _ hg hne;obtain⟨m1,en,clock,m2,m3,m4⟩:=hr.map _ _ _ h1;rw[hr4 _ _ hne]
   refine⟨m1,en,clock,m2,m3,fun i k v hk=>?_⟩
   obtain⟨n1,x,n2,n3,n4⟩:=m4 i k v hk;exact⟨n1,x,n2,n3.mono (hle _ h2),n4.mono (hle _ h2)⟩
  ·intro lv1 ix1 es1 lv2 ix2 es2 hg1' hg2' hne12
   have hn1:¬ (lv1=A'.length/\ix1=r.2.length):=by rintro⟨rfl,rfl⟩;rw[hg0]at hg1';simp at hg1'
   have hn2:¬ (lv2=A'.length/\ix2=r.2.length):=by rintro⟨rfl,rfl⟩;rw[hg0]at hg2';simp at hg2'
   rw[hr4 _ _ hn1,hr4 _ _ hn2];exact hr.msep _ _ _ _ _ _ (hback _ _ _ hg1' hn1).1 (hback _ _ _ hg2' hn2).1 hne12
 have hA0:st.push.A[st.A.length]?=some (st.ro,st.L):=by simp[St.push]
 obtain⟨r',h1,h2,h3⟩:=he.old _ _ hA0
 have hr':r'=r:=by
  rw[hA,<- hlen]at h1
  simpa using h1.symm
 subst hr'
 refine⟨ρ4,⟨hrel,hlen,?_,?_,h2,fun hro'=>?_,he.yl⟩,fun m hm=>hle m (by omega),?_⟩
 ·intro m hm
  exact ((Sub.push st).cx hm).trans ((he.le m (by simp[St.push];omega)).trans (hle m (by omega)))
 ·intro lv x hx
  have hlt:=Zm hx
  have hx':st.push.A[lv]?=some x:=by simp only[St.push];rw[jL hlt];exact hx
  obtain⟨y,k1,k2,k3⟩:=he.old _ _ hx';refine⟨y,?_,k2,k3⟩
  rw[hA,jL (by omega)]at k1
  exact k1
 ·have h2':r'.1=st.ro:=h2
  rw[hro]at h2';rw[<- h2']at hro';simp at hro'
 ·obtain⟨p1,p2,p3,a,c,rfl,p4⟩:=hx
  obtain⟨q1,q2,q3⟩:=p4 w es0 hget0
  refine .ref ⟨Nat.le_refl _,by rw[hg0];rfl,fun w' u es' hg=>Nat.zero_le _,a,c,rfl,fun w' es' hg=>?_⟩
  rw[hg0]at hg;simp only[Option.some.injEq,Blk.arr.injEq]at hg;obtain⟨rfl,_,rfl⟩:=hg;rw[hr0]
  refine⟨by omega,by show c+0=l0.c-b;have:c+b=l0.c:=q2;omega,fun hlt=>?_⟩
  have:=q3 (by have:c+b=l0.c:=q2;have:0<l0.c-b:=hlt;show b<l0.c;omega)
  rw[this];simp only[Option.some.injEq]
  congr 1
  show l0.o+b*w=l0.o+b*w+0*w
  omega
theorem Zif(hr:Rel W0 B0 s ρ2 W2)(he:Ev st.push ρ W s ρ2 W2){r:AV × St}(h:XL s v=some r){x:Value}(hx:R (cx s ρ2 W2 s.A.length) v x):
 ∃ρ4,Goes W0 B0 st ρ W r.2 ρ4 W2/\(∀m,m<=st.A.length->(cx s ρ2 W2 m).le (cx r.2 ρ4 W2 m))/\R (cx r.2 ρ4 W2 r.2.A.length) r.1 x:=by
 cases v with
 | ref lv ix ver b n =>
  simp only[XL]at h
  split at h
  ·rename_i hl
   subst hl;unfold ZTW at h
   split at h
   ·rename_i w ver' es hL
    split at h
    ·rename_i hv
     subst hv;simp only[Option.bind_eq_some_iff]at h;obtain⟨⟨A',rr⟩,hp,h⟩:=h;unfold ZTV at h
     split at h
     ·simp at h
     ·rename_i hc
      simp only[Option.some.injEq]at h;subst h;simp only[not_or,Bool.not_eq_true,Bool.not_eq_false]at hc
      cases hx with
      | ref hx=>exact ZtH hr he hp hc.1 hL (by omega) hc.2.2 hx
    ·simp at h
   ·simp at h
  ·simp at h
 | nils =>
  simp only[XL,Y5,Option.bind_eq_some_iff,ZcN,Option.some.injEq]at h;obtain⟨⟨A',rr⟩,hp,rfl⟩:=h;obtain⟨g,hle⟩:=ZcW hr he hp;have hA:=ZjY hp;have hlen:A'.length=st.A.length:=g.ev.len
  refine⟨ρ2,g,fun m hm=>?_,?_⟩
  ·have hsub : Sub st.A.length s ⟨A', rr.1, rr.2⟩ := by
    refine⟨fun lv ix hlv=>?_,fun lv ix b hg=>by have:=St.get_le hg;simp only[hlen]at this;exact this⟩
    have hst2:s=⟨A'++[(rr.1,rr.2)],s.ro,s.L⟩:=by rw[<- hA]
    rw[hst2,St.get_push,if_neg (by omega)]
   exact hsub.cx hm
  ·cases hx with
   | nils a=>exact .nils a
 | _=>simp[XL]at h
theorem Zig(hr:Rel W0 B0 s ρ2 W2)(he:Ev st.push ρ W s ρ2 W2){r:AV × St}(h:ZAC (v,s)=some r){x:Value}(hx:R (cx s ρ2 W2 s.A.length) v x):
 ∃ρ4,Goes W0 B0 st ρ W r.2 ρ4 W2/\R (cx r.2 ρ4 W2 r.2.A.length) r.1 x:=by
 unfold ZAC at h
 split at h
 ·rename_i v0 vs hv
  simp only at hv
  subst hv
  split at h
  ·rename_i hc
   simp only[Option.bind_eq_some_iff,ZsG,Option.some.injEq]at h;obtain⟨q,hq,rfl⟩:=h
   cases hx with
   | @tup _ _ xs hl h1 =>
    obtain⟨y,ys,rfl,q1,q2⟩:=RL.cons_inv (C:=cx s ρ2 W2 s.A.length) (v:=v0) (vs:=vs) (ys:=xs) ⟨hl,h1⟩;obtain⟨ρ4,g,hle,hv⟩:=Zif hr he hq q1
    refine⟨ρ4,g,R.tup' (.cons hv ⟨q2.1,fun i u z hu hz=>?_⟩)⟩
    have himm:=List.all_eq_true.1 hc u (jM hu);exact ZmY himm (q2.2 i u z hu hz) (hle 0 (Nat.zero_le _)).im
  ·simp at h
 ·obtain⟨ρ4,g,_,hv⟩:=Zif hr he h hx
  exact⟨ρ4,g,hv⟩
end
def fen(ro:Option Nat):Fence:={ Fence.wide with round:=ro }
def ZtI(P:Program)(l:Nat)(xs:Array Value)(W:World)(R:Ending->World->Prop):Prop :=
 ∃fn tmps assign body,(Instr.yield l xs).run P W=.ok (.round l fn tmps assign body) W/\RoundIn .wide 0 P l fn tmps assign body W R
def CallsY(P:Program)(B0:Bse)(f:FuncId)(xs:List Value)(W:World)(R:Ending->World->Prop):Prop :=
 (f<yB->Calls P f xs.toArray W R)/\∀lv ys,f=yB+lv->xs=ys++(B0.y lv).2->ZtI P (B0.y lv).1 ys.toArray W R
theorem CallsY.mono{P:Program}{B0:Bse}{W:World}{R R':Ending->World->Prop}(h:CallsY P B0 f xs W R)(hr:∀e w',R e w'->R' e w'):CallsY P B0 f xs W R':=by
 refine⟨fun hf=>(h.1 hf).mono hr,fun lv ys hl hx=>?_⟩
 obtain⟨fn,tmps,assign,body,h1,h2⟩:=h.2 lv ys hl hx;exact⟨fn,tmps,assign,body,h1,h2.mono hr⟩
structure OSound(P:Program)(K:World->Bse->Prop)(O:Orc):Prop where
 frame:FrO O
 enter:∀ {f:FuncId} {args:LV} {st:St} {r:AV × St},f<yB->O f args st=some r->∀(xs:Array Value) (W:World),(callFunc f xs).run P W=.ok (.enter f xs) W
 calls:∀ {f:FuncId} {args:LV} {st:St} {v:AV} {st':St},O f args st=some (v,st')->∀ {W0:World} {B0:Bse} {ρ:Rho} {W:World} {xs:List Value},K W0 B0->Rel W0 B0 st ρ W->RL (cx st ρ W st.A.length) args xs ->
  CallsY P B0 f xs W fun e W'=>∃x ρ',e=.returned x/\Goes W0 B0 st ρ W st' ρ' W'/\R (cx st' ρ' W' st'.A.length) v x
section
variable {P:Program}{KW:World->Bse->Prop}{O:Orc}{W0:World}{B0:Bse}{st st':St}{ρ:Rho}{W:World}{e:Env}{a:Act}
theorem Zvc{C:Cx}{x:Value}(h:R C v x):R C (weak v) x:=by
 unfold weak
 split
 ·cases h;exact .lit0 _ _
 ·exact h
theorem Zc2{C:Cx}:∀ {vs:LV} {xs:List Value},RL C vs xs->RL C (ZH vs) xs
 | [],xs,h=>h
 | v::vs,xs,h=>by
  obtain⟨x,ys,rfl,h1,h2⟩:=h.cons_inv;exact .cons (Zvc h1) (Zc2 h2)
theorem ZmZ(hO:OSound P KW O)(hKW:KW W0 B0)(h:Z4 O .inner f args st=some (v,st'))(hr:Rel W0 B0 st ρ W)(hx:RL (cx st ρ W st.A.length) args xs):
 (f<yB->∀(ys:Array Value) (W:World),(callFunc f ys).run P W=.ok (.enter f ys) W) /\
  CallsY P B0 f xs W fun e W'=>∃x ρ',e=.returned x/\Goes W0 B0 st ρ W st' ρ' W'/\R (cx st' ρ' W' st'.A.length) v x:=by
 simp only[Z4,Option.bind_eq_some_iff,ZOB,ZLD,Y5,ZcN,Option.some.injEq,jP]at h;obtain⟨⟨v0,st1⟩,h0,⟨v1,st2⟩,hseal,⟨A',r0⟩,hpop,rfl,rfl⟩:=h
 simp only at hseal hpop
 have hpl:st.push.A.length=st.A.length+1:=by simp[St.push]
 have hpush:=Sub.push st
 refine⟨fun hf=>hO.enter hf h0,(hO.calls h0 hKW (hpush.rel hr) ((hx.mono (hpush.cx (Nat.le_refl _))).mono (Zcd (by omega)))).mono ?_⟩
 rintro e' W' ⟨x,ρ',rfl,g,hv⟩
 have hl1:st1.A.length=st.A.length+1:=by rw[g.ev.len,hpl]
 obtain⟨g2,hv2⟩:=ZBW QK st1.A.length st1 v0 x v1 st2 g.rel (by omega) hv hseal
 obtain⟨g3,hle⟩:=ZcW g2.rel (g.ev.trans g2.ev) hpop;refine⟨x,ρ',rfl,g3,?_⟩;rw[hl1]at hv2;have hl3:(⟨A',r0.1,r0.2⟩:St).A.length=st.A.length:=g3.ev.len;rw[hl3]
 exact R.mono (show R (cx st2 ρ' W' st.A.length) v1 x from hv2) hle
theorem Zma(hO:OSound P KW O)(hKW:KW W0 B0){m:CM}(h:Z4 O m f args st=some (v,st'))(hr:Rel W0 B0 st ρ W)(hx:RL (cx st ρ W st.A.length) args xs):
 (f<yB->∀(ys:Array Value) (W:World),(callFunc f ys).run P W=.ok (.enter f ys) W) /\
  CallsY P B0 f xs W fun e W'=>∃x ρ',e=.returned x/\Goes W0 B0 st ρ W st' ρ' W'/\R (cx st' ρ' W' st'.A.length) v x:=by
 cases m with
 | norm=>exact⟨fun hf=>hO.enter hf h,hO.calls h hKW hr hx⟩
 | own =>
  simp only[Z4,Option.bind_eq_some_iff,Zlr]at h;obtain⟨⟨v0,st2⟩,h0,h⟩:=h
  split at h
  ·simp only[Option.some.injEq,jP]at h
   obtain⟨rfl,rfl⟩:=h
   have hs:Sub st.A.length st { st with ro:=true }:=Sub.same (s:=st) (t:={ st with ro:=true }) (fun lv ix=>rfl)
   refine⟨fun hf=>hO.enter hf h0,(hO.calls h0 hKW (hs.rel hr) hx).mono ?_⟩
   rintro e' W' ⟨x,ρ',rfl,g,hv⟩
   obtain⟨g',hle⟩:=Zw0 (st:=st) g.rel g.ev;have hL:st2.L=st.L:=g.ev.cur rfl
   have he:(⟨st2.A,st.ro,st.L⟩:St)={ st2 with ro:=st.ro }:=by rw[<- hL]
   rw[he];exact⟨x,ρ',rfl,g',hv.mono (hle _)⟩
  ·simp at h
 | pure =>
  simp only[Z4,Option.bind_eq_some_iff,Z8,Option.some.injEq,jP]at h;obtain⟨⟨v0,st2⟩,h0,h1,rfl⟩:=h
  simp only at h1;subst h1
  have hl1:st.allRo.A.length=st.A.length:=by simp[St.allRo]
  have hcx:∀m,cx st.allRo ρ W m=cx st ρ W m:=by
   intro m;unfold cx Mut;simp only[Qm]
  have hs:Sub st.A.length st st.allRo:=by
   have:=Sub.same (s:=st) (t:=st.allRo) (Qm st)
   rw[hl1]at this;exact this
  refine⟨fun hf=>hO.enter hf h0,(hO.calls h0 hKW (hs.rel hr) (by rw[hl1,hcx];exact hx)).mono ?_⟩
  rintro e' W' ⟨x,ρ',rfl,g,hv⟩
  obtain⟨g',hle⟩:=Zpt (st:=st) g.rel g.ev
  have hl2:st2.A.length=st.A.length:=by rw[g.ev.len,hl1]
  rw[hl2]at hv;exact⟨x,ρ',rfl,g',hv.mono (hle _ (Nat.le_refl _))⟩
 | inner=>exact ZmZ hO hKW h hr hx
 | move =>
  simp only[Z4,Option.bind_eq_some_iff]at h;obtain⟨⟨v0,st1⟩,h0,h⟩:=h
  have hpl:st.push.A.length=st.A.length+1:=by simp[St.push]
  have hpush:=Sub.push st
  refine⟨fun hf=>hO.enter hf h0,(hO.calls h0 hKW (hpush.rel hr) ((hx.mono (hpush.cx (Nat.le_refl _))).mono (Zcd (by omega)))).mono ?_⟩
  rintro e' W' ⟨x,ρ',rfl,g,hv⟩
  obtain⟨ρ4,g4,hv4⟩:=Zig g.rel g.ev h hv;exact⟨x,ρ4,rfl,g4,hv4⟩
 | give n =>
  simp only[Z4]at h
  split at h
  ·simp only[Option.bind_eq_some_iff]at h
   obtain⟨⟨v0,st1⟩,h0,h⟩:=h
   have hl1:st.allRo.A.length=st.A.length:=by simp[St.allRo]
   have hpl:st.allRo.push.A.length=st.A.length+1:=by simp[St.push,hl1]
   have hcx:∀m,cx st.allRo ρ W m=cx st ρ W m:=by
    intro m;unfold cx Mut;simp only[Qm]
   have hs:Sub st.A.length st st.allRo:=by
    have:=Sub.same (s:=st) (t:=st.allRo) (Qm st)
    rw[hl1]at this;exact this
   have hpush:=Sub.push st.allRo
   have hx1:RL (cx st.allRo ρ W st.allRo.A.length) args xs:=by rw[hl1,hcx];exact hx
   refine⟨fun hf=>hO.enter hf h0,(hO.calls h0 hKW (hpush.rel (hs.rel hr)) ((hx1.mono (hpush.cx (Nat.le_refl _))).mono (Zcd (by omega)))).mono ?_⟩
   rintro e' W' ⟨x,ρ',rfl,g,hv⟩
   obtain⟨q1,q2,q3⟩:=Zuo (st:=st) g.rel g.ev
   have hl2:st1.A.length=st.A.length+1:=by rw[g.ev.len,hpl]
   have hv2:R (cx ⟨st.A++[(st.ro,st.L)],st1.ro,st1.L⟩ ρ' W' (st.A++[(st.ro,st.L)]).length) v0 x:=by
    rw[hl2]at hv
    have:=hv.mono (q3 _ (by omega))
    simpa using this
   obtain⟨ρ4,g4,hv4⟩:=Zig q1 q2 h hv2;exact⟨x,ρ4,rfl,g4,hv4⟩
  ·simp at h
 | pin =>
  have h':(Z4 O .inner f args st.allRo).bind (Z8 st)=some (v,st'):=h;clear h;simp only[Option.bind_eq_some_iff,Z8,Option.some.injEq,jP]at h';obtain⟨⟨v0,st2⟩,h0,h1,rfl⟩:=h'
  simp only at h1;subst h1
  have hl1:st.allRo.A.length=st.A.length:=by simp[St.allRo]
  have hcx:∀m,cx st.allRo ρ W m=cx st ρ W m:=by
   intro m;unfold cx Mut;simp only[Qm]
  have hs:Sub st.A.length st st.allRo:=by
   have:=Sub.same (s:=st) (t:=st.allRo) (Qm st)
   rw[hl1]at this;exact this
  obtain⟨e1,e2⟩:=ZmZ hO hKW h0 (hs.rel hr) (by rw[hl1,hcx];exact hx)
  refine⟨e1,e2.mono ?_⟩
  rintro e' W' ⟨x,ρ',rfl,g,hv⟩
  obtain⟨g',hle⟩:=Zpt (st:=st) g.rel g.ev
  have hl2:st2.A.length=st.A.length:=by rw[g.ev.len,hl1]
  rw[hl2]at hv;exact⟨x,ρ',rfl,g',hv.mono (hle _ (Nat.le_refl _))⟩
theorem ZtJ{o:Oper}{c:Call}{f:Operand}(hop:o.op=.call c)(hf:c.callee=.value f){ys:List Value}(hv:a.eval f=.func (.func g) xs.toArray ys.toArray)
 (hrun:∀(zs:Array Value) (W:World),(callFunc g zs).run P W=.ok (.enter g zs) W):(execOp a.eval o).run P W=.ok (.enter g (xs++c.args.toList.map a.eval++ys).toArray) W:=by
 have e1:(c.args.map a.eval)=(c.args.toList.map a.eval).toArray:=by rw[<- Array.toList_map,Array.toArray_toList]
 simp only[execOp,hop,resolve,hf,hv,Deferred.ofValue,invoke,Sem.run_bind,Sem.run_pure,Result.andThen_ok,hrun,e1]
 simp
theorem ZrL{o:Oper}{c:Call}{f:Operand}(hop:o.op=.call c)(hf:c.callee=.value f)(hv:a.eval f=.func (.yield l) #[] #[]):
 (execOp a.eval o).run P W=(Instr.yield l (c.args.toList.map a.eval).toArray).run P W:=by
 have e1:(c.args.map a.eval)=(c.args.toList.map a.eval).toArray:=by rw[<- Array.toList_map,Array.toArray_toList]
 simp only[execOp,hop,resolve,hf,hv,Deferred.ofValue,invoke,Sem.run_bind,Sem.run_pure,Result.andThen_ok,e1]
 simp
theorem Zvd{C:Cx}{nt:Nat}{d:Option Nat}{x:Value}(he:EnvR C e a.tmps)(hv:R C v x)(hd:ZsL nt d=true)(hs:nt<=a.tmps.size):EnvR C (ZC5 e d v) (a.put d x).tmps:=by
 intro t
 cases d with
 | none=>exact he t
 | some d =>
  simp only[ZsL,decide_eq_true_eq]at hd;simp only[ZC5,look,Act.put]
  split
  ·rename_i h;subst h
   have:(a.tmps.setIfInBounds d x).getD d Go.undef=x:=by
    simp[Array.getElem?_setIfInBounds]
    rw[if_pos (by omega)];rfl
   rw[this];exact hv
  ·rename_i h
   have:(a.tmps.setIfInBounds d x).getD t Go.undef=a.tmps.getD t Go.undef:=by
    simp[Array.getElem?_setIfInBounds_ne h]
   rw[this];exact he t
theorem put_size{d:Option Nat}{x:Value}:(a.put d x).tmps.size=a.tmps.size/\(a.put d x).defers=a.defers:=by
 cases d with
 | none=>exact⟨rfl,rfl⟩
 | some d=>exact⟨by simp[Act.put],rfl⟩
theorem ZrM{ops:Array Oper}{o:Oper}{g:Option (Nat × Bool)}(hg:Zbw ops o.guard=some g){C:Cx}(he:EnvR C e a.tmps){b:Bool}(hb:wantedV e g=some b):Region.wanted o (yielded ops a.tmps)=b:=by
 unfold Region.wanted
 cases hgo:o.guard with
 | none =>
  rw[hgo]at hg;simp only[Zbw,Option.some.injEq]at hg;subst hg;simp only[wantedV,Option.some.injEq]at hb;exact hb
 | some q =>
  obtain⟨j,want⟩:=q;rw[hgo]at hg;simp only[Zbw,Option.map_eq_some_iff]at hg;obtain⟨t,ht,rfl⟩:=hg;simp only[wantedV]at hb;have het:=he t;unfold ZIV at hb;unfold yielded;simp only[ht,Option.bind_some]
  have hgd:a.tmps.getD t Go.undef=(a.tmps[t]?).getD Go.undef:=by simp
  rw[hgd]at het
  split at hb
  ·rename_i b' hb'
   rw[hb']at het;simp only[Option.some.injEq]at hb;subst hb
   have:=Yg het
   cases hx:a.tmps[t]? with
   | none=>rw[hx]at this;simp[Go.undef]at this
   | some x=>rw[hx]at this;simp only[Option.getD_some]at this;subst this;rfl
  ·rename_i hb'
   rw[hb']at het;simp only[Option.some.injEq]at hb;subst hb
   cases hx:a.tmps[t]? with
   | none=>rfl
   | some x =>
    rw[hx]at het;simp only[Option.getD_some]at het
    cases het
    rfl
  ·simp at hb
theorem Zmb{own:Bool}{m:CM}{o:Oper}{f:Opd}{l:List Opd}(h:Q5 P own cm o=some (.call m f l)):∃c fo,o.op=.call c/\c.callee=.value fo/\opd fo=some f/\Zlv c.args.toList=some l:=by
 cases hop:o.op with
 | call c =>
  simp only[Q5,hop]at h
  split at h
  ·exfalso
   unfold XM at h
   repeat' split at h
   all_goals simp[Option.bind_eq_some_iff,Option.map_eq_some_iff]at h
   all_goals (split at h<;>simp at h)
  ·rename_i fo hfo
   simp only[Option.bind_eq_some_iff,Option.map_eq_some_iff]at h;obtain⟨f',hf,l',hl,h⟩:=h;simp only[PO.call.injEq]at h;obtain⟨_,rfl,rfl⟩:=h;exact⟨c,fo,rfl,hfo,hf,hl⟩
  ·simp at h
 | makeMap t r=>exfalso;cases r<;>simp[Q5,hop]at h
 | slice t x lo hi mx =>
  exfalso
  cases mx<;>simp only[Q5,hop]at h
  all_goals repeat' first
   | (exfalso;simp at h;done)
   | split at h
   | (simp only[Option.bind_eq_some_iff]at h;obtain⟨_,_,h⟩:=h)
 | _ =>
  exfalso;simp only[Q5,hop]at h
  repeat' first
   | (exfalso;simp at h;done)
   | split at h
   | (simp only[Option.bind_eq_some_iff]at h;obtain⟨_,_,h⟩:=h)
   | (simp only[Option.map_eq_some_iff]at h;obtain⟨_,_,h⟩:=h)
   | unfold ZOD at h
theorem wkOf_cases(o:PO)(i:Nat):∀l:List (Nat × WK),Zqp l i o=o\/∃k,Zqp l i o=.w k o
 | []=>.inl rfl
 | (j,k)::l=>by
  simp only[Zqp]
  split
  ·exact .inr ⟨k,rfl⟩
  ·exact wkOf_cases o i l
theorem ZtK{ro:Option Nat}(hO:OSound P KW O)(hKW:KW W0 B0){ops:Array Oper}{nt:Nat}{h:Hint}{o:Oper}{p:PI}(ho:ops[i]?=some o)(hc:ZcR P nt ops h i o=some p){Q:Exit->Act->World->Prop}{K:Act->World->Prop}
 (hr:Rel W0 B0 st ρ W) (he:EnvR (cx st ρ W st.A.length) e a.tmps) (hs:nt<=a.tmps.size) {v:AV} (hv:XJ O p e st=some (v,st'))
 (hK:∀a' ρ' W',Goes W0 B0 st ρ W st' ρ' W'->EnvR (cx st' ρ' W' st'.A.length) (ZC5 e p.dst v) a'.tmps->a'.tmps.size=a.tmps.size->a'.defers=a.defers->K a' W'):wpOpIn (fen ro) 0 P ops Q i K a W:=by
 unfold ZcR at hc
 split at hc
 case isFalse=>simp at hc
 rename_i hd
 simp only[Option.bind_eq_some_iff,Option.map_eq_some_iff]at hc;obtain⟨po0,hpo,g,hg,rfl⟩:=hc
 generalize hpe:Zqp h.wk i po0=po at *
 simp only[XJ,Option.bind_eq_some_iff]at hv;obtain⟨b,hb,hv⟩:=hv;have hw:=ZrM hg he hb;unfold wpOpIn;simp only[ho,hw]
 have putK:∀x ρ' W',Goes W0 B0 st ρ W st' ρ' W'->R (cx st' ρ' W' st'.A.length) v x->K (a.put o.dst x) W':=by
  intro x ρ' W' gs hx;have hlen:=gs.ev.len
  exact hK _ ρ' W' gs (Zvd (he.mono (by rw[hlen];exact gs.ev.le _ (Nat.le_refl _))) hx hd hs) put_size.1 put_size.2
 cases b with
 | false =>
  simp only[ZLE,Option.some.injEq,jP]at hv;obtain⟨rfl,rfl⟩:=hv;simp only[jB,if_false]
  exact⟨fun _ _=>trivial,putK _ ρ W (.refl hr) .undef⟩
 | true =>
  simp only[if_true]
  have hnd:∀c,o.op≠.defer c:=by
   intro c hop;simp only[Q5,hop]at hpo
   simp at hpo
  simp only[ZLE]at hv
  have fin:Fin W0 B0 st ρ W ((execOp a.eval o).run P W) v st'->o.wpIn (fen ro) 0 P a W K Q:=by
   rintro⟨nx,x,ρ',W',hrun,hnx,gs,hx⟩
   refine⟨fun _ _=>trivial,?_⟩
   rw[Oper.semAt_eq _ _ _ hnd,hrun]
   rcases hnx with rfl|⟨rfl,rfl⟩
   ·exact putK x ρ' W' gs hx
   ·exact putK _ ρ' W' gs hx
  rcases wkOf_cases po0 i h.wk with hw0|⟨kk,hw0⟩
  case inr =>
   rw[hpe]at hw0;subst hw0;unfold Qs at hv;simp only[PO.reads,jB,if_false]at hv
   split at hv
   ·simp at hv
   ·exact fin (Zxm hr he hpo hv)
  rw[hpe]at hw0;subst hw0
  have plain:(∀m f l,po≠.call m f l)->evalPO e st po=some (v,st')->o.wpIn (fen ro) 0 P a W K Q:=fun hn hev=>fin (Zs2 hr he hpo hn hev)
  unfold Qs at hv
  simp only at hv
  split at hv
  ·split at hv
   ·rename_i hrd
    simp only[Option.bind_eq_some_iff,Z8,Option.some.injEq,jP]at hv;obtain⟨⟨v0,s0⟩,h0,h1,rfl⟩:=hv
    simp only at h1;subst h1
    exact plain (fun m f l q=>by rw[q]at hrd;simp[PO.reads]at hrd) (QS hrd (.mask st) h0).1
   ·simp at hv
  ·by_cases hcall:∃m f l,po=.call m f l
   ·obtain⟨m,f,l,rfl⟩:=hcall
    simp only[Zd]at hv;unfold Xj at hv
    split at hv
    ·rename_i g' first cap hfe
     obtain⟨c,fo,hop,hcal,hfo,hl⟩:∃c fo,o.op=.call c/\c.callee=.value fo/\opd fo=some f/\Zlv c.args.toList=some l:=Zmb hpo;have hfv:=Zt hfo he;rw[hfe]at hfv;generalize hu:a.eval fo=u at hfv
     cases hfv with
     | @func _ _ hn _ _ xs ys hf hc rf rc =>
      have hargs:RL (cx st ρ W st.A.length) (first++Xu e l++cap) (xs++c.args.toList.map a.eval++ys):=(RL.append ⟨hf,rf⟩ (Zby hl he)).append ⟨hc,rc⟩
      obtain⟨h1,h2⟩:=Zma hO hKW hv hr (Zc2 hargs);have hg':g'<yB:=of_decide_eq_true hn
      refine⟨fun _ _=>trivial,?_⟩
      rw[Oper.semAt_eq _ _ _ hnd,ZtJ hop hcal hu (h1 hg')]
      refine⟨fun h=>absurd h (by simp[fen,Fence.wide]),?_⟩
      refine (callsIn_wide (n:=0)).2 ((h2.1 hg').mono ?_)
      rintro e' W' ⟨x,ρ',rfl,gs,hx⟩
      exact putK x ρ' W' gs hx
    ·rename_i l' cs hfe
     obtain⟨c,fo,hop,hcal,hfo,hl⟩:∃c fo,o.op=.call c/\c.callee=.value fo/\opd fo=some f/\Zlv c.args.toList=some l:=Zmb hpo;have hfv:=Zt hfo he;rw[hfe]at hfv;generalize hu:a.eval fo=u at hfv
     cases hfv with
     | func _ hn=>simp[Zn5]at hn
     | @yld _ _ ll tm _ hy hl2 rc =>
      obtain⟨h1,h2⟩:=Zma hO hKW hv hr (Zc2 ((Zby hl he).append ⟨hl2,rc⟩))
      have hyl:B0.y l'=(ll,tm):=by rw[<- hr.yl];exact hy.2
      obtain⟨fn,tmps,assign,body,h3,h4⟩:=h2.2 l' (c.args.toList.map a.eval) rfl (by rw[hyl])
      rw[hyl]at h3 h4
      refine⟨fun _ _=>trivial,?_⟩
      rw[Oper.semAt_eq _ _ _ hnd,ZrL hop hcal hu,h3]
      refine⟨fun h=>absurd h (by simp[fen,Fence.wide]),?_⟩
      refine RoundIn.mono (F:=.wide) h4 ?_
      rintro e' W' ⟨x,ρ',rfl,gs,hx⟩
      exact putK x ρ' W' gs hx
    ·simp at hv
   ·refine plain (fun m f l q=>hcall ⟨m,f,l,q⟩) ?_
    rw[<- hv]
    have hnw:∀k q,po≠.w k q:=fun k q hq=>by rw[hq]at hpo;exact no_w hpo
    cases hpp:po with
    | call m f l=>exact absurd ⟨m,f,l,hpp⟩ hcall
    | w k q=>exact absurd hpp (hnw k q)
    | _=>rfl
end
section
variable {P:Program}{KW:World->Bse->Prop}{ro:Option Nat}{O:Orc}{W0:World}{B0:Bse}{st st':St}{ρ:Rho}{W:World}{e:Env}{a:Act}{ops:Array Oper}{nt:Nat}{h:Hint}
theorem Zc3:∀ {os:List Oper} {k:Nat} {is:List PI},ZW3 P nt ops h k os=some is->is.length=os.length/\∀(j:Nat) (o:Oper),os[j]?=some o->∃p,is[j]?=some p/\ZcR P nt ops h (k+j) o=some p
 | [],k,is,hc=>by simp only[ZW3,Option.some.injEq]at hc;subst hc;exact⟨rfl,by simp⟩
 | o::os,k,is,hc=>by
  simp only[ZW3,Option.bind_eq_some_iff,Option.map_eq_some_iff]at hc;obtain⟨p,hp,ps,hps,rfl⟩:=hc;obtain⟨h1,h2⟩:=Zc3 hps
  refine⟨by simp[h1],fun j o' hj=>?_⟩
  cases j with
  | zero=>simp only[List.getElem?_cons_zero,Option.some.injEq]at hj;subst hj;exact⟨p,rfl,hp⟩
  | succ j =>
   simp only[List.getElem?_cons_succ]at hj ⊢;obtain⟨q,hq,hc⟩:=h2 j o' hj
   exact⟨q,hq,by rw[show k+(j+1)=k+1+j by omega];exact hc⟩
def ZtL(W0:World)(B0:Bse)(st:St)(ρ:Rho)(W:World)(a:Act)(r:Env × St)(Q:Exit->Act->World->Prop):Prop :=
 ∀a' ρ' W',Goes W0 B0 st ρ W r.2 ρ' W'->EnvR (cx r.2 ρ' W' r.2.A.length) r.1 a'.tmps->a'.tmps.size=a.tmps.size->a'.defers=a.defers->Q .normal a' W'
def Zxn(P:Program)(nt:Nat)(ops:Array Oper)(h:Hint)(q:Nat × PI):Prop:=∃o,ops[q.1]?=some o/\ZcR P nt ops h q.1 o=some q.2
theorem ZtM(hO:OSound P KW O)(hKW:KW W0 B0){Q:Exit->Act->World->Prop}{r:Env × St}:∀(l:List (Nat × PI)) (e:Env) (st:St) (ρ:Rho) (W:World) (a:Act),(∀q∈l,Zxn P nt ops h q)->JK O (l.map (·.2)) e st=some r ->
 Rel W0 B0 st ρ W->EnvR (cx st ρ W st.A.length) e a.tmps->nt<=a.tmps.size->ZtL W0 B0 st ρ W a r Q->wpOpsIn (fen ro) 0 P ops Q (l.map (·.1)) a W
 | [],e,st,ρ,W,a,_,hr,hrel,he,_,hQ=>by
  simp only[List.map_nil,JK,Option.some.injEq]at hr;subst hr;exact hQ a ρ W (.refl hrel) he Y Y
 | q::l,e,st,ρ,W,a,hk,hr,hrel,he,hs,hQ=>by
  simp only[jC]at hr ⊢;rw[ZAR,Option.bind_eq_some_iff]at hr;obtain⟨⟨v,st1⟩,hv,hr⟩:=hr
  obtain⟨o,ho,hc⟩:=hk q (by simp)
  rw[wpOpsIn_cons]
  refine ZtK hO hKW ho hc hrel he hs hv fun a' ρ' W' g he' hs' hd'=>?_
  exact ZtM hO hKW l _ _ ρ' W' a' (fun x hx=>hk x (by simp[hx])) hr g.rel he' (by omega) fun a'' ρ'' W'' g' h1 h2 h3=>hQ a'' ρ'' W'' (g.trans g') h1 (h2.trans hs') (h3.trans hd')
def ZqI(ops:Array Oper)(S:Nat->Prop):Prop:=∀(j:Nat) (o:Oper),ops[j]?=some o->S j->∀x∈XC o,S x
theorem ZXH{S:Nat->Prop}{ms:List Nat}{k:Nat}(hms:∀j,j<k->S j->∀i,(ms.getD j 0).testBit i=true->S i):
 ∀ {es:List Nat},(∀x∈es,S x/\x<k)->∀i,(ZOC ms es).testBit i=true->S i
 | [],_,i,hi=>by simp[ZOC]at hi
 | x::es,hx,i,hi=>by
  simp only[ZOC,Nat.testBit_or,Bool.or_eq_true]at hi
  obtain⟨h1,h2⟩:=hx x (by simp)
  rcases hi with hi|hi|hi
  ·rw[Nat.testBit_two_pow]at hi
   simp only[decide_eq_true_eq]at hi;subst hi;exact h1
  ·exact hms x h2 h1 i hi
  ·exact ZXH hms (fun y hy=>hx y (by simp[hy])) i hi
theorem apartAll_ok{m:Nat}{p:PI}:∀ {xs:List PI} {k:Nat},ZUw m p k xs=true->∀i x,xs[i]?=some x->m.testBit (k+i)=true\/ZY7 x p=true
 | [],k,_,i,x,hx=>by simp at hx
 | y::xs,k,hh,i,x,hx=>by
  simp only[ZUw,Bool.and_eq_true,Bool.or_eq_true]at hh
  cases i with
  | zero=>simp only[List.getElem?_cons_zero,Option.some.injEq]at hx;subst hx;exact hh.1
  | succ i =>
   simp only[List.getElem?_cons_succ]at hx
   have:=apartAll_ok hh.2 i x hx
   rw[show k+(i+1)=k+1+i by omega]
   exact this
theorem Zih{S:Nat->Prop}(hS:ZqI ops S):∀ {os:List Oper} {ps prev:List PI} {k:Nat} {ms:List Nat},ZjT k ms prev os ps=true->(∀j,os[j]?=ops[k+j]?)->ms.length=k->prev.length=k ->
 (∀j,j<k->S j->∀i,(ms.getD j 0).testBit i=true->S i)->∀(j:Nat) (o:Oper) (p:PI),os[j]?=some o->ps[j]?=some p ->
  (∀x∈XC o,x<k+j)/\((∀x∈XC o,S x)->∀i x,i<k+j->(prev++ps)[i]?=some x->¬ S i->ZY7 x p=true)
 | [],ps,prev,k,ms,_,_,_,_,_,j,o,p,ho,_=>by simp at ho
 | o0::os,[],prev,k,ms,_,_,_,_,_,j,o,p,_,hp=>by simp at hp
 | o0::os,p0::ps,prev,k,ms,hd,hops,hl,hl',hms,j,o,p,ho,hp=>by
  simp only[ZjT,Bool.and_eq_true]at hd;obtain⟨h1,h2,h3⟩:=hd
  have hlt:∀x∈XC o0,x<k:=fun x hx=>by have:=List.all_eq_true.1 h1 x hx;simpa using this
  cases j with
  | zero =>
   simp only[List.getElem?_cons_zero,Option.some.injEq]at ho hp;subst ho;subst hp
   refine⟨fun x hx=>by have:=hlt x hx;omega,fun hSe i x hi hx hn=>?_⟩
   have hi':i<prev.length:=by omega
   rw[jL hi']at hx
   rcases apartAll_ok h2 i x hx with hb|hb
   ·rw[Nat.zero_add]at hb
    exact absurd (ZXH hms (fun y hy=>⟨hSe y hy,hlt y hy⟩) i hb) hn
   ·exact hb
  | succ j =>
   simp only[List.getElem?_cons_succ]at ho hp
   have:=Zih hS (os:=os) (ps:=ps) h3 (fun j=>by have:=hops (j+1);simp only[List.getElem?_cons_succ]at this;rw[this];congr 1;omega) (by simp[hl]) (by simp[hl']) ?_ j o p ho hp
   ·rw[show k+(j+1)=k+1+j by omega]
    refine⟨this.1,fun hSe i x hi hx hn=>this.2 hSe i x hi ?_ hn⟩
    simpa using hx
   ·intro j' hj' hSj i hi
    by_cases hjk:j'<k
    ·refine hms j' hjk hSj i ?_
     rw[<- hi]
     simp[List.getD_eq_getElem?_getD,jL (show j'<ms.length by omega)]
    ·have:j'=k:=by omega
     subst this
     have h0:ops[j']?=some o0:=by have:=hops 0;simpa using this.symm
     have hm:(ms++[ZOC ms (XC o0)]).getD j' 0=ZOC ms (XC o0):=by
      simp[List.getD_eq_getElem?_getD,<- hl]
     rw[hm]at hi
     exact ZXH hms (fun y hy=>⟨hS j' o0 h0 hSj y hy,hlt y hy⟩) i hi
theorem mem_edges{o:Oper}{x:Nat}:x∈XC o↔∃y∈o.after,Region.binds .any y=true/\y.on=x:=by
 simp only[XC,List.mem_map,List.mem_filter,Array.mem_toList_iff]
 constructor
 ·rintro⟨y,⟨h1,h2⟩,h3⟩;exact⟨y,h1,h2,h3⟩
 ·rintro⟨y,h1,h2,h3⟩;exact⟨y,⟨h1,h2⟩,h3⟩
theorem ZxE(hO:OSound P KW O)(hKW:KW W0 B0){Q:Exit->Act->World->Prop}(hdraw:ZsJ ops.toList is=true)(hlen:is.length=ops.size)(hcomp:∀(j:Nat) (o:Oper),ops[j]?=some o->∃p,is[j]?=some p/\ZcR P nt ops h j o=some p):
 ∀(fuel:Nat) (listed:Array Bool) (zs:List (Nat × PI)) (r:Env × St) (e:Env) (st:St) (ρ:Rho) (W:World) (a:Act),
  listed.size=ops.size->ZqI ops (fun i=>listed.getD i false=true)->(∀q∈zs,is[q.1]?=some q.2)->zs.Pairwise (fun x y=>x.1<y.1) ->
  (∀i,i<ops.size->(listed.getD i false=false↔∃p,(i,p)∈zs))->zs.length=fuel->JK O (zs.map (·.2)) e st=some r ->
  Rel W0 B0 st ρ W->EnvR (cx st ρ W st.A.length) e a.tmps->nt<=a.tmps.size->ZtL W0 B0 st ρ W a r Q->wpAnyIn (fen ro) 0 P .any ops Q fuel listed a W:=by
 intro fuel
 have getDs:∀(l:Array Bool) (i:Nat),l.size=ops.size->i<ops.size->l.getD i true=l.getD i false:=by
  intro l i hl hi
  simp[Array.getElem?_eq_getElem (show i<l.size by omega)]
 induction fuel with
 | zero =>
  intro listed zs r e st ρ W a hls hcl hzs hpw hrem hfl hr hrel he hs hQ;have hz:zs=[]:=List.length_eq_zero_iff.1 hfl;subst hz;simp only[List.map_nil,JK,Option.some.injEq]at hr;subst hr;refine⟨?_,hQ a ρ W (.refl hrel) he Y Y⟩;rw[List.eq_nil_iff_forall_not_mem];intro j hj;obtain⟨h1,o,ho,_⟩:=mem_ready.1 hj;have hlt:=YF ho;rw[getDs _ _ hls hlt]at h1;obtain⟨p,hp⟩:=(hrem j hlt).1 h1
  simp at hp
 | succ fuel ih =>
  intro listed zs r e st ρ W a hls hcl hzs hpw hrem hfl hr hrel he hs hQ
  have hdr:∀(j:Nat) (o:Oper) (p:PI),ops[j]?=some o->is[j]?=some p->(∀x∈XC o,x<j)/\((∀x∈XC o,listed.getD x false=true)->∀i x,i<j->is[i]?=some x->¬ listed.getD i false=true->ZY7 x p=true):=by
   intro j o p ho hp
   have:=Zih hcl (os:=ops.toList) (ps:=is) (prev:=[]) (k:=0) (ms:=[]) hdraw (by simp) rfl rfl (by simp) j o p (by simpa using ho) hp
   simpa using this
  refine⟨fun hnil=>?_,fun i hi=>?_⟩
  ·exfalso
   cases zs with
   | nil=>simp at hfl
   | cons q zs =>
    have hq:=hzs q (by simp)
    have hlt:q.1<ops.size:=by rw[<- hlen];exact Zm hq
    have ho:ops[q.1]?=some ops[q.1]:=Array.getElem?_eq_getElem hlt;have hed:=(hdr q.1 _ q.2 ho hq).1
    have hin:q.1∈Region.ready .any ops listed:=by
     refine mem_ready.2 ⟨?_,_,ho,fun y hy hb=>?_⟩
     ·rw[getDs _ _ hls hlt]
      exact (hrem q.1 hlt).2 ⟨q.2,by simp⟩
     ·have hlt':=hed y.on (mem_edges.2 ⟨y,hy,hb,rfl⟩)
      cases hl:listed.getD y.on false with
      | true=>rfl
      | false =>
       obtain⟨p,hp⟩:=(hrem y.on (by omega)).1 hl
       rcases List.mem_cons.1 hp with hp|hp
       ·have:y.on=q.1:=by rw[<- hp]
        omega
       ·have:=(List.pairwise_cons.1 hpw).1 _ hp
        simp only at this
        omega
    rw[hnil]at hin
    simp at hin
  ·obtain⟨h1,o,ho,hall⟩:=mem_ready.1 hi
   have hlt:=YF ho;have h1':=h1;rw[getDs _ _ hls hlt]at h1';obtain⟨p,hp⟩:=(hrem i hlt).1 h1';obtain⟨pre,post,rfl⟩:=List.append_of_mem hp;have hip:=hzs (i,p) hp
   simp only at hip
   have hSe:∀x∈XC o,listed.getD x false=true:=fun x hx=>by
    obtain⟨y,hy,hb,rfl⟩:=mem_edges.1 hx;exact hall y hy hb
   have hcom:∀x∈pre.map (·.2),ZY7 x p=true:=by
    intro x hx;obtain⟨q,hq,rfl⟩:=List.mem_map.1 hx
    have hqi:q.1<i:=(List.pairwise_append.1 hpw).2.2 q hq (i,p) (by simp)
    refine (hdr i o p ho hip).2 hSe q.1 q.2 hqi (hzs q (by simp[hq])) ?_
    have:=(hrem q.1 (by omega)).2 ⟨q.2,by simp[hq]⟩
    rw[this];simp
   simp only[List.map_append,jC]at hr;obtain⟨r',hr',hE,hst⟩:=ZmX hO.frame hcom hr;rw[ZAR,Option.bind_eq_some_iff]at hr';obtain⟨⟨v,st1⟩,hv,hr'⟩:=hr';obtain⟨p',hp',hc⟩:=hcomp i o ho;rw[hip]at hp';simp only[Option.some.injEq]at hp';subst hp'
   refine ZtK hO hKW ho hc hrel he hs hv fun a' ρ' W' g he' hs' hd'=>?_
   have hpw':(pre++post).Pairwise (fun x y=>x.1<y.1):=hpw.sublist (by simp)
   have hne:∀q∈pre++post,q.1≠i:=by
    intro q hq
    rcases List.mem_append.1 hq with hq|hq
    ·have:=(List.pairwise_append.1 hpw).2.2 q hq (i,p) (by simp)
     simp only at this;omega
    ·have:=(List.pairwise_cons.1 (List.pairwise_append.1 hpw).2.1).1 q hq
     simp only at this;omega
   refine ih (listed.setIfInBounds i true) (pre++post) r' _ _ ρ' W' a' (by simp[hls]) ?_ (fun q hq=>hzs q ?_) hpw' ?_ (by simp at hfl ⊢;omega) (by simpa using hr') g.rel he' (by omega) ?_
   ·intro j oj hj hSj x hx
    by_cases hji:i=j
    ·subst hji
     rw[ho]at hj;simp only[Option.some.injEq]at hj;subst hj;exact getD_set_true (hSe x hx)
    ·have hSj':(listed.setIfInBounds i true).getD j false=true:=hSj
     rw[getD_set_ne false hji]at hSj';exact getD_set_true (hcl j oj hj hSj' x hx)
   ·rcases List.mem_append.1 hq with hq|hq<;>simp[hq]
   ·intro j hj
    by_cases hji:i=j
    ·subst hji
     constructor
     ·intro hf
      have:(listed.setIfInBounds i true).getD i false=true:=by
       simp[hls,hlt]
      rw[this]at hf;simp at hf
     ·rintro⟨q,hq⟩
      exact absurd Y (hne _ hq)
    ·rw[getD_set_ne false hji,hrem j hj]
     constructor
     ·rintro⟨q,hq⟩
      refine⟨q,?_⟩
      rcases List.mem_append.1 hq with hq|hq
      ·simp[hq]
      ·rcases List.mem_cons.1 hq with hq|hq
       ·exact absurd (by rw[jP]at hq;exact hq.1.symm) hji
       ·simp[hq]
     ·rintro⟨q,hq⟩
      refine⟨q,?_⟩
      rcases List.mem_append.1 hq with hq|hq<;>simp[hq]
   ·intro a'' ρ'' W'' g' h1 h2 h3
    rw[hst]at g' h1
    exact hQ a'' ρ'' W'' (g.trans g') (fun t=>by rw[hE t];exact h1 t) (h2.trans hs') (h3.trans hd')
theorem Zii(hO:OSound P KW O)(hKW:KW W0 B0)(hm:P.follows .mixedOrders=true){Q:Exit->Act->World->Prop}{draw:Bool}(hc:(ZW3 P nt ops h 0 ops.toList).bind (ZsM draw ops.toList)=some is){r:Env × St}
 (hr:JK O is e st=some r) (hrel:Rel W0 B0 st ρ W) (he:EnvR (cx st ρ W st.A.length) e a.tmps) (hs:nt<=a.tmps.size) (hQ:ZtL W0 B0 st ρ W a r Q):(Code.region id ops draw).wpIn (fen ro) 0 P Q a W:=by
 simp only[Option.bind_eq_some_iff]at hc;obtain⟨is',hc,hd⟩:=hc;obtain⟨hl,hg⟩:=Zc3 hc
 have hl':is'.length=ops.size:=by rw[hl];simp
 have hcomp:∀(j:Nat) (o:Oper),ops[j]?=some o->∃p,is'[j]?=some p/\ZcR P nt ops h j o=some p:=fun j o ho=>by
  have:=hg j o (by simpa using ho)
  simpa using this
 have hz:∀q∈(List.range ops.size).zip is',is'[q.1]?=some q.2:=by
  intro q hq;obtain⟨i,hi⟩:=List.getElem?_of_mem hq;rw[List.getElem?_zip_eq_some]at hi;obtain⟨h1,h2⟩:=hi
  rw[List.getElem?_range (by rw[<- hl'];exact Zm h2)]at h1
  simp only[Option.some.injEq]at h1;rw[<- h1];exact h2
 have h1:((List.range ops.size).zip is').map (·.1)=List.range ops.size:=List.map_fst_zip (by simp[hl'])
 have h2:((List.range ops.size).zip is').map (·.2)=is':=List.map_snd_zip (by simp[hl'])
 unfold ZsM at hd
 split at hd
 ·rename_i hdraw
  split at hd
  ·rename_i hok
   simp only[Option.some.injEq]at hd;subst hd;subst hdraw;refine wpIn_region_any hm ?_;have gd:Goes W0 B0 st ρ W st ρ W.drew:=Goes.drew hrel
   refine ZxE (W0:=W0) (B0:=B0) hO hKW hok hl' hcomp ops.size (Array.replicate ops.size false) ((List.range ops.size).zip is') r e st ρ W.drew a (by simp) ?_ hz ?_ ?_ (by simp[hl']) (by rw[h2];exact hr) gd.rel (he.mono (gd.ev.le _ (Nat.le_refl _))) hs ?_
   ·intro j o ho hS x hx
    exfalso;have hS':(Array.replicate ops.size false).getD j false=true:=hS
    by_cases hj:j<ops.size<;>simp[hj]at hS'
   ·have hp:(List.range ops.size).Pairwise (·<·):=List.pairwise_lt_range
    rw[<- h1,List.pairwise_map]at hp;exact hp
   ·intro i hi
    constructor
    ·intro _
     have hi':i<is'.length:=by omega
     refine⟨is'[i],?_⟩;rw[List.mem_iff_getElem?]
     exact⟨i,by rw[List.getElem?_zip_eq_some];exact⟨by rw[List.getElem?_range hi],jE hi'⟩⟩
    ·intro _;simp[hi]
   ·intro a' ρ' W' g q1 q2 q3
    exact hQ a' ρ' W' (gd.trans g) q1 q2 q3
  ·simp at hd
 ·rename_i hdraw
  simp only[Option.some.injEq]at hd;subst hd
  have:draw=false:=by simpa using hdraw
  subst this;refine wpIn_region ?_
  have:=ZtM (ro:=ro) hO hKW (ops:=ops) (nt:=nt) (h:=h) (Q:=Q) (r:=r) ((List.range ops.size).zip is') e st ρ W a (fun q hq=>?_) (by rw[h2];exact hr) hrel he hs hQ
  ·rw[h1]at this;exact this
  ·have hq':=hz q hq
   have hlt:q.1<ops.size:=by rw[<- hl'];exact Zm hq'
   obtain⟨p,hp,hc⟩:=hcomp q.1 _ (Array.getElem?_eq_getElem hlt);rw[hq']at hp;simp only[Option.some.injEq]at hp;subst hp;exact⟨_,Array.getElem?_eq_getElem hlt,hc⟩
end
def Ex.exit:Ex->Exit
 | .norm=>.normal
 | .ex id=>.exit id
 | .ret=>.ret
section
variable {P:Program}{KW:World->Bse->Prop}{ro:Option Nat}{O:Orc}{W0:World}{B0:Bse}{st st':St}{ρ:Rho}{W:World}{e:Env}{a:Act}{nt:Nat}
def CodeEnd(W0:World)(B0:Bse)(st:St)(ρ:Rho)(W:World)(a:Act)(r:Ex × Env × St)(Q:Exit->Act->World->Prop):Prop :=
 ∀a' ρ' W',Goes W0 B0 st ρ W r.2.2 ρ' W'->EnvR (cx r.2.2 ρ' W' r.2.2.A.length) r.2.1 a'.tmps->a'.tmps.size=a.tmps.size->a'.defers=a.defers->Q r.1.exit a' W'
theorem CodeEnd.after{st1:St}{ρ1:Rho}{W1:World}{a1:Act}{r:Ex × Env × St}{Q:Exit->Act->World->Prop}(h:CodeEnd W0 B0 st ρ W a r Q)(g:Goes W0 B0 st ρ W st1 ρ1 W1)(hs:a1.tmps.size=a.tmps.size)(hd:a1.defers=a.defers):
 CodeEnd W0 B0 st1 ρ1 W1 a1 r Q:=fun a' ρ' W' g' h1 h2 h3=>h a' ρ' W' (g.trans g') h1 (h2.trans hs) (h3.trans hd)
theorem keepEnv_look(t:Nat):∀(ks:List Nat) (e:Env),look (X4 ks e) t=look e t\/look (X4 ks e) t=.any
 | [],e=>.inr rfl
 | k::ks,e=>by
  simp only[X4,look]
  split
  ·rename_i h;subst h;exact .inl Y
  ·exact keepEnv_look t ks e
theorem EnvR.keep{C:Cx}{tmps:Array Value}(h:EnvR C e tmps)(ks:List Nat):EnvR C (X4 ks e) tmps:=by
 intro t
 rcases keepEnv_look t ks e with q|q
 ·rw[q];exact h t
 ·rw[q];exact .any _
def ZtN(ro:Option Nat)(P:Program)(O:Orc)(nt:Nat)(W0:World)(B0:Bse)(c:Code)(F:Run):Prop :=
 ∀(e:Env) (st:St) (ρ:Rho) (W:World) (a:Act) (r:Ex × Env × St) (Q:Exit->Act->World->Prop),F e st=some r->Rel W0 B0 st ρ W->EnvR (cx st ρ W st.A.length) e a.tmps->nt<=a.tmps.size->CodeEnd W0 B0 st ρ W a r Q->c.wpIn (fen ro) 0 P Q a W
theorem Zij{c:Code}{F:Run}(hF:ZtN ro P O nt W0 B0 c F):∀(n:Nat) (e:Env) (st:St) (ρ:Rho) (W:World) (a:Act) (r:Ex × Env × St) (Q:Exit->Act->World->Prop),ZAy F n e st=some r->Rel W0 B0 st ρ W ->
 EnvR (cx st ρ W st.A.length) e a.tmps->nt<=a.tmps.size->CodeEnd W0 B0 st ρ W a r Q->Code.roundsIn (fen ro) 0 P c Q n a W
 | 0,e,st,ρ,W,a,r,Q,h,_,_,_,_=>by simp[ZAy]at h
 | n+1,e,st,ρ,W,a,r,Q,h,hr,he,hs,hQ=>by
  simp only[ZAy,Option.bind_eq_some_iff]at h;obtain⟨⟨x,e1,st1⟩,h1,h2⟩:=h;rw[roundsIn_succ];refine hF e st ρ W a (x,e1,st1) _ h1 hr he hs ?_;intro a' ρ' W' g he' hs' hd'
  cases x with
  | norm=>exact Zij hF n e1 st1 ρ' W' a' r Q h2 g.rel he' (by omega) (hQ.after g hs' hd')
  | ex id=>simp only[ZC6,Option.some.injEq]at h2;subst h2;exact hQ a' ρ' W' g he' hs' hd'
  | ret=>simp only[ZC6,Option.some.injEq]at h2;subst h2;exact hQ a' ρ' W' g he' hs' hd'
theorem ZAS{P:Program}{b:Frame}{a:Act}{k:List Item}{cs:List Frame}{w:World}{c:Code}:step P (lone (b.atR a (.code (.scope c)::k)) cs w)=.next (lone (b.atR a (.code c::.inScope c::k)) cs w) :=
 step_lone_go (by simp[stepG,stepG.exec,Frame.atR])
theorem Zf7{P:Program}{b:Frame}{a:Act}{k:List Item}{cs:List Frame}{w:World}{c:Code}:step P (lone (b.atR a (.inScope c::k)) cs w)=.next (lone (b.atR a k) cs w) :=
 step_lone_go (by simp[stepG,stepG.exec,Frame.atR])
theorem Zod{F:Fence}{P:Program}{Q:Exit->Act->World->Prop}{a:Act}{w:World}{c:Code}(h:c.wpIn F n P (Exit.noGoto Q) a w):(Code.scope c).wpIn F n P Q a w:=by
 intro b k cs hro hb hr;have h0:(lone (b.atR a (.code (.scope c)::k)) cs w).fenced P F:=fenced_calm hb hr rfl;obtain⟨e,a₁,w₁,hq,harr⟩:=h b (.inScope c::k) cs hro hb hr
 cases e with
 | normal=>exact⟨.normal,a₁,w₁,hq,.head h0 ZAS (StepsIn.trans harr (.one (fenced_calm hb hr Y) Zf7))⟩
 | exit id =>
  have hx:exitTo id (.inScope c::k)=exitTo id k:=by simp[exitTo]
  exact⟨.exit id,a₁,w₁,hq,fun k' hk=>.head h0 ZAS (harr.1 k' (by rw[hx];exact hk)),
   fun hr' hk=>let ⟨k₁,h1,h2⟩:=harr.2 hr' (by rw[hx];exact hk);⟨k₁,h1,.head h0 ZAS h2⟩⟩
 | goto l=>exact hq.elim
 | ret=>exact⟨_,a₁,w₁,hq,.of_steps (.one h0 ZAS) ⟨harr.1,harr.2⟩⟩
 | panic ch=>exact⟨_,a₁,w₁,hq,.of_steps (.one h0 ZAS) harr⟩
 | outgrown=>exact⟨_,a₁,w₁,hq,.of_steps (.one h0 ZAS) harr⟩
theorem ZqJ(hO:OSound P KW O)(hKW:KW W0 B0)(hm:P.follows .mixedOrders=true)(n:Nat):∀(c:Code) (hs hs':List Hint) (pc:PC),ZDA P nt hs c=some (pc,hs')->ZtN ro P O nt W0 B0 c (exec O (fun F=>ZAy F n) pc):=by
 intro c
 induction c with
 | skip =>
  intro hs hs' pc hc e st ρ W a r Q h hr he hsz hQ
  cases hs<;>simp only[ZDA,Option.some.injEq,jP]at hc<;>obtain⟨rfl,_⟩:=hc<;>simp only[exec,Option.some.injEq]at h<;>subst h<;>exact wpIn_skip (hQ a ρ W (.refl hr) he Y Y)
 | ret =>
  intro hs hs' pc hc e st ρ W a r Q h hr he hsz hQ
  cases hs<;>simp only[ZDA,Option.some.injEq,jP]at hc<;>obtain⟨rfl,_⟩:=hc<;>simp only[exec,Option.some.injEq]at h<;>subst h<;>exact wpIn_ret (hQ a ρ W (.refl hr) he Y Y)
 | exit id =>
  intro hs hs' pc hc e st ρ W a r Q h hr he hsz hQ
  cases hs<;>simp only[ZDA,Option.some.injEq,jP]at hc<;>obtain⟨rfl,_⟩:=hc<;>simp only[exec,Option.some.injEq]at h<;>subst h<;>exact wpIn_exit (hQ a ρ W (.refl hr) he Y Y)
 | seq x y ihx ihy =>
  intro hs hs' pc hc e st ρ W a r Q h hr he hsz hQ
  have hc':(ZDA P nt hs x).bind (fun r=>(ZDA P nt r.2 y).map fun q=>(PC.seq r.1 q.1,q.2))=some (pc,hs'):=by cases hs<;>exact hc
  simp only[Option.bind_eq_some_iff,Option.map_eq_some_iff,jP]at hc';obtain⟨⟨p1,h1⟩,hx,⟨p2,h2⟩,hy,rfl,rfl⟩:=hc';simp only[exec,Option.bind_eq_some_iff]at h;obtain⟨⟨xx,e1,st1⟩,hx1,hx2⟩:=h;refine wpIn_seq (ihx hs h1 p1 hx e st ρ W a (xx,e1,st1) _ hx1 hr he hsz ?_);intro a' ρ' W' g he' hs' hd'
  cases xx with
  | norm=>exact ihy h1 h2 p2 hy e1 st1 ρ' W' a' r Q hx2 g.rel he' (by omega) (hQ.after g hs' hd')
  | ex id=>simp only[ZC6,Option.some.injEq]at hx2;subst hx2;exact hQ a' ρ' W' g he' hs' hd'
  | ret=>simp only[ZC6,Option.some.injEq]at hx2;subst hx2;exact hQ a' ρ' W' g he' hs' hd'
 | cond c x y ihx ihy =>
  intro hs hs' pc hc e st ρ W a r Q h hr he hsz hQ
  have hc':(opd c).bind (fun c=>(ZDA P nt hs x).bind fun r=>(ZDA P nt r.2 y).map fun q=>(PC.ite c r.1 q.1,q.2))=some (pc,hs'):=by cases hs<;>exact hc
  simp only[Option.bind_eq_some_iff,Option.map_eq_some_iff,jP]at hc';obtain⟨co,hco,⟨p1,h1⟩,hx,⟨p2,h2⟩,hy,rfl,rfl⟩:=hc';simp only[exec]at h;have hcv:=Zt hco he;unfold Zls at h
  split at h
  ·rename_i hb
   rw[hb]at hcv;exact wpIn_cond_true (Yg hcv) (ihx hs h1 p1 hx e st ρ W a r Q h hr he hsz hQ)
  ·rename_i hb
   rw[hb]at hcv;exact wpIn_cond_false (Yg hcv) (ihy h1 h2 p2 hy e st ρ W a r Q h hr he hsz hQ)
  ·simp at h
 | block id x ih =>
  intro hs hs' pc hc e st ρ W a r Q h hr he hsz hQ
  have hc':(ZDA P nt hs x).map (fun r=>(PC.block id r.1,r.2))=some (pc,hs'):=by cases hs<;>exact hc
  simp only[Option.map_eq_some_iff,jP]at hc';obtain⟨⟨p1,h1⟩,hx,rfl,rfl⟩:=hc';simp only[exec,Option.bind_eq_some_iff]at h;obtain⟨⟨xx,e1,st1⟩,hx1,hx2⟩:=h;refine wpIn_block (ih hs h1 p1 hx e st ρ W a (xx,e1,st1) _ hx1 hr he hsz ?_);intro a' ρ' W' g he' hs' hd'
  cases xx with
  | norm=>simp only[ZC7,Option.some.injEq]at hx2;subst hx2;exact hQ a' ρ' W' g he' hs' hd'
  | ex id' =>
   simp only[ZC7]at hx2;simp only[Ex.exit,Exit.inBlock]
   split at hx2
   ·rename_i hid
    rw[if_pos hid];simp only[Option.some.injEq]at hx2;subst hx2;exact hQ a' ρ' W' g he' hs' hd'
   ·rename_i hid
    rw[if_neg hid];simp only[Option.some.injEq]at hx2;subst hx2;exact hQ a' ρ' W' g he' hs' hd'
  | ret=>simp only[ZC7,Option.some.injEq]at hx2;subst hx2;exact hQ a' ρ' W' g he' hs' hd'
 | loop x ih =>
  intro hs hs' pc hc e st ρ W a r Q h hr he hsz hQ
  have hc':(ZDA P nt hs x).map (fun r=>(PC.loop r.1,r.2))=some (pc,hs'):=by cases hs<;>exact hc
  simp only[Option.map_eq_some_iff,jP]at hc';obtain⟨⟨p1,h1⟩,hx,rfl,rfl⟩:=hc';simp only[exec]at h;exact wpIn_loop_rounds n (Zij (ro:=ro) (O:=O) (ih hs h1 p1 hx) n e st ρ W a r Q h hr he hsz hQ)
 | region id ops draw =>
  intro hs hs' pc hc e st ρ W a r Q h hr he hsz hQ
  cases hs with
  | nil=>simp[ZDA]at hc
  | cons h0 hs =>
   simp only[ZDA,Option.map_eq_some_iff,jP]at hc;obtain⟨is,his,rfl,_⟩:=hc;unfold Zwg at h
   split at h
   ·simp only[exec,Option.bind_eq_some_iff,ZZa,Option.some.injEq]at h
    obtain⟨⟨e1,st1⟩,h1,rfl⟩:=h;refine Zii hO hKW hm his h1 hr he hsz ?_;intro a' ρ' W' g he' hs' hd';exact hQ a' ρ' W' g (he'.keep _) hs' hd'
   ·simp only[exec,Option.bind_eq_some_iff,ZZa,Option.some.injEq,Zn9]at h
    obtain⟨s1,hp,⟨e1,st1⟩,h1,rfl⟩:=h
    split at hp
    ·simp at hp
    ·rename_i hro
     simp only[Option.some.injEq]at hp;subst hp
     have hget:∀lv ix,St.get { st with L:=st.L++h0.js.map Blk.hole } lv ix=st.get lv ix:=by
      intro lv ix;simp only[St.get]
      split
      ·by_cases hi:ix<st.L.length
       ·rw[jL hi]
       ·rw[List.getElem?_append_right (by omega),List.getElem?_eq_none (l:=st.L) (by omega),jG]
        cases h0.js[ix-st.L.length]?<;>rfl
      ·rfl
     have hs1:Sub st.A.length st { st with L:=st.L++h0.js.map Blk.hole }:=Sub.same (s:=st) (t:={ st with L:=st.L++h0.js.map Blk.hole }) hget
     have hgo:Goes W0 B0 st ρ W { st with L:=st.L++h0.js.map Blk.hole } ρ W :=
      ⟨hs1.rel hr,rfl,fun m hm=>hs1.cx hm,fun _ r h=>⟨r,h,rfl,fun _=>rfl⟩,rfl,fun h=>absurd h hro,rfl⟩
     refine Zii hO hKW hm his h1 hgo.rel (he.mono (hs1.cx (Nat.le_refl _))) hsz ?_;intro a' ρ' W' g he' hs' hd';exact hQ a' ρ' W' (hgo.trans g) (he'.keep _) hs' hd'
 | label l =>
  intro hs hs' pc hc e st ρ W a r Q h hr he hsz hQ
  cases hs<;>simp only[ZDA,Option.some.injEq,jP]at hc<;>obtain⟨rfl,_⟩:=hc<;>simp only[exec,Option.some.injEq]at h<;>subst h<;>exact wpIn_label (hQ a ρ W (.refl hr) he Y Y)
 | scope x ih =>
  intro hs hs' pc hc e st ρ W a r Q h hr he hsz hQ
  have hc':ZDA P nt hs x=some (pc,hs'):=by cases hs<;>exact hc
  refine Zod (ih hs hs' pc hc' e st ρ W a r _ h hr he hsz ?_);intro a' ρ' W' g he' hs' hd'
  have:=hQ a' ρ' W' g he' hs' hd'
  cases hx:r.1<;>rw[hx]at this<;>exact this
 | _=>intro hs hs' pc hc;cases hs<;>simp[ZDA]at hc
def Zve(tmps:Array Value):ResultVar->Sem Value
 | .tmp t=>pure (tmps.getD t Go.undef)
 | .cell c t=>do loadVar t (<- asAddr (tmps.getD c Go.undef))
theorem Zoe(fn:Func)(tmps:Array Value):results fn tmps=(do let vs <- fn.results.mapM (Zve tmps);pure (if h:vs.size=1 then vs[0] else .tuple vs)):=by
 unfold results
 congr 1
 first
  | done
  | (congr 1;funext rv;cases rv<;>rfl)
theorem Zof{rv:ResultVar}{q:RV}(hq:ZIW P rv=some q)(hr:Rel W0 B0 st ρ W)(he:EnvR (cx st ρ W st.A.length) e a.tmps)(hv:ZCJ st e q=some v):
 ∃x,(Zve a.tmps rv).run P W=.ok x W/\R (cx st ρ W st.A.length) v x:=by
 cases rv with
 | tmp t =>
  simp only[ZIW,Option.some.injEq]at hq;subst hq;simp only[ZCJ,Option.some.injEq]at hv;subst hv;exact⟨_,rfl,he t⟩
 | cell c t =>
  simp only[ZIW,Option.bind_eq_some_iff,Option.map_eq_some_iff]at hq;obtain⟨g,hg,n,hn,rfl⟩:=hq;simp only[ZCJ]at hv;obtain⟨b,z,hb,hz,hzv⟩:=Zl0 (P:=P) hr hv (he c) hg hn;refine⟨z,?_,hzv⟩
  simp[Zve,hb,asAddr,hz]
end
section
variable {P:Program}{O:Orc}{W0:World}{B0:Bse}{st st':St}{ρ:Rho}{W:World}{e:Env}{a:Act}{nt:Nat}
theorem ZVD{f:ResultVar->Sem Value}:∀ {rvs:List ResultVar} {rs:List RV} {vs:LV},rvs.mapM (ZIW P)=some rs->ZC8 st e rs=some vs ->
 (∀(rv:ResultVar) (q:RV) (v:AV),ZIW P rv=some q->ZCJ st e q=some v->∃x,(f rv).run P W=.ok x W/\R (cx st ρ W st.A.length) v x) ->
 ∃xs:List Value,(rvs.mapM f).run P W=.ok xs W/\RL (cx st ρ W st.A.length) vs xs
 | [],rs,vs,h,hv,_=>by
  simp at h;subst h
  simp only[ZC8,Option.some.injEq]at hv;subst hv
  exact⟨[],by simp,.nil _⟩
 | rv::rvs,rs,vs,h,hv,hf=>by
  simp only[List.mapM_cons,Option.pure_def,Option.bind_eq_bind,Option.bind_eq_some_iff,Option.some.injEq]at h;obtain⟨q,hq,qs,hqs,rfl⟩:=h;simp only[ZC8,Option.bind_eq_some_iff,Option.map_eq_some_iff]at hv;obtain⟨v,hv,vs',hvs,rfl⟩:=hv;obtain⟨x,hx,hxv⟩:=hf rv q v hq hv;obtain⟨xs,hxs,hxr⟩:=ZVD hqs hvs hf
  exact⟨x::xs,by simp[hx,hxs],.cons hxv hxr⟩
theorem Zik{fn:Func}{rs:List RV}(hc:fn.results.toList.mapM (ZIW P)=some rs)(hv:Qo st e rs=some v)(hr:Rel W0 B0 st ρ W)(he:EnvR (cx st ρ W st.A.length) e a.tmps):
 ∃x,(results fn a.tmps).run P W=.ok x W/\R (cx st ρ W st.A.length) v x:=by
 simp only[Qo,Option.map_eq_some_iff]at hv;obtain⟨vs,hvs,rfl⟩:=hv
 obtain⟨xs,hxs,hxr⟩:=ZVD (P:=P) (ρ:=ρ) (W:=W) hc hvs (fun rv q v hq hv=>Zof hq hr he hv)
 have hm:(fn.results.mapM (Zve a.tmps)).run P W=.ok xs.toArray W:=by
  rw[<- Array.toArray_toList (xs:=fn.results),List.mapM_toArray,Sem.run_map,Array.toArray_toList,hxs];rfl
 refine⟨if h:xs.toArray.size=1 then xs.toArray[0] else .tuple xs.toArray,?_,?_⟩
 ·rw[Zoe,Sem.run_bind,hm]
  simp only[Result.andThen_ok,Sem.run_pure]
 ·match vs,xs,hxr with
  | [],xs,h=>rw[h.nil_inv];simpa [ZGq] using R.tup' (C:=cx st ρ W st.A.length) (.nil _)
  | [v],xs,h =>
   obtain⟨x,ys,rfl,h1,h2⟩:=h.cons_inv;rw[h2.nil_inv]
   simpa [ZGq] using h1
  | v::w::vs,xs,h =>
   obtain⟨x,ys,rfl,h1,h2⟩:=h.cons_inv;obtain⟨y,zs,rfl,h3,h4⟩:=h2.cons_inv
   rw[dif_neg (by simp)]
   exact R.tup' (.cons h1 (.cons h3 h4))
theorem initEnv_look:∀ {vs:LV} {xs:List Value} {n t:Nat} {C:Cx},RL C vs xs->look (YK n vs) t=.any\/(n<=t/\∃x,xs[t-n]?=some x/\R C (look (YK n vs) t) x)
 | [],xs,n,t,C,_=>.inl rfl
 | v::vs,xs,n,t,C,h=>by
  obtain⟨x,ys,rfl,h1,h2⟩:=h.cons_inv;simp only[YK,look]
  split
  ·rename_i hk;subst hk
   exact .inr ⟨Nat.le_refl _,x,by simp,h1⟩
  ·rcases initEnv_look (n:=n+1) (t:=t) h2 with q|⟨q,y,hy,hr⟩
   ·exact .inl q
   ·refine .inr ⟨by omega,y,?_,hr⟩
    rw[show t-n=(t-(n+1))+1 by omega]
    simpa using hy
theorem Zc4{C:Cx}(h:RL C vs xs)(k:Nat):EnvR C (YK 0 vs) (xs.toArray++Array.replicate k Go.undef):=by
 intro t
 rcases initEnv_look (n:=0) (t:=t) h with q|⟨_,x,hx,hr⟩
 ·rw[q];exact .any _
 ·have hlt:=Zm hx
  simp only[Nat.sub_zero]at hx hlt
  have:(xs.toArray++Array.replicate k Go.undef).getD t Go.undef=x:=by
   simp only[Array.getD_eq_getD_getElem?]
   rw[Array.getElem?_append_left (by simpa using hlt)]
   simp[hx]
  rw[this];exact hr
theorem Zvf{KW:World->Bse->Prop}(hO:OSound P KW O)(hKW:KW W0 B0)(hm:P.follows .mixedOrders=true)(n:Nat){fn:Func}{keep:Bool}{hs:List Hint}{pf:PF}(hf:P.funcs[f]?=some fn)(hc:Zf P keep hs fn=some pf)
 {args:LV} {v:AV} (h:Jh O (fun F=>ZAy F n) pf args st=some (v,st')) (hr:Rel W0 B0 st ρ W) {xs:List Value} (hx:RL (cx st ρ W st.A.length) args xs) :
 Calls P f xs.toArray W fun e W'=>∃x ρ',e=.returned x/\Goes W0 B0 st ρ W st' ρ' W'/\R (cx st' ρ' W' st'.A.length) v x:=by
 simp only[Zf,Option.bind_eq_some_iff,Option.map_eq_some_iff]at hc;obtain⟨c,hb,⟨pc,hs'⟩,hcc,rs,hrs,rfl⟩:=hc;simp only[Jh,Option.bind_eq_some_iff]at h;obtain⟨⟨ex,e1,st1⟩,hex,hend⟩:=h;refine calls_of_wp hf hb ((wpIn_wide (n:=0)).1 ?_)
 have hsz:fn.ntmps<=(xs.toArray++Array.replicate (fn.ntmps-xs.toArray.size) Go.undef).size:=by simp;omega
 cases keep with
 | true =>
  simp only[if_true]at hex;refine ZqJ (ro:=none) hO hKW hm n c hs hs' pc hcc (YK 0 args) st ρ W { tmps:=xs.toArray++Array.replicate (fn.ntmps-xs.toArray.size) Go.undef,defers:=[] } (ex,e1,st1) _ hex hr (Zc4 hx _) hsz ?_;intro a' ρ' W' g he' _ hd'
  have key:(Qo st1 e1 rs).bind (Qe st1)=some (v,st')->a'.defers=[]/\∃w,(results fn a'.tmps).run P W'=.ok w W'/\∃x ρ',Ending.returned w=.returned x/\Goes W0 B0 st ρ W st' ρ' W'/\R (cx st' ρ' W' st'.A.length) v x:=by
   intro hend;simp only[Option.bind_eq_some_iff]at hend;obtain⟨v0,hv,hend⟩:=hend;obtain⟨rfl,rfl⟩:=ZU7 hend;obtain⟨x,hx,hxv⟩:=Zik hrs hv g.rel he';exact⟨hd',x,hx,x,ρ',rfl,g,hxv⟩
  cases ex with
  | norm=>exact key (by simpa [Jp] using hend)
  | ret=>exact key (by simpa [Jp] using hend)
  | ex id=>simp[Jp]at hend
 | false =>
  simp only[jB,if_false]at hex
  have hpl:st.push.A.length=st.A.length+1:=by simp[St.push]
  have hpush:=Sub.push st
  refine ZqJ (ro:=none) hO hKW hm n c hs hs' pc hcc (YK 0 args) st.push ρ W { tmps:=xs.toArray++Array.replicate (fn.ntmps-xs.toArray.size) Go.undef,defers:=[] } (ex,e1,st1) _ hex (hpush.rel hr)
   (Zc4 ((hx.mono (hpush.cx (Nat.le_refl _))).mono (Zcd (by omega))) _) hsz ?_
  intro a' ρ' W' g he' _ hd'
  have key:(Qo st1 e1 rs).bind (ZLD st1)=some (v,st')->a'.defers=[]/\∃w,(results fn a'.tmps).run P W'=.ok w W'/\∃x ρ',Ending.returned w=.returned x/\Goes W0 B0 st ρ W st' ρ' W'/\R (cx st' ρ' W' st'.A.length) v x:=by
   intro hend;simp only[Option.bind_eq_some_iff,ZLD,Y5,ZcN,Option.some.injEq,jP]at hend;obtain⟨v0,hv,⟨v1,st2⟩,hseal,⟨A',r0⟩,hpop,rfl,rfl⟩:=hend;obtain⟨x,hx,hxv⟩:=Zik hrs hv g.rel he'
   have hl1:st1.A.length=st.A.length+1:=by rw[g.ev.len,hpl]
   obtain⟨g2,hv2⟩:=ZBW QK st1.A.length st1 v0 x v1 st2 g.rel (by omega) hxv hseal
   obtain⟨g3,hle⟩:=ZcW g2.rel (g.ev.trans g2.ev) hpop;refine⟨hd',x,hx,x,ρ',rfl,g3,?_⟩;rw[hl1]at hv2;have hl3:(⟨A',r0.1,r0.2⟩:St).A.length=st.A.length:=g3.ev.len;rw[hl3]
   exact R.mono (show R (cx st2 ρ' W' st.A.length) v1 x from hv2) hle
  cases ex with
  | norm=>exact key (by simpa [Jp] using hend)
  | ret=>exact key (by simpa [Jp] using hend)
  | ex id=>simp[Jp]at hend
def Bse.of(W:World):Bse:=⟨W.heap.size,fun _=>(0,[])⟩
def KG(P : Program)(W0 : World)(B0 : Bse): Prop := ∀g, P.globalNamed "internal/bytealg.MaxLen" = some g -> ∃m, W0.cell? ⟨g, 0, none⟩ = some (.int .i64 m) /\ g < B0.n
def Zil(P:Program)(f:FuncId):Ent->Prop
 | .pf pf=>∃fn keep hs,P.funcs[f]?=some fn/\Zf P keep hs fn=some pf
 | .base o=>(∀args,FrP fun st=>o args st)/\∀(args:LV) (st:St) (v:AV) (st':St),o args st=some (v,st')->∀(W0:World) (B0:Bse) (ρ:Rho) (W:World) (xs:List Value),KG P W0 B0->Rel W0 B0 st ρ W->RL (cx st ρ W st.A.length) args xs ->
  Calls P f xs.toArray W fun e W'=>∃x ρ',e=.returned x/\Goes W0 B0 st ρ W st' ρ' W'/\R (cx st' ρ' W' st'.A.length) v x
def TabOk(P:Program)(T:Tab):Prop:=∀(f:FuncId) (x:Ent),T f=some x->f<yB/\(∀(ys:Array Value) (W:World),(callFunc f ys).run P W=.ok (.enter f ys) W)/\Zil P f x
theorem Zog(h:f<yB)(e:f=yB+l):False:=by
 rw[e]at h;exact Nat.not_lt_of_le (Nat.le_add_right _ _) h
def ZxF(P:Program)(K:World->Bse->Prop)(lv:Nat):Ent->Prop
 | .pf _=>False
 | .base o=>(∀args,FrP fun st=>o args st)/\∀(args:LV) (st:St) (v:AV) (st':St),o args st=some (v,st')->∀(W0:World) (B0:Bse) (ρ:Rho) (W:World) (xs ys:List Value),K W0 B0->KG P W0 B0->Rel W0 B0 st ρ W->RL (cx st ρ W st.A.length) args xs ->
  xs=ys++(B0.y lv).2->ZtI P (B0.y lv).1 ys.toArray W fun e W'=>∃x ρ',e=.returned x/\Goes W0 B0 st ρ W st' ρ' W'/\R (cx st' ρ' W' st'.A.length) v x
def Zoh(P:Program)(K:World->Bse->Prop)(T:Tab):Prop:=∀(f:FuncId) (x:Ent),T f=some x->(f<yB/\(∀(ys:Array Value) (W:World),(callFunc f ys).run P W=.ok (.enter f ys) W)/\Zil P f x)\/∃l,f=yB+l/\ZxF P K l x
theorem TabOk.y{P:Program}{K:World->Bse->Prop}{T:Tab}(h:TabOk P T):Zoh P K T:=fun f x hx=>.inl (h f x hx)
theorem ZVE(hm:P.follows .mixedOrders=true){K:World->Bse->Prop}{T:Tab}(hT:Zoh P K T):∀n,OSound P (fun W B=>K W B/\KG P W B) (Qw T n)
 | 0=>⟨fun f args=>FrP.nope,fun _ h=>by simp[Qw]at h,fun h=>by simp[Qw]at h⟩
 | n+1=>by
  have ih:=ZVE hm hT n
  refine⟨fun f args=>?_,fun {f args st r} hf h=>?_,fun {f args st v st'} h=>?_⟩
  ·show FrP fun st=>(T f).bind (entK (Qw T n) (fun F=>ZAy F n) args st)
   cases hx:T f with
   | none=>exact FrP.nope
   | some x =>
    cases x with
    | pf pf=>exact ZvX ih.frame n pf args
    | base o =>
     rcases hT f _ hx with⟨_,_,hk⟩|⟨l,_,hk⟩
     ·exact hk.1 args
     ·exact hk.1 args
  ·simp only[Qw,Option.bind_eq_some_iff]at h
   obtain⟨x,hx,_⟩:=h
   rcases hT f x hx with⟨_,he,_⟩|⟨l,hl,_⟩
   ·exact he
   ·exact (Zog hf hl).elim
  ·intro W0 B0 ρ W xs hKW hr hxs
   simp only[Qw,Option.bind_eq_some_iff]at h;obtain⟨x,hx,h⟩:=h
   rcases hT f x hx with⟨hf,_,hk⟩|⟨l,hl,hk⟩
   ·refine⟨fun _=>?_,fun l ys hl _=>(Zog hf hl).elim⟩
    cases x with
    | pf pf =>
     obtain⟨fn,keep,hs,hf,hc⟩:=hk;exact Zvf ih hKW hm n hf hc h hr hxs
    | base o=>exact hk.2 args st v st' h W0 B0 ρ W xs hKW.2 hr hxs
   ·refine⟨fun hf=>(Zog hf hl).elim,fun l' ys hl' hys=>?_⟩
    obtain rfl:l'=l:=Nat.add_left_cancel (hl'.symm.trans hl)
    cases x with
    | pf pf=>exact hk.elim
    | base o=>exact hk.2 args st v st' h W0 B0 ρ W xs ys hKW.1 hKW.2 hr hxs hys
theorem Zxo(hm:P.follows .mixedOrders=true){K:World->Bse->Prop}{T:Tab}(hT:Zoh P K T):OSound P (fun W B=>K W B/\KG P W B) (S T):=by
 refine⟨fun f args st r h=>?_,fun {f args st r} hf h=>?_,fun {f args st v st'} h=>?_⟩
 ·obtain⟨n,hn⟩:=S_iff.1 h
  obtain⟨h1,h2⟩:=(ZVE hm hT n).frame f args st r hn
  exact⟨h1,fun M i B hh=>S_iff.2 ⟨n,h2 M i B hh⟩⟩
 ·obtain⟨n,hn⟩:=S_iff.1 h
  exact (ZVE hm hT n).enter hf hn
 ·intro W0 B0 ρ W xs hKW hr hxs
  obtain⟨n,hn⟩:=S_iff.1 h;exact (ZVE hm hT n).calls hn hKW hr hxs
theorem Zvg{T:Tab}(hT:TabOk P T){st:St}{r:AV × St}(h:S T f args st=some r):f<yB:=by
 obtain⟨n,hn⟩:=S_iff.1 h
 cases n with
 | zero=>simp[Qw]at hn
 | succ n =>
  simp only[Qw,Option.bind_eq_some_iff]at hn;obtain⟨x,hx,_⟩:=hn;exact (hT f x hx).1
theorem Zvh(hm:P.follows .mixedOrders=true){T:Tab}(hT:TabOk P T){st:St}{st':St}(h:S T f args st=some (v,st')){W0:World}{B0:Bse}{ρ:Rho}{W:World}(hg:KG P W0 B0)(hr:Rel W0 B0 st ρ W)(hx:RL (cx st ρ W st.A.length) args xs):
 Calls P f xs.toArray W fun e W'=>∃x ρ',e=.returned x/\Goes W0 B0 st ρ W st' ρ' W'/\R (cx st' ρ' W' st'.A.length) v x :=
 ((Zxo hm (K:=fun _ _=>True) hT.y).calls h ⟨trivial,hg⟩ hr hx).1 (Zvg hT h)
def Zc5:List (FuncId × Ent)->Tab
 | [],_=>none
 | (g,x)::l,f=>if g=f then some x else Zc5 l f
def Zmc(P:Program):List (FuncId × Ent)->Prop
 | []=>True
 | (f,x)::l=>((∀(ys:Array Value) (W:World),(callFunc f ys).run P W=.ok (.enter f ys) W)/\Zil P f x)/\Zmc P l
def Zoi(l:List (FuncId × Ent)):Bool:=l.all fun p=>Nat.blt p.1 yB
theorem Zim:∀ {l:List (FuncId × Ent)},Zmc P l->Zoi l=true->TabOk P (Zc5 l)
 | [],_,_,f,x,h=>by simp[Zc5]at h
 | (g,y)::l,⟨h1,h2⟩,hy,f,x,h=>by
  have hy2:(Nat.blt g yB && Zoi l)=true:=hy;rw[Bool.and_eq_true]at hy2;simp only[Zc5]at h
  split at h
  ·rename_i hg;subst hg
   simp only[Option.some.injEq]at h;subst h;exact⟨Nat.le_of_ble_eq_true hy2.1,h1⟩
  ·exact Zim h2 hy2.2 f x h
theorem ZtO{l:List (FuncId × Ent)}(h:Zmc P l)(hy:Zoi l=true:=by rfl):TabOk P (Zc5 l):=Zim h hy
def St.empty:St:=⟨[],false,[]⟩
theorem ZrN(W:World):Rel W (.of W) .empty ⟨fun _ _=>⟨0,0,0⟩,fun _=>(0,[])⟩ W:=by
 have hget:∀lv ix,St.empty.get lv ix=none:=by
  intro lv ix;unfold St.empty St.get
  split<;>simp[vis]
 refine⟨.refl _ _,Nat.le_refl _,rfl,?_,?_,?_,?_⟩<;>intro lv ix
 ·intro w ver es h;rw[hget]at h;simp at h
 ·intro w ver es lv' ix' w' ver' es' h;rw[hget]at h;simp at h
 ·intro es h;rw[hget]at h;simp at h
 ·intro es lv' ix' es' h;rw[hget]at h;simp at h
theorem ZtP(s:ByteArray):Value.string s=.string ⟨s.data.toList.toArray⟩:=by simp
end
section
variable {P:Program}{W0:World}{B0:Bse}{st:St}{ρ:Rho}{W W':World}
theorem ZTf(h:Below W.heap.size W W'){b o:Nat}{v:Value}(hc:Qb W b o v):Qb W' b o v:=by
 have hlt:=ZQ2 hc;unfold Qb at hc ⊢
 rw[h.cell (by exact hlt)];exact hc
theorem ZqK(hr:Rel W0 B0 st ρ W)(h:Below W.heap.size W W'):Goes W0 B0 st ρ W st ρ W':=by
 have hle:∀m,(cx st ρ W m).le (cx st ρ W' m):=fun m=>⟨fun b o v q=>⟨ZTf h q.1,q.2⟩,fun _ _ _ _ _ _ q=>q,fun _ _ _ _ _ _ q=>q,fun _ _ _ q=>q,fun _ _ _ q=>q⟩
 refine⟨⟨hr.below.trans (.of_all hr.b0 h),by have:=hr.b0;have:=h.size;omega,hr.yl,?_,hr.sep,?_,hr.msep⟩,⟨rfl,fun m _=>hle m,fun _ r h=>⟨r,h,rfl,fun _=>rfl⟩,rfl,fun _=>rfl,rfl⟩⟩
 ·intro lv ix w ver es hg
  obtain⟨a1,a2,a3⟩:=hr.arr lv ix w ver es hg
  refine⟨a1,fun i e he=>?_,fun j hj=>?_⟩
  ·obtain⟨x,h1,h2,h3⟩:=a2 i e he
   exact⟨x,h1.mono (hle lv),h2,h3.mono fun _ _ _=>ZTf h⟩
  ·obtain⟨m1,m2,m3⟩:=a3 j hj
   obtain⟨u,hu⟩:=Option.isSome_iff_exists.1 m2;have hc:Qb W' _ _ u:=ZTf h hu;have hlt:=ZQ2 (W:=W) hu;unfold Qb at hc
   exact⟨m1,by rw[hc];rfl,by rw[h.frozen (by exact hlt)];exact m3⟩
 ·intro lv ix es hg
  obtain⟨m1,en,clock,m2,m3,m4⟩:=hr.map lv ix es hg;have hlt:(ρ lv ix).b<W.heap.size:=YF m2
  refine⟨m1,en,clock,by rw[h.block _ hlt];exact m2,m3,fun i k v hk=>?_⟩
  obtain⟨n1,x,n2,n3,n4⟩:=m4 i k v hk;exact⟨n1,x,n2,n3.mono (hle lv),n4.mono (hle lv)⟩
def plain:AV->Bool
 | .bool _=>true
 | .int _ _=>true
 | .str _=>true
 | _=>false
open Classical in
end
section
variable {P:Program}{W0:World}{B0:Bse}{st:St}{ρ:Rho}{W W':World}
def ZTg:LV->Option (List B8)
 | []=>some []
 | .str s::vs=>(ZTg vs).map (s::·)
 | _::_=>none
def ZDG(st:St):AV->Option LV
 | .str _=>none
 | v=>elems st v
theorem ZrO{st:St}(h:ZDG st v=some es):elems st v=some es/\∀t,elems t v=some es->ZDG t v=some es:=by
 cases v with
 | str s=>simp[ZDG]at h
 | _=>exact⟨h,fun t q=>q⟩
theorem Zin:∀ {es:LV} {ss:List B8},ZTg es=some ss->es=ss.map .str
 | [],ss,h=>by simp only[ZTg,Option.some.injEq]at h;subst h;rfl
 | v::vs,ss,h=>by
  cases v<;>simp only[ZTg,Option.map_eq_some_iff,reduceCtorEq]at h
  obtain⟨r,hr,rfl⟩:=h;rw[Zin hr];rfl
theorem Zvi(hr:Rel W0 B0 st ρ W){ss:List B8}(he:ZDG st v=some es)(hs:ZTg es=some ss){x:Value}(hx:R (cx st ρ W st.A.length) v x):
 ∃a c,x=.slice a ss.length c/\(ss=[]\/∃b o,a=some ⟨b,o,none⟩/\ss.length<=c/\∀(j:Nat) (s:B8),ss[j]?=some s->Qb W b (o+j) (.string ⟨s.toArray⟩)):=by
 have hes:=Zin hs
 have hone:∀(s:B8),(Value.string ⟨s.toArray⟩).cells.size=1:=fun _=>rfl
 cases v with
 | str s=>simp[ZDG]at he
 | nils =>
  simp only[ZDG,elems,Option.some.injEq]at he;subst he;simp only[ZTg,Option.some.injEq]at hs;subst hs
  cases hx with
  | nils a=>exact⟨a,0,rfl,.inl Y⟩
 | lit es' =>
  simp only[ZDG,elems,Option.some.injEq]at he;subst he;obtain⟨a,c,rfl,hc,h⟩:=ZFz hx
  have hlen:es'.length=ss.length:=by rw[hes];simp
  refine⟨a,c,by rw[hlen],?_⟩
  rcases h with h|⟨b,o,w,xs,rfl,h1,h2⟩
  ·left;rw[h]at hlen;exact List.length_eq_zero_iff.1 hlen.symm
  ·right
   refine⟨b,o,rfl,by omega,fun j s hj=>?_⟩
   have hlt:=Zm hj
   have hje:es'[j]?=some (.str s):=by rw[hes,jG,hj];rfl
   have hv:=Yf (h1 j _ hje)
   obtain⟨hw,hl⟩:=h2 j (by omega)
   rw[hv]at hw hl;rw[hone]at hw;subst hw
   have:=hl 0 (.string ⟨s.toArray⟩) rfl
   rw[Nat.mul_one,Nat.add_zero]at this;exact this.1
 | ref lv ix ver s n =>
  simp only[ZDG,elems]at he;unfold ZFG at he
  split at he
  ·rename_i w ver' es0 hg
   split at he
   ·rename_i hc
    obtain⟨rfl,hsn⟩:=hc;simp only[Option.some.injEq]at he
    cases hx with
    | ref hp =>
     obtain⟨_,_,_,a,c,rfl,hp⟩:=hp;obtain⟨p1,p2,p3⟩:=hp w es0 hg
     have hlen:ss.length=n:=by
      have:es.length=ss.length:=by rw[hes];simp
      rw[<- this,<- he];simp;omega
     refine⟨a,c,by rw[hlen],?_⟩
     by_cases hn:n=0
     ·left;exact List.length_eq_zero_iff.1 (by omega)
     ·right
      have ho:=hr.arr lv ix w ver es0 hg;have hle:=ho.len
      have hw1:w=1:=by
       have h0:(0:Nat)<ss.length:=by omega
       have hj0:es[0]?=some (.str ss[0]):=by rw[hes,jG,jE h0];rfl
       rw[<- he,List.getElem?_take,if_pos (by omega),List.getElem?_drop]at hj0
       obtain⟨y,q1,q2,_⟩:=ho.el _ _ hj0;rw[Yf q1,hone]at q2;exact q2.symm
      subst hw1
      refine⟨(ρ lv ix).b,(ρ lv ix).o+s*1,p3 (by omega),by omega,fun j t hj=>?_⟩
      have hlt:=Zm hj
      have hje:es[j]?=some (.str t):=by rw[hes,jG,hj];rfl
      rw[<- he,List.getElem?_take,if_pos (by omega),List.getElem?_drop]at hje
      obtain⟨y,q1,q2,q3⟩:=ho.el _ _ hje;rw[Yf q1]at q3
      have:=q3 0 (.string ⟨t.toArray⟩) rfl
      rw[show (ρ lv ix).o+s*1+j=(ρ lv ix).o+(s+j)*1+0 by omega]
      exact this
   ·simp at he
  ·simp at he
 | _=>simp[ZDG,elems]at he
def ZqL:LV->St->OS
 | [v,.str sep],st=>(ZDG st v).bind fun es=>(ZTg es).bind fun ss =>
  if ss.length<=140737488355328/\(sep.intercalate ss).length<=140737488355328 then some (.str (sep.intercalate ss),st) else none
 | _,_=>none
theorem Zvj 
 (h0:∀(a:Option Addr) (c:Nat) (sep:ByteArray) (w:World),Calls P f #[.slice a 0 c,.string sep] w fun e w'=>e=.returned (.string ⟨#[]⟩)/\w'=w)
 (h1:∀(bk o c:Nat) (xs:List ByteArray) (sep:ByteArray) (w:World),(∀(j:Nat) x,xs[j]?=some x->w.cell? ⟨bk,o+j,none⟩=some (.string x))->bk<w.heap.size->xs.length<=140737488355328->xs.length<=c ->
  (sep.data.toList.intercalate (xs.map (·.data.toList))).length<=140737488355328 ->
  Calls P f #[.slice (some ⟨bk,o,none⟩) xs.length c,.string sep] w fun e w'=>e=.returned (.string ⟨(sep.data.toList.intercalate (xs.map (·.data.toList))).toArray⟩)/\Below w.heap.size w w') :
 Zil P f (.base ZqL):=by
 refine⟨fun args st r hr=>?_,?_⟩
 ·unfold ZqL at hr ⊢
  simp only at hr ⊢
  split at hr
  ·rename_i v0 sep
   simp only[Option.bind_eq_some_iff]at hr;obtain⟨es,he,ss,hs,h⟩:=hr
   split at h
   ·rename_i hb
    simp only[Option.some.injEq]at h;subst h
    refine⟨rfl,fun M i B hh=>?_⟩
    have he':ZDG (st.fillA M i B) v0=some es:=by
     obtain⟨k1,k2⟩:=ZrO he;exact k2 _ ((Jx hh).elems k1)
    simp only[he',hs,Option.bind_some,if_pos hb]
   ·simp at h
  ·simp at hr
 intro args st v st' h W0 B0 ρ W xs _ hr hx;unfold ZqL at h
 split at h
 ·rename_i v0 sep
  simp only[Option.bind_eq_some_iff]at h;obtain⟨es,he,ss,hs,h⟩:=h
  split at h
  ·rename_i hb
   simp only[Option.some.injEq,jP]at h;obtain⟨rfl,rfl⟩:=h;obtain⟨x,ys,rfl,hx1,hx2⟩:=hx.cons_inv;obtain⟨y,zs,rfl,hy1,hy2⟩:=hx2.cons_inv;obtain rfl:=hy2.nil_inv;have hy:=Yf hy1;subst hy;obtain⟨a,c,rfl,hat⟩:=Zvi hr he hs hx1
   rcases hat with rfl|⟨b,o,rfl,hc,hcell⟩
   ·refine (h0 a c ⟨sep.toArray⟩ W).mono ?_
    rintro e' W' ⟨rfl,rfl⟩
    refine⟨_,ρ,rfl,.refl hr,?_⟩
    have:sep.intercalate ([]:List B8)=[]:=rfl
    rw[this];exact .str []
   ·have e1 : (ss.map fun s => ByteArray.mk s.toArray).map (·.data.toList) = ss := by
     rw[List.map_map];simp[Function.comp_def]
    by_cases hss:ss=[]
    ·subst hss
     refine (h0 _ c ⟨sep.toArray⟩ W).mono ?_
     rintro e' W' ⟨rfl,rfl⟩
     refine⟨_,ρ,rfl,.refl hr,?_⟩
     have:sep.intercalate ([]:List B8)=[]:=rfl
     rw[this];exact .str []
    ·have hpos:=List.length_pos_iff.2 hss
     have hcell0:=hcell 0 ss[0] (jE hpos)
     have:=h1 b o c (ss.map fun s=>ByteArray.mk s.toArray) ⟨sep.toArray⟩ W ?_ (ZQ2 hcell0) (by simpa using hb.1) (by simpa using hc) (by rw[e1];exact hb.2)
     ·rw[List.length_map]at this
      refine this.mono ?_
      rintro e' W' ⟨rfl,hbel⟩
      have gq:=ZqK hr hbel;refine⟨_,ρ,rfl,gq,?_⟩;rw[e1];exact .str _
     ·intro j x hj
      rw[jG,Option.map_eq_some_iff]at hj;obtain⟨s,hs',rfl⟩:=hj;exact hcell j s hs'
  ·simp at h
 ·simp at h
end
section
open Go.Shelf Go.RowKit Go.Lib Go.Proofs
variable {P:Program}{ρ:Ren}
set_option maxHeartbeats 2000000 in
set_option maxRecDepth 100000 in
theorem ZrP(L:SlLaysE0.n41 P ρ)(i0:TypeInfo)(z:Value)(size bytes:Nat)(hi:P.info? (ρ.t 23)=some i0)(hz0:i0.zero=some z)(hz1:i0.size=size)(hz2:i0.bytes=bytes)(hzs:z.cells.size=size)(hsz:0<size)
 (z23:∀w,(Go.sizeOf (ρ.t 23)).run P w=.ok size w) (ad:Addr) (n c:Nat) (news:List Value) (w:World) (hl:news.length=n*size) (hn:n<=maxLen) (hbig:n*bytes<=140737488355328)
 (hc:∀j u,news[j]?=some u->w.cell? (ad.add j)=some u) (h1:∀u∈news,u.oneCell'=true) :
 Calls P (ρ.f 41) #[.slice (some ad) n c] w fun e w'=>∃v',e=.returned v'/\w'.ownsRow w.heap.size (ρ.t 23) size v' n news/\Below w.heap.size w w':=by
 have mixed:=L.mixed;have t4:=L.t4;have a4:=L.a4;have z4:=L.z4;have v4:=L.v4;have t22:=L.t22;have a22:=L.a22;have z22:=L.z22;have v22:=L.v22
 have q22:∀(w:World) (a:Option Addr) (n c n' c':Nat),(binOp .eql (ρ.t 22) (.slice a n c) (.slice none n' c')).run P w=.ok (.bool a.isNone) w:=fun w a n c n' c'=>Lib.run_eql_slice_nil w _ _ a n c n' c' L.t22
 have u22:∀w,Sem.run P (underlying (ρ.t 22)) w=.ok (TypeDesc.slice (ρ.t 23)) w:=run_underlying t22;have A:Aside (∀j u,news[j]?=some u->w.cell? (ad.add j)=some u):=hc;clear hc;obtain⟨_,_,FG⟩:=L.f41
 go_enter FG,SlBodyN.n41_ntmps ρ
 go_wp2_with (at_builtin;refine wpList_append_own _ Y _ _ (ρ.t 22) Y w.heap.size (ρ.t 23) i0 z size bytes t22 hi hz0 hz1 hz2 hzs hsz _ _ _ Y (World.ownsRow_made w #[] 0 (Nat.le_refl _) (Nat.zero_le _) (by simp)) ad n c news Y ?qc1 ?qc2 ?qc3 ?qc4 ?qc5 ?qc6 ?_)
 case qc1=>exact hl
 case qc2 =>
  intro j u hj;exact Lib.cell?_alloc_some _ (A.out j u hj)
 case qc3=>exact h1
 case qc4=>rw[Nat.zero_add];exact hn
 case qc5=>rw[Nat.zero_add];exact hbig
 case qc6=>simp
 intro v' w1 hown hgrow hnil
 go_wp2
 go_ret
 refine⟨v',rfl,by simpa using hown,?_⟩
 exact ((Below.refl _ w).alloc (Nat.le_refl _) _).grown hgrow (by simp) (by intro k hk;simp[Value.ownBlock]at hk;omega)
end
def ZIe(w:Nat):LV->St->OS
 | [.lit es],st=>if JH w es=true/\es.length<=65536 then some (.lit es,st) else none
 | [.ref lv ix ver s n],st=>(ZFG ver s n (st.get lv ix)).bind fun es=>if (JH w es=true/\es.length<=65536)/\es.all (imm 6)=true then some (.lit es,st) else none
 | _,_=>none
section
variable {P:Program}{W0:World}{B0:Bse}{st:St}{ρ:Rho}{W W':World}
theorem Zvk(hw:∀x∈xs,x.cells.size=w){bb oo:Nat}(hlies:∀i x,xs[i]?=some x->Lies (Qb W) bb (oo+i*w) x){v:Value}(hv:(Zv xs)[j]?=some v):
 W.cell? ⟨bb,oo+j,none⟩=some v:=by
 have hj:=Zm hv;rw[Xc hw]at hj
 have hw0 : 0 < w := by rcases Nat.eq_zero_or_pos w with h0 | h0; · subst h0; omega
                        ·exact h0
 have hi:j / w<xs.length:=Nat.div_lt_of_lt_mul (by rw[Nat.mul_comm];exact hj)
 have hx:=jE hi;have hxw:=hw _ (List.getElem_mem hi)
 have hjm:j % w<(xs[j / w]).cells.size:=by rw[hxw];exact Nat.mod_lt _ hw0
 have hget:=ZCu hw hx (j:=j % w) (v:=(xs[j / w]).cells[j % w]) (Array.getElem?_eq_getElem hjm)
 have hdm:j / w*w+j % w=j:=by rw[Nat.mul_comm];exact Nat.div_add_mod j w
 rw[hdm,hv]at hget;simp only[Option.some.injEq]at hget
 have:=hlies _ _ hx (j % w) _ (Array.getElem?_eq_getElem hjm)
 rw[<- hget]at this;unfold Qb at this
 rw[show oo+j=oo+j / w*w+j % w by omega]
 exact this
theorem Zio{T:TypeId}
 (h1:∀(ad:Addr) (n c:Nat) (news:List Value) (W:World),news.length=n*w->n<=65536->(∀j u,news[j]?=some u->W.cell? (ad.add j)=some u)->(∀u∈news,u.oneCell'=true) ->
  Calls P f #[.slice (some ad) n c] W fun e W'=>∃v',e=.returned v'/\W'.ownsRow W.heap.size T w v' n news/\Below W.heap.size W W')
 (hr:Rel W0 B0 st ρ W) {es:LV} {b o c:Nat} {xs:List Value} (hsw:JH w es=true) (hn:es.length<=65536) (hpos:0<es.length) (hv:RL (cx st ρ W st.A.length).pure es xs)
 (hl:∀i x,xs[i]?=some x->Lies (Qb W) b (o+i*w) x) :
 Calls P f #[.slice (some ⟨b,o,none⟩) es.length c] W fun e W'=>∃x ρ',e=.returned x/\Goes W0 B0 st ρ W st ρ' W'/\R (cx st ρ' W' st.A.length) (.lit es) x:=by
 have hwide:∀(i:Nat) (x:Value),xs[i]?=some x->x.cells.size=w/\∀y∈x.cells.toList,y.oneCell'=true:=by
  intro i x hx;have hi:=Zm hx;rw[<- hv.1]at hi;exact (hv.2 i _ x (jE hi) hx).wide (ZDB _) (ZCw hsw (List.getElem_mem hi))
 have hsz:∀x∈xs,x.cells.size=w:=by
  intro x hx;obtain⟨i,hi⟩:=List.getElem?_of_mem hx;exact (hwide i x hi).1
 have hcells:∀j u,(Zv xs)[j]?=some u->W.cell? ((⟨b,o,none⟩:Addr).add j)=some u:=by
  intro j u hj;rw[ZA9];exact Zvk hsz hl hj
 have hone:∀u∈Zv xs,u.oneCell'=true:=by
  intro u hu;simp only[Zv,List.mem_flatMap]at hu;obtain⟨y,hy,hyu⟩:=hu;obtain⟨i,hi⟩:=List.getElem?_of_mem hy;exact (hwide i y hi).2 u hyu
 refine (h1 _ es.length c (Zv xs) W (by rw[Xc hsz,hv.1]) hn hcells hone).mono ?_
 rintro e W' ⟨v',rfl,hown,hbel⟩
 refine⟨_,ρ,rfl,ZqK hr hbel,?_⟩
 rcases hown.2 with⟨_,hz⟩|⟨g,cap,cur,rfl,hg,hrow,hcap,_,hcs,htake⟩
 ·omega
 ·have hq:=ZqK hr hbel
  have:=ZjX (C:=cx st ρ W' st.A.length) (es:=es) (xs:=xs) (b:=g) (o:=0) (w:=w) (c:=cap) (a:=some ⟨g,0,none⟩) (hv.mono (hq.ev.le _ (Nat.le_refl _)).pure) ?_ hcap (fun _=>rfl)
  ·exact this
  ·intro i x hx
   refine⟨hsz x (jM hx),fun j u hu=>?_⟩
   have hfl:=ZCu hsz hx hu;have hcell:=hown.cells (g:=g) rfl _ _ hfl;rw[ZA9]at hcell
   refine⟨by rw[show 0+i*w+j=0+(i*w+j) by omega];exact hcell,?_⟩
   rintro⟨lv',ix',w2,ver',es',hg',h2,h3,h4⟩
   have hm:=(hr.arr _ _ _ _ _ hg').mem (0+i*w+j-(ρ lv' ix').o) (by omega)
   obtain⟨y,hy⟩:=Option.isSome_iff_exists.1 hm.2.1
   have:=ZQ2 (W:=W) (b:=(ρ lv' ix').b) hy
   omega
theorem Zip{T:TypeId}
 (h0:∀(n c:Nat) (W:World),Calls P f #[.slice none n c] W fun e W'=>e=.returned (.slice none 0 0)/\W'=W)
 (h1:∀(ad:Addr) (n c:Nat) (news:List Value) (W:World),news.length=n*w->n<=65536->(∀j u,news[j]?=some u->W.cell? (ad.add j)=some u)->(∀u∈news,u.oneCell'=true) ->
  Calls P f #[.slice (some ad) n c] W fun e W'=>∃v',e=.returned v'/\W'.ownsRow W.heap.size T w v' n news/\Below W.heap.size W W')
 (hr:Rel W0 B0 st ρ W) (a:Option Addr) (c:Nat) :
 Calls P f #[.slice a 0 c] W fun e W'=>∃x ρ',e=.returned x/\Goes W0 B0 st ρ W st ρ' W'/\R (cx st ρ' W' st.A.length) (.lit []) x:=by
 cases a with
 | none =>
  refine (h0 0 c W).mono ?_
  rintro e W' ⟨rfl,rfl⟩
  exact⟨_,ρ,rfl,.refl hr,.lit0 _ _⟩
 | some ad =>
  refine (h1 ad 0 c [] W (by simp) (by omega) (by simp) (by simp)).mono ?_
  rintro e W' ⟨v',rfl,hown,hbel⟩
  refine⟨_,ρ,rfl,ZqK hr hbel,?_⟩
  rcases hown.2 with⟨rfl,_⟩|⟨g,cap,cur,rfl,_⟩
  ·exact .lit0 _ _
  ·exact .lit0 _ _
theorem ZtQ{T:TypeId}
 (h0:∀(n c:Nat) (W:World),Calls P f #[.slice none n c] W fun e W'=>e=.returned (.slice none 0 0)/\W'=W)
 (h1:∀(ad:Addr) (n c:Nat) (news:List Value) (W:World),news.length=n*w->n<=65536->(∀j u,news[j]?=some u->W.cell? (ad.add j)=some u)->(∀u∈news,u.oneCell'=true) ->
  Calls P f #[.slice (some ad) n c] W fun e W'=>∃v',e=.returned v'/\W'.ownsRow W.heap.size T w v' n news/\Below W.heap.size W W') :
 Zil P f (.base (ZIe w)):=by
 refine⟨fun args st r hr=>?_,?_⟩
 ·unfold ZIe at hr ⊢
  simp only at hr ⊢
  split at hr
  ·split at hr
   ·rename_i hc
    simp only[Option.some.injEq]at hr;subst hr
    exact⟨rfl,fun M i B hh=>by rw[if_pos hc]⟩
   ·simp at hr
  ·rename_i lv ix ver s n
   simp only[Option.bind_eq_some_iff]at hr;obtain⟨es,he,hr⟩:=hr
   split at hr
   ·rename_i hc
    simp only[Option.some.injEq]at hr;subst hr
    refine⟨rfl,fun M i B hh=>?_⟩
    have he':elems (st.fillA M i B) (.ref lv ix ver s n)=some es:=(Jx hh).elems (x:=.ref lv ix ver s n) he;simp only[elems]at he';rw[he',Option.bind_some,if_pos hc]
   ·simp at hr
  ·simp at hr
 intro args st v st' h W0 B0 ρ W xs _ hr hx;unfold ZIe at h
 split at h
 ·rename_i es
  split at h
  ·rename_i hc
   obtain⟨hsw,hn⟩:=hc;simp only[Option.some.injEq,jP]at h;obtain⟨rfl,rfl⟩:=h;obtain⟨x,ys,rfl,hx1,hx2⟩:=hx.cons_inv;obtain rfl:=hx2.nil_inv;obtain⟨a,c,rfl,hlc,hk⟩:=ZFz hx1
   rcases Nat.eq_zero_or_pos es.length with hz|hpos
   ·have:es=[]:=List.length_eq_zero_iff.1 hz
    subst this;exact Zip h0 h1 hr a c
   ·rcases hk with rfl|⟨b,o,w',vs,rfl,hv,hl⟩
    ·simp at hpos
    have hww:w'=w:=by
     have:=(hl 0 hpos).1
     rw[((hv 0 _ (jE hpos)).wide (ZDB _) (ZCw hsw (List.getElem_mem hpos))).1]at this;exact this.symm
    subst hww
    refine Zio h1 hr (xs:=(List.range es.length).map vs) hsw hn hpos ⟨by simp,fun i e x he hx=>?_⟩ fun i x hx=>?_
    ·have hi:=Zm he
     rw[jG,List.getElem?_range hi]at hx;simp only[Option.map_some,Option.some.injEq]at hx;subst hx;exact hv i e he
    ·have hi:=Zm hx
     rw[List.length_map,List.length_range]at hi;rw[jG,List.getElem?_range hi]at hx;simp only[Option.map_some,Option.some.injEq]at hx;subst hx
     exact (hl i hi).2.mono fun _ _ _ q=>q.1
  ·simp at h
 ·rename_i lv ix ver s n
  simp only[Option.bind_eq_some_iff]at h;obtain⟨es,he,h⟩:=h
  split at h
  ·rename_i hc
   obtain⟨⟨hsw,hn⟩,him⟩:=hc;simp only[Option.some.injEq,jP]at h;obtain⟨rfl,rfl⟩:=h;obtain⟨x,ys,rfl,hx1,hx2⟩:=hx.cons_inv;obtain rfl:=hx2.nil_inv
   cases hx1 with
   | ref hp =>
    obtain⟨_,_,_,a,c,rfl,hp⟩:=hp;unfold ZFG at he
    split at he
    ·rename_i w2 ver' es0 hg
     split at he
     ·rename_i hc
      obtain⟨rfl,hsn⟩:=hc;simp only[Option.some.injEq]at he;obtain⟨p1,p2,p3⟩:=hp w2 es0 hg
      have hlen:es.length=n:=by rw[<- he];simp;omega
      rcases Nat.eq_zero_or_pos n with hz|hpos
      ·subst hz
       have:es=[]:=List.length_eq_zero_iff.1 hlen
       subst this;exact Zip h0 h1 hr a c
      ·have aok:=hr.arr _ _ _ _ _ hg
       have hle:=aok.len;obtain⟨vs,hvs,hlies⟩:=aok.vals
       have hRL:RL (cx st ρ W lv) es ((vs.drop s).take n):=by rw[<- he];exact (hvs.drop s).take n
       have hxs:∀(i:Nat) (x:Value),((vs.drop s).take n)[i]?=some x->vs[s+i]?=some x:=by
        intro i x hx;rw[List.getElem?_take]at hx
        split at hx
        ·rw[List.getElem?_drop]at hx;exact hx
        ·simp at hx
       have hpos':0<es.length:=by omega
       have hww:w2=w:=by
        obtain⟨x,hx,hR⟩:=hRL.get (jE hpos');have q1:=(hR.wide (XN _ _ _ _) (ZCw hsw (List.getElem_mem hpos'))).1;have q2:=(hlies _ _ (hxs 0 x hx)).1;rw[q1]at q2;exact q2.symm
       subst hww
       have ha:=p3 (by omega)
       subst ha;rw[<- hlen]
       refine Zio h1 hr (xs:=(vs.drop s).take n) hsw hn hpos' ⟨hRL.1,fun i e x he hx=>?_⟩ fun i x hx=>?_
       ·exact ZmY (List.all_eq_true.1 him e (jM he)) (hRL.2 i e x he hx) fun _ _ _ q=>q
       ·have:=(hlies _ _ (hxs i x hx)).2
        rwa [show (ρ lv ix).o+s*w2+i*w2=(ρ lv ix).o+(s+i)*w2 by rw[Nat.add_mul];omega]
     ·simp at he
    ·simp at he
  ·simp at h
 ·simp at h
end
end Go.QAbs
namespace Go.QAbs
variable {u v v':AV}{agg ro:Bool}{cm:CM}{e e1 e2:Env}{f g:FuncId}{a b:Int}{A A0:List (Bool × List Blk)}{args cap cs es es' first vs ws z:LV}{L':List Blk}{is:List PI}{xs:List Value}{i id ix j l n s t ver w:Nat}{c x:Opd}{body:PC}{o q:PO}{p:Prop}{st st':St}{k:WK}
def JV:Env->Nat->Option AV
 | [],_=>none
 | (k,v)::e,t=>match Nat.beq k t with
  | true=>some v
  | false=>JV e t
def ZY(e:Env):Opd->Option AV
 | .s t=>JV e t
 | .v a=>some a
def ZF0(e:Env):List Opd->Option LV
 | []=>some []
 | o::os=>match ZY e o with
  | some v=>match ZF0 e os with
   | some r=>some (v::r)
   | none=>none
  | none=>none
def Zc6:List Nat->Env->Option Env
 | [],_=>some []
 | k::ks,e=>match JV e k with
  | some v=>match Zc6 ks e with
   | some r=>some ((k,v)::r)
   | none=>none
  | none=>match Zc6 ks e with
   | some r=>some ((k,.any)::r)
   | none=>none
def ZE:LV->Option LV
 | []=>some []
 | v::vs=>match ZE vs with
  | some r=>some (v::r)
  | none=>none
def Jf:List Blk->Option (List Blk)
 | []=>some []
 | v::vs=>match Jf vs with
  | some r=>some (v::r)
  | none=>none
theorem Z9:∀ {e:Env} {t:Nat} {v:AV},JV e t=some v->look e t=v
 | [],_,_,h=>by simp[JV]at h
 | (k,w)::e,t,v,h=>by
  simp only[JV]at h
  split at h
  ·rename_i hb
   simp only[Option.some.injEq]at h;rw[look,if_pos (Nat.eq_of_beq_eq_true hb)];exact h
  ·rename_i hb
   have hn:k≠t:=fun q=>by subst q;simp at hb
   rw[look,if_neg hn];exact Z9 h
theorem Zc7:∀ {e:Env} {t:Nat},JV e t=none->look e t=.any
 | [],_,_=>rfl
 | (k,w)::e,t,h=>by
  simp only[JV]at h
  split at h
  ·simp at h
  ·rename_i hb
   have hn:k≠t:=fun q=>by subst q;simp at hb
   rw[look,if_neg hn];exact Zc7 h
theorem ZD{o:Opd}(h:ZY e o=some v):o.get e=v:=by
 cases o with
 | s t=>exact Z9 h
 | v a=>simp only[ZY,Option.some.injEq]at h;exact h
theorem YG:∀ {e:Env} {os:List Opd} {vs:LV},ZF0 e os=some vs->Xu e os=vs
 | _,[],vs,h=>by simp only[ZF0,Option.some.injEq]at h;rw[<- h];rfl
 | e,o::os,vs,h=>by
  simp only[ZF0]at h
  split at h
  ·rename_i v hv
   split at h
   ·rename_i r hr
    simp only[Option.some.injEq]at h;rw[<- h,Xu,ZD hv,YG hr]
   ·simp at h
  ·simp at h
theorem ZTh:∀ {ks:List Nat} {e r:Env},Zc6 ks e=some r->X4 ks e=r
 | [],_,_,h=>by simp only[Zc6,Option.some.injEq]at h;rw[<- h];rfl
 | k::ks,e,r,h=>by
  simp only[Zc6]at h
  split at h
  ·rename_i v hv
   split at h
   ·rename_i q hq
    simp only[Option.some.injEq]at h;rw[<- h,X4,Z9 hv,ZTh hq]
   ·simp at h
  ·rename_i hv
   split at h
   ·rename_i q hq
    simp only[Option.some.injEq]at h;rw[<- h,X4,Zc7 hv,ZTh hq]
   ·simp at h
theorem Qt:∀ {l r:LV},ZE l=some r->l=r
 | [],r,h=>by simpa [ZE] using h
 | v::vs,r,h=>by
  simp only[ZE]at h
  split at h
  ·rename_i q hq
   simp only[Option.some.injEq]at h;rw[<- h,Qt hq]
  ·simp at h
theorem QP:∀ {l r:List Blk},Jf l=some r->l=r
 | [],r,h=>by simpa [Jf] using h
 | v::vs,r,h=>by
  simp only[Jf]at h
  split at h
  ·rename_i q hq
   simp only[Option.some.injEq]at h;rw[<- h,QP hq]
  ·simp at h
inductive Fr where
 | seq (b:PC)
 | blk (id:Nat)
 | inv (P:Env->St->Prop)
abbrev Qn:=Ex->Env->St->Prop
def RkD(O:Orc):List Fr->Qn->Ex->Env->St->Prop
 | [],Q,x,e,st=>Q x e st
 | .seq b::k,Q,.norm,e,st=>∃x e' st',exec O itS b e st=some (x,e',st')/\RkD O k Q x e' st'
 | .seq _::k,Q,x,e,st=>RkD O k Q x e st
 | .blk id::k,Q,.ex id',e,st=>if id'=id then RkD O k Q .norm e st else RkD O k Q (.ex id') e st
 | .blk _::k,Q,x,e,st=>RkD O k Q x e st
 | .inv P::_,_,.norm,e,st=>P e st
 | .inv _::k,Q,x,e,st=>RkD O k Q x e st
structure Rk(O:Orc)(k:List Fr)(Q:Qn)(x:Ex)(e:Env)(st:St):Prop where
 h:RkD O k Q x e st
structure Ru(O:Orc)(c:PC)(k:List Fr)(Q:Qn)(e:Env)(st:St):Prop where
 h:∃x e' st',exec O itS c e st=some (x,e',st')/\RkD O k Q x e' st'
structure Is(O:Orc)(is:List PI)(keep:List Nat)(k:List Fr)(Q:Qn)(e:Env)(st:St):Prop where
 h:∃e' st',JK O is e st=some (e',st')/\RkD O k Q .norm (X4 keep e') st'
def Sp(T:Tab)(f:FuncId)(args:LV)(st:St)(Q:AV->St->Prop):Prop:=∃v st',S T f args st=some (v,st')/\Q v st'
section
variable {O:Orc}{k:List Fr}{Q:Qn}{e:Env}{st:St}
theorem Zc8{a b:PC}(h:Ru O a (.seq b::k) Q e st):Ru O (.seq a b) k Q e st:=by
 obtain⟨⟨x,e',st',h1,h2⟩⟩:=h
 cases x with
 | norm =>
  obtain⟨x,e2,st2,h3,h4⟩:=h2
  exact⟨⟨x,e2,st2,by rw[ZcU,h1,Option.bind_some,ZW4];exact h3,h4⟩⟩
 | ex id=>exact⟨⟨.ex id,e',st',by rw[ZcU,h1];rfl,h2⟩⟩
 | ret=>exact⟨⟨.ret,e',st',by rw[ZcU,h1];rfl,h2⟩⟩
theorem Zb3(h:Rk O k Q .norm e st):Ru O .skip k Q e st:=⟨⟨_,_,_,rfl,h.h⟩⟩
theorem Jq(h:Rk O k Q .ret e st):Ru O .ret k Q e st:=⟨⟨_,_,_,rfl,h.h⟩⟩
theorem Zvl(h:Rk O k Q (.ex id) e st):Ru O (.exit id) k Q e st:=⟨⟨_,_,_,rfl,h.h⟩⟩
theorem Zmd{b:PC}(h:Ru O b (.blk id::k) Q e st):Ru O (.block id b) k Q e st:=by
 obtain⟨⟨x,e',st',h1,h2⟩⟩:=h
 cases x with
 | norm=>exact⟨⟨.norm,e',st',by rw[ZIY,h1];rfl,h2⟩⟩
 | ex id' =>
  simp only[RkD]at h2
  by_cases hid:id'=id
  ·rw[if_pos hid]at h2
   exact⟨⟨.norm,e',st',by rw[ZIY,h1];simp[ZC7,hid],h2⟩⟩
  ·rw[if_neg hid]at h2
   exact⟨⟨.ex id',e',st',by rw[ZIY,h1];simp[ZC7,hid],h2⟩⟩
 | ret=>exact⟨⟨.ret,e',st',by rw[ZIY,h1];rfl,h2⟩⟩
theorem Zvm{a b:PC}(hc:ZY e c=some (.bool true))(h:Ru O a k Q e st):Ru O (.ite c a b) k Q e st:=by
 obtain⟨⟨x,e',st',h1,h2⟩⟩:=h
 exact⟨⟨x,e',st',by rw[Zlx,ZD hc,Zqs];exact h1,h2⟩⟩
theorem Zjp{a b:PC}(hc:ZY e c=some (.bool false))(h:Ru O b k Q e st):Ru O (.ite c a b) k Q e st:=by
 obtain⟨⟨x,e',st',h1,h2⟩⟩:=h
 exact⟨⟨x,e',st',by rw[Zlx,ZD hc,ZoE];exact h1,h2⟩⟩
theorem Qp{keep:List Nat}(h:Is O is keep k Q e st):Ru O (.reg keep is) k Q e st:=by
 obtain⟨⟨e',st',h1,h2⟩⟩:=h
 exact⟨⟨.norm,X4 keep e',st',by rw[ZsO,h1];rfl,h2⟩⟩
theorem Zjq{b:PC}(P:Nat->Env->St->Prop)(n:Nat)(h0:P n e st)
 (step:∀n e st,P n e st->Ru O b (.inv (fun e st=>∃m,m<n/\P m e st)::k) Q e st):Ru O (.loop b) k Q e st:=by
 have key:∀n e st,P n e st->Ru O (.loop b) k Q e st:=by
  intro n
  induction n using Nat.strongRecOn with
  | ind n ih =>
   intro e st h;obtain⟨⟨x,e',st',h1,h2⟩⟩:=step n e st h
   cases x with
   | norm =>
    obtain⟨m,hm,hp⟩:=h2;obtain⟨⟨x,e2,st2,h3,h4⟩⟩:=ih m hm e' st' hp
    exact⟨⟨x,e2,st2,by rw[ZCt,ZGt,h1,Option.bind_some,ZW4];exact h3,h4⟩⟩
   | ex id=>exact⟨⟨.ex id,e',st',by rw[ZCt,ZGt,h1];rfl,h2⟩⟩
   | ret=>exact⟨⟨.ret,e',st',by rw[ZCt,ZGt,h1];rfl,h2⟩⟩
 exact key n e st h0
theorem Zc{α:Type}{b:PC}(E:α->Env)(X:α->St)(P:α->Prop)(m:α->Nat)(a:α)(he:e=E a)(hs:st=X a)(h0:P a)
 (step:∀a,P a->Ru O b (.inv (fun e st=>∃c,(e=E c/\st=X c)/\(P c/\m c<m a))::k) Q (E a) (X a)):Ru O (.loop b) k Q e st:=by
 refine Zjq (fun n e st=>∃a,(e=E a/\st=X a)/\(P a/\m a=n)) (m a) ⟨a,⟨he,hs⟩,h0,rfl⟩ ?_
 rintro n e st ⟨a,⟨rfl,rfl⟩,hp,hm⟩
 obtain⟨⟨x,e',st',h1,h2⟩⟩:=step a hp;refine⟨⟨x,e',st',h1,?_⟩⟩
 cases x with
 | norm =>
  obtain⟨c,hc,hp,hl⟩:=h2
  exact⟨m c,by omega,c,hc,hp,rfl⟩
 | ex id=>exact h2
 | ret=>exact h2
theorem Zoj{x:Ex}(h:Q x e st):Rk O [] Q x e st:=⟨h⟩
theorem ZX{b:PC}(h:Ru O b k Q e st):Rk O (.seq b::k) Q .norm e st:=⟨h.h⟩
theorem Zok{b:PC}(h:Rk O k Q .ret e st):Rk O (.seq b::k) Q .ret e st:=⟨h.h⟩
theorem ZrQ{b:PC}(h:Rk O k Q (.ex id) e st):Rk O (.seq b::k) Q (.ex id) e st:=⟨h.h⟩
theorem ZxG(h:Rk O k Q .norm e st):Rk O (.blk id::k) Q .norm e st:=⟨h.h⟩
theorem Zol(h:Rk O k Q .ret e st):Rk O (.blk id::k) Q .ret e st:=⟨h.h⟩
theorem ZrR{id':Nat}(hi:Nat.beq id' id=true)(h:Rk O k Q .norm e st):Rk O (.blk id::k) Q (.ex id') e st:=by
 refine⟨?_⟩;simp only[RkD];rw[if_pos (Nat.eq_of_beq_eq_true hi)];exact h.h
theorem ZrS{id':Nat}(hi:Nat.beq id' id=false)(h:Rk O k Q (.ex id') e st):Rk O (.blk id::k) Q (.ex id') e st:=by
 refine⟨?_⟩;simp only[RkD];rw[if_neg (fun q=>by subst q;simp at hi)];exact h.h
theorem ZIf{P:Env->St->Prop}(h:P e st):Rk O (.inv P::k) Q .norm e st:=⟨h⟩
theorem Zom{P:Env->St->Prop}(h:Rk O k Q .ret e st):Rk O (.inv P::k) Q .ret e st:=⟨h.h⟩
theorem ZrT{P:Env->St->Prop}(h:Rk O k Q (.ex id) e st):Rk O (.inv P::k) Q (.ex id) e st:=⟨h.h⟩
variable {keep:List Nat}{is:List PI}
theorem Yj{e':Env}(he:Zc6 keep e=some e')(h:Rk O k Q .norm e' st):Is O [] keep k Q e st :=
 ⟨⟨e,st,rfl,by rw[ZTh he];exact h.h⟩⟩
variable {d:Nat}{own:Bool}{op:PO}
theorem ZtR{w:Bool}{od:Option Nat}(hg:JV e t=some (.bool w))(h:Is O (⟨od,none,own,op⟩::is) keep k Q e st):Is O (⟨od,some (t,w),own,op⟩::is) keep k Q e st:=by
 obtain⟨⟨e',st',h1,h2⟩⟩:=h;refine⟨⟨e',st',?_,h2⟩⟩;rw[ZAD]at h1 ⊢
 have:wantedV e (some (t,w))=some true:=by simp[wantedV,Z9 hg,ZIV]
 simp only[this];exact h1
theorem Zxp{w w':Bool}(hg:JV e t=some (.bool w'))(hw:(w' == w)=false)(h:Is O is keep k Q ((d,.undef)::e) st):Is O (⟨some d,some (t,w),own,op⟩::is) keep k Q e st:=by
 obtain⟨⟨e',st',h1,h2⟩⟩:=h;refine⟨⟨e',st',?_,h2⟩⟩;rw[ZAD]
 have:wantedV e (some (t,w))=some false:=by simp[wantedV,Z9 hg,ZIV,hw]
 rw[this,Option.bind_some,ZIZ];exact h1
theorem Zxq{w:Bool}(hg:JV e t=some .undef)(h:Is O is keep k Q ((d,.undef)::e) st):Is O (⟨some d,some (t,w),own,op⟩::is) keep k Q e st:=by
 obtain⟨⟨e',st',h1,h2⟩⟩:=h;refine⟨⟨e',st',?_,h2⟩⟩;rw[ZAD]
 have:wantedV e (some (t,w))=some false:=by simp[wantedV,Z9 hg,ZIV]
 rw[this,Option.bind_some,ZIZ];exact h1
theorem ZxH{w w':Bool}(hg:JV e t=some (.bool w'))(hw:(w' == w)=false)(h:Is O is keep k Q e st):Is O (⟨none,some (t,w),own,op⟩::is) keep k Q e st:=by
 obtain⟨⟨e',st',h1,h2⟩⟩:=h;refine⟨⟨e',st',?_,h2⟩⟩;rw[ZAD]
 have:wantedV e (some (t,w))=some false:=by simp[wantedV,Z9 hg,ZIV,hw]
 rw[this,Option.bind_some,ZIZ];exact h1
theorem ZxI{w:Bool}(hg:JV e t=some .undef)(h:Is O is keep k Q e st):Is O (⟨none,some (t,w),own,op⟩::is) keep k Q e st:=by
 obtain⟨⟨e',st',h1,h2⟩⟩:=h;refine⟨⟨e',st',?_,h2⟩⟩;rw[ZAD]
 have:wantedV e (some (t,w))=some false:=by simp[wantedV,Z9 hg,ZIV]
 rw[this,Option.bind_some,ZIZ];exact h1
theorem Zq{od:Option Nat}(hv:Zd O e st op=some (v,st'))(h:Is O is keep k Q (ZC5 e od v) st'):Is O (⟨od,none,false,op⟩::is) keep k Q e st:=by
 obtain⟨⟨e',st2,h1,h2⟩⟩:=h;refine⟨⟨e',st2,?_,h2⟩⟩;rw[ZAD]
 have:wantedV e none=some true:=rfl
 simp only[this,Option.bind_some,ZiJ]
 have h3:Qs O e st ⟨od,none,false,op⟩=some (v,st'):=by simp only[Qs,jB,if_false];exact hv
 rw[h3,Option.bind_some,Zuj];exact h1
theorem ZDH(hx:ZY e x=some v)(h:Is O is keep k Q ((d,v)::e) st):Is O (⟨some d,none,false,.mv x⟩::is) keep k Q e st :=
 Zq (v:=v) (st':=st) (by rw[<- ZD hx];rfl) h
theorem Zvn{a b:Opd}{t:Bool}{va vb:AV}(hc:ZY e c=some (.bool t))(ha:ZY e a=some va)(hb:ZY e b=some vb)(hv:(match t with|true=>some va|false=>some vb)=some v)
 (h:Is O is keep k Q ((d,v)::e) st):Is O (⟨some d,none,false,.pick c a b⟩::is) keep k Q e st :=
 Zq (v:=v) (st':=st) (by simp only[Zd,evalPO,ZD hc,ZD ha,ZD hb,Zpp,Option.bind_some,Qe];cases t<;>simp at hv<;>simp[hv]) h
theorem ZxJ{y:Opd}{kd:IntKind}(hx:ZY e x=some (.int kd a))(hy:ZY e y=some (.int kd b))(h:Is O is keep k Q ((d,.int kd (kd.wrap (a+b)))::e) st):Is O (⟨some d,none,false,.bin .add x y⟩::is) keep k Q e st :=
 Zq (st':=st) (by simp only[Zd,evalPO,ZD hx,ZD hy,ZIT,ZjM,if_false,if_true,ZIS,jB,Option.bind_some,Qe]) h
theorem ZxK{y:Opd}{kd:IntKind}(hx:ZY e x=some (.int kd a))(hy:ZY e y=some (.int kd b))(h:Is O is keep k Q ((d,.int kd (kd.wrap (a-b)))::e) st):Is O (⟨some d,none,false,.bin .sub x y⟩::is) keep k Q e st :=
 Zq (st':=st) (by simp only[Zd,evalPO,ZD hx,ZD hy,ZIT,ZjM,if_false,if_true,ZIS,jB,Option.bind_some,Qe]) h
theorem ZxL{y:Opd}{kd:IntKind}(hx:ZY e x=some (.int kd a))(hy:ZY e y=some (.int kd b))(h:Is O is keep k Q ((d,.int kd (kd.wrap (a*b)))::e) st):Is O (⟨some d,none,false,.bin .mul x y⟩::is) keep k Q e st :=
 Zq (st':=st) (by simp only[Zd,evalPO,ZD hx,ZD hy,ZIT,ZjM,if_false,if_true,ZIS,jB,Option.bind_some,Qe]) h
theorem ZXI{n:Int}(h0:-9223372036854775808<=n)(h1:n<9223372036854775808):IntKind.i64.wrap n=n:=by
 have e1:IntKind.i64.signed=true:=rfl;have e2:IntKind.i64.bits=64:=rfl;simp only[IntKind.wrap,e1,e2,Bool.true_and,decide_eq_true_eq]
 split<;>omega
theorem ZL{y:Opd}(hx:ZY e x=some (.int .i64 a))(hy:ZY e y=some (.int .i64 b))(hw:-9223372036854775808<=a+b/\a+b<9223372036854775808)(h:Is O is keep k Q ((d,.int .i64 (a+b))::e) st):Is O (⟨some d,none,false,.bin .add x y⟩::is) keep k Q e st:=by
 rw[<- ZXI hw.1 hw.2]at h;exact ZxJ hx hy h
theorem QC{y:Opd}(hx:ZY e x=some (.int .i64 a))(hy:ZY e y=some (.int .i64 b))(hw:-9223372036854775808<=a-b/\a-b<9223372036854775808)(h:Is O is keep k Q ((d,.int .i64 (a-b))::e) st):Is O (⟨some d,none,false,.bin .sub x y⟩::is) keep k Q e st:=by
 rw[<- ZXI hw.1 hw.2]at h;exact ZxK hx hy h
theorem ZqM{y:Opd}(hx:ZY e x=some (.int .i64 a))(hy:ZY e y=some (.int .i64 b))(hw:-9223372036854775808<=a*b/\a*b<9223372036854775808)(h:Is O is keep k Q ((d,.int .i64 (a*b))::e) st):Is O (⟨some d,none,false,.bin .mul x y⟩::is) keep k Q e st:=by
 rw[<- ZXI hw.1 hw.2]at h;exact ZxL hx hy h
theorem ZBS{y:Opd}(hx:ZY e x=some (.int .i64 a))(hy:ZY e y=some (.int .i64 b))(hw:0<=a/\0<b/\a<9223372036854775808)(h:Is O is keep k Q ((d,.int .i64 (a / b))::e) st):Is O (⟨some d,none,false,.bin .quo x y⟩::is) keep k Q e st:=by
 refine Zq (st':=st) (v:=.int .i64 (a / b)) ?_ h;simp only[Zd,evalPO,ZD hx,ZD hy,ZIT,ZjM,if_false,if_true,ZIS,jB,Option.bind_some,Qe]
 rw[if_neg (by omega),Int.tdiv_eq_ediv_of_nonneg hw.1]
 have h1:a / b<=a:=Int.ediv_le_self b hw.1
 have h2:0<=a / b:=Int.ediv_nonneg hw.1 (by omega)
 rw[ZXI (by omega) (by omega)]
 rfl
theorem Zjr{y:Opd}(hx:ZY e x=some (.int .i64 a))(hy:ZY e y=some (.int .i64 b))(hw:0<=a/\0<b)(h:Is O is keep k Q ((d,.int .i64 (a % b))::e) st):Is O (⟨some d,none,false,.bin .rem x y⟩::is) keep k Q e st:=by
 refine Zq (st':=st) (v:=.int .i64 (a % b)) ?_ h;simp only[Zd,evalPO,ZD hx,ZD hy,ZIT,ZjM,if_false,if_true,ZIS,jB,Option.bind_some,Qe]
 rw[if_neg (by omega),Int.tmod_eq_emod_of_nonneg hw.1]
 rfl
theorem ZXJ{y:Opd}{kd:IntKind}{bop:BinOp}[Decidable p](hx:ZY e x=some (.int kd a))(hy:ZY e y=some (.int kd b))(hp:ZIS bop kd a b=some (.bool (decide p)))(hs:ZjM bop=false)
 (hT:p->Is O is keep k Q ((d,.bool true)::e) st) (hF:¬ p->Is O is keep k Q ((d,.bool false)::e) st):Is O (⟨some d,none,false,.bin bop x y⟩::is) keep k Q e st:=by
 have hv:Zd O e st (.bin bop x y)=some (.bool (decide p),st):=by
  simp only[Zd,evalPO,ZD hx,ZD hy,ZIT,hs,if_false,if_true,jB,hp,Option.bind_some,Qe]
 by_cases q:p
 ·rw[decide_eq_true q]at hv;exact Zq hv (hT q)
 ·rw[decide_eq_false q]at hv;exact Zq hv (hF q)
theorem ZI{y:Opd}{kd:IntKind}(hx:ZY e x=some (.int kd a))(hy:ZY e y=some (.int kd b))(hT:a<b->Is O is keep k Q ((d,.bool true)::e) st)(hF:b<=a->Is O is keep k Q ((d,.bool false)::e) st):Is O (⟨some d,none,false,.bin .lss x y⟩::is) keep k Q e st :=
 ZXJ hx hy rfl rfl hT (fun q=>hF (Int.not_lt.1 q))
theorem YH{y:Opd}{kd:IntKind}(hx:ZY e x=some (.int kd a))(hy:ZY e y=some (.int kd b))(hT:a<=b->Is O is keep k Q ((d,.bool true)::e) st)(hF:b<a->Is O is keep k Q ((d,.bool false)::e) st):Is O (⟨some d,none,false,.bin .leq x y⟩::is) keep k Q e st :=
 ZXJ hx hy rfl rfl hT (fun q=>hF (Int.not_le.1 q))
theorem Z0{y:Opd}{kd:IntKind}(hx:ZY e x=some (.int kd a))(hy:ZY e y=some (.int kd b))(hT:b<a->Is O is keep k Q ((d,.bool true)::e) st)(hF:a<=b->Is O is keep k Q ((d,.bool false)::e) st):Is O (⟨some d,none,false,.bin .gtr x y⟩::is) keep k Q e st :=
 ZXJ hx hy rfl rfl hT (fun q=>hF (Int.not_lt.1 q))
theorem Jz{y:Opd}{kd:IntKind}(hx:ZY e x=some (.int kd a))(hy:ZY e y=some (.int kd b))(hT:b<=a->Is O is keep k Q ((d,.bool true)::e) st)(hF:a<b->Is O is keep k Q ((d,.bool false)::e) st):Is O (⟨some d,none,false,.bin .geq x y⟩::is) keep k Q e st :=
 ZXJ hx hy rfl rfl hT (fun q=>hF (Int.not_le.1 q))
theorem ZP{y:Opd}{kd:IntKind}(hx:ZY e x=some (.int kd a))(hy:ZY e y=some (.int kd b))(hT:a=b->Is O is keep k Q ((d,.bool true)::e) st)(hF:a≠b->Is O is keep k Q ((d,.bool false)::e) st):Is O (⟨some d,none,false,.bin .eql x y⟩::is) keep k Q e st :=
 ZXJ hx hy rfl rfl hT hF
theorem ZV{y:Opd}{kd:IntKind}(hx:ZY e x=some (.int kd a))(hy:ZY e y=some (.int kd b))(hT:a≠b->Is O is keep k Q ((d,.bool true)::e) st)(hF:a=b->Is O is keep k Q ((d,.bool false)::e) st):Is O (⟨some d,none,false,.bin .neq x y⟩::is) keep k Q e st :=
 ZXJ hx hy rfl rfl hT (fun q=>hF (Decidable.byContradiction q))
def cmT:BinOp->Int->Int->Option (Prop × Prop)
 | .neq,a,b=>some (a≠b,a=b)
 | .lss,a,b=>some (a<b,b<=a)
 | .eql,a,b=>some (a=b,a≠b)
 | .gtr,a,b=>some (b<a,a<=b)
 | .geq,a,b=>some (b<=a,a<b)
 | .leq,a,b=>some (a<=b,b<a)
 | _,_,_=>none
theorem cm0{y:Opd}{kd:IntKind}{o:BinOp}{q:Prop}(hx:ZY e x=some (.int kd a))(hy:ZY e y=some (.int kd b))(hc:cmT o a b=some (p,q))(hT:p->Is O is keep k Q ((d,.bool true)::e) st)(hF:q->Is O is keep k Q ((d,.bool false)::e) st):Is O (⟨some d,none,false,.bin o x y⟩::is) keep k Q e st:=by
 cases o
 all_goals first|(cases hc;done)|(obtain⟨h1,h2⟩:=Prod.mk.inj (Option.some.inj hc);subst h1 h2;first|exact ZV hx hy hT hF|exact ZI hx hy hT hF|exact ZP hx hy hT hF|exact Z0 hx hy hT hF|exact Jz hx hy hT hF|exact YH hx hy hT hF)
theorem Jr{y:Opd}{a b:B8}(hx:ZY e x=some (.str a))(hy:ZY e y=some (.str b))(hT:a=b->Is O is keep k Q ((d,.bool true)::e) st)(hF:a≠b->Is O is keep k Q ((d,.bool false)::e) st):Is O (⟨some d,none,false,.bin .eql x y⟩::is) keep k Q e st:=by
 have hv:Zd O e st (.bin .eql x y)=some (.bool (decide (a=b)),st):=by
  simp only[Zd,evalPO,ZD hx,ZD hy,ZIT,ZW2,Option.bind_some,Qe]
 by_cases q:a=b
 ·rw[decide_eq_true q]at hv;exact Zq hv (hT q)
 ·rw[decide_eq_false q]at hv;exact Zq hv (hF q)
theorem ZCM{y:Opd}{a b:B8}(hx:ZY e x=some (.str a))(hy:ZY e y=some (.str b))(hT:a≠b->Is O is keep k Q ((d,.bool true)::e) st)(hF:a=b->Is O is keep k Q ((d,.bool false)::e) st):Is O (⟨some d,none,false,.bin .neq x y⟩::is) keep k Q e st:=by
 have hv:Zd O e st (.bin .neq x y)=some (.bool (decide (a≠b)),st):=by
  simp only[Zd,evalPO,ZD hx,ZD hy,ZIT,ZW2,Option.bind_some,Qe]
 by_cases q:a=b
 ·rw[decide_eq_false (fun h=>h q)]at hv;exact Zq hv (hF q)
 ·rw[decide_eq_true q]at hv;exact Zq hv (hT q)
theorem Zon{y:Opd}{a b:B8}(hx:ZY e x=some (.str a))(hy:ZY e y=some (.str b))(hl:a.length+b.length<4611686018427387904)(h:Is O is keep k Q ((d,.str (a++b))::e) st):Is O (⟨some d,none,false,.bin .add x y⟩::is) keep k Q e st :=
 Zq (st':=st) (by simp only[Zd,evalPO,ZD hx,ZD hy,ZIT,ZW2,if_pos hl,Option.bind_some,Qe]) h
theorem ZGO{bop:BinOp}{y:Opd}{a b:AV}(hx:ZY e x=some a)(hy:ZY e y=some b)(hv:ZIT bop a b=some v)(h:Is O is keep k Q ((d,v)::e) st):Is O (⟨some d,none,false,.bin bop x y⟩::is) keep k Q e st :=
 Zq (v:=v) (st':=st) (by simp only[Zd,evalPO,ZD hx,ZD hy,hv,Option.bind_some,Qe]) h
theorem QD{neg:Bool}{kind:Nat}{ks:List (Nat × Nat)}{y:Opd}{a b:AV}{t u:Bool}(hx:ZY e x=some a)(hy:ZY e y=some b)(hv:eqV ks kind a b=some t)(hu:(match neg with|true=>!t|false=>t)=u)(h:Is O is keep k Q ((d,.bool u)::e) st):
 Is O (⟨some d,none,false,.eqs neg kind ks x y⟩::is) keep k Q e st :=
 Zq (v:=.bool u) (st':=st) (by simp only[Zd,evalPO,ZD hx,ZD hy,hv,Option.bind_some];subst hu;cases neg<;>simp) h
theorem ZIg{neg:Bool}{kind:Nat}{ks:List (Nat × Nat)}{y:Opd}{a b:AV}[Decidable p](hx:ZY e x=some a)(hy:ZY e y=some b)(hv:eqV ks kind a b=some (decide p))
 (hT:p->Is O is keep k Q ((d,.bool (!neg))::e) st) (hF:¬ p->Is O is keep k Q ((d,.bool neg)::e) st) :
 Is O (⟨some d,none,false,.eqs neg kind ks x y⟩::is) keep k Q e st:=by
 by_cases q:p
 ·refine QD hx hy (t:=true) (u:=!neg) (by rw[hv,decide_eq_true q]) ?_ (hT q)
  cases neg<;>rfl
 ·refine QD hx hy (t:=false) (u:=neg) (by rw[hv,decide_eq_false q]) ?_ (hF q)
  cases neg<;>rfl
theorem ZtS{b c:Bool}(hx:ZY e x=some (.bool b))(hc:(match b with|true=>some false|false=>some true)=some c)(h:Is O is keep k Q ((d,.bool c)::e) st):Is O (⟨some d,none,false,.un .not x⟩::is) keep k Q e st :=
 Zq (v:=.bool c) (st':=st) (by simp only[Zd,evalPO,ZD hx,unV,Option.bind_some,Qe];cases b<;>simp at hc<;>simp[<- hc]) h
theorem Zvo{kd kd':IntKind}(hx:ZY e x=some (.int kd' a))(h:Is O is keep k Q ((d,.int kd (kd.wrap a))::e) st):Is O (⟨some d,none,false,.cint kd x⟩::is) keep k Q e st :=
 Zq (st':=st) (by simp only[Zd,evalPO,ZD hx,Zlk,Option.bind_some,Qe]) h
theorem ZOK{kd kd':IntKind}(hx:ZY e x=some (.int kd' a))(hw:kd.wrap a=a)(h:Is O is keep k Q ((d,.int kd a)::e) st):Is O (⟨some d,none,false,.cint kd x⟩::is) keep k Q e st :=
 Zq (v:=.int kd a) (st':=st) (by simp only[Zd,evalPO,ZD hx,Zlk,Option.bind_some,Qe,hw]) h
theorem ZxM{a:AV}(hx:ZY e x=some a)(hv:b2sV st a=some v)(h:Is O is keep k Q ((d,v)::e) st):Is O (⟨some d,none,false,.b2s x⟩::is) keep k Q e st :=
 Zq (v:=v) (st':=st) (by simp only[Zd,evalPO,ZD hx,hv,Option.bind_some,Qe]) h
theorem ZOL{fn:Fn}{f c:List Opd}{vf vc:LV}(hf:ZF0 e f=some vf)(hc:ZF0 e c=some vc)(h:Is O is keep k Q ((d,.func fn vf vc)::e) st):Is O (⟨some d,none,false,.mkf fn f c⟩::is) keep k Q e st :=
 Zq (st':=st) (by simp only[Zd,evalPO,YG hf,YG hc]) h
theorem ZtT{a:AV}(hx:ZY e x=some a)(hv:ZcH a=some v)(h:Is O is keep k Q ((d,v)::e) st):Is O (⟨some d,none,false,.nilck x⟩::is) keep k Q e st :=
 Zq (v:=v) (st':=st) (by simp only[Zd,evalPO,ZD hx,hv,Option.bind_some,Qe]) h
theorem Zc9{mx:Bool}{y:Opd}{kd:IntKind}(hx:ZY e x=some (.int kd a))(hy:ZY e y=some (.int kd b))(h:Is O is keep k Q ((d,.int kd (if mx=true then max a b else min a b))::e) st):Is O (⟨some d,none,false,.mnx mx x y⟩::is) keep k Q e st:=by
 refine Zq (v:=.int kd (if mx=true then max a b else min a b)) (st':=st) ?_ h
 simp only[Zd,evalPO,ZD hx,ZD hy,Zuf,if_true,Option.bind_some,Qe]
 cases mx
 ·have:(if b<a then b else a)=min a b:=by rw[Int.min_def];split<;>split<;>omega
  simp[this]
 ·have:(if a<b then b else a)=max a b:=by rw[Int.max_def];split<;>split<;>omega
  simp[this]
theorem ZdA(hx:ZY e x=some (.tup vs))(hv:vs[i]?=some v)(h:Is O is keep k Q ((d,v)::e) st):Is O (⟨some d,none,false,.ext x i⟩::is) keep k Q e st :=
 Zq (v:=v) (st':=st) (by simp only[Zd,evalPO,ZD hx,Zug,hv,Option.bind_some,Qe]) h
theorem Qf{a:B8}(hx:ZY e x=some (.str a))(h:Is O is keep k Q ((d,.int .i64 a.length)::e) st):Is O (⟨some d,none,false,.len 0 x⟩::is) keep k Q e st :=
 Zq (st':=st) (by simp only[Zd,evalPO,ZD hx,lenOf,Option.bind_some]) h
theorem Zb4{a:LV}(hx:ZY e x=some (.lit a))(h:Is O is keep k Q ((d,.int .i64 a.length)::e) st):Is O (⟨some d,none,false,.len 1 x⟩::is) keep k Q e st :=
 Zq (st':=st) (by simp only[Zd,evalPO,ZD hx,lenOf,Option.bind_some]) h
theorem Zi{α:Type}{f:α->AV}{l:List α}(hx:ZY e x=some (.lit (l.map f)))(h:Is O is keep k Q ((d,.int .i64 l.length)::e) st):Is O (⟨some d,none,false,.len 1 x⟩::is) keep k Q e st :=
 Zb4 hx (by rw[List.length_map];exact h)
theorem QG(hx:ZY e x=some .nils)(h:Is O is keep k Q ((d,.int .i64 0)::e) st):Is O (⟨some d,none,false,.len 1 x⟩::is) keep k Q e st :=
 Zq (st':=st) (by simp only[Zd,evalPO,ZD hx,lenOf,Option.bind_some];rfl) h
theorem Zp{lv:Nat}(hx:ZY e x=some (.ref lv ix ver s n))(h:Is O is keep k Q ((d,.int .i64 n)::e) st):Is O (⟨some d,none,false,.len 1 x⟩::is) keep k Q e st :=
 Zq (st':=st) (by simp only[Zd,evalPO,ZD hx,lenOf,Option.bind_some]) h
theorem ZOM{agg:Bool}{off:Nat}(hx:ZY e x=some (.agg cs))(hv:cs[off]?=some v)(h:Is O is keep k Q ((d,v)::e) st):Is O (⟨some d,none,false,.fld false off n x⟩::is) keep k Q e st :=
 Zq (v:=v) (st':=st) (by simp only[Zd,evalPO,ZD hx,Zud,Jn,AV.isAny,if_false,jB,AV.cells,hv,Option.bind_some,Qe]) h
theorem ZtU{ps:List (Nat × Nat × Opd)}{qs:List (Nat × Nat × AV)}(hq:Xq e ps=qs)(hf:fillV z qs=some cs)(hv:ZE cs=some vs)(h:Is O is keep k Q ((d,.agg vs)::e) st):Is O (⟨some d,none,false,.build z ps⟩::is) keep k Q e st :=
 Zq (v:=.agg vs) (st':=st) (by simp only[Zd,evalPO,hq,hf,Qt hv,Option.bind_some]) h
theorem ZqN{lo hi:Option Opd}{s:B8}{r:Nat}(hx:ZY e x=some (.str s))(hh:Jy s.length s.length (ZGo e hi)=some r)(hl:Jy r 0 (ZGo e lo)=some l)(h:Is O is keep k Q ((d,.str ((s.drop l).take (r-l)))::e) st):Is O (⟨some d,none,false,.slcS x lo hi⟩::is) keep k Q e st :=
 Zq (st':=st) (by simp only[Zd,evalPO,ZD hx,Zpq,hh,hl,Option.bind_some,Qe]) h
theorem ZBF{y:Opd}{s:B8}{n:Int}(hx:ZY e x=some (.str s))(hy:ZY e y=some (.int .i64 n))(hn:0<=n/\n<=s.length)(h:Is O is keep k Q ((d,.str (s.take n.toNat))::e) st):Is O (⟨some d,none,false,.slcS x none (some y)⟩::is) keep k Q e st:=by
 refine ZqN (r:=n.toNat) (l:=0) hx ?_ Y (by simpa using h)
 simp only[ZGo,ZD hy,Jy,if_pos hn]
theorem ZBG{y:Opd}{s:B8}{n:Int}(hx:ZY e x=some (.str s))(hy:ZY e y=some (.int .i64 n))(hn:0<=n/\n<=s.length)(h:Is O is keep k Q ((d,.str (s.drop n.toNat))::e) st):Is O (⟨some d,none,false,.slcS x (some y) none⟩::is) keep k Q e st:=by
 refine ZqN (r:=s.length) (l:=n.toNat) hx Y ?_ ?_
 ·simp only[ZGo,ZD hy,Jy,if_pos hn]
 ·rw[List.take_of_length_le (by simp)];exact h
theorem ZVF{i:Opd}{s:B8}{n:Int}{b:UInt8}(hx:ZY e x=some (.str s))(hi:ZY e i=some (.int .i64 n))(hn:0<=n/\n<s.length)(hb:s[n.toNat]?=some b)(h:Is O is keep k Q ((d,.int .u8 b.toNat)::e) st):Is O (⟨some d,none,false,.ixStr x i⟩::is) keep k Q e st :=
 Zq (st':=st) (by simp only[Zd,evalPO,ZD hx,ZD hi,ZjO,XB,if_pos hn,hb,Option.bind_some,Qe]) h
theorem ZXK{i:Opd}{n:Int}(hx:ZY e x=some (.lit es))(hi:ZY e i=some (.int .i64 n))(hn:0<=n/\n<es.length)(hv:es[n.toNat]?=some v)(hw:v.wide=some w)(h:Is O is keep k Q ((d,.lptr v 0)::e) st):Is O (⟨some d,none,false,.ixS w x i⟩::is) keep k Q e st :=
 Zq (st':=st) (by simp only[Zd,evalPO,ZD hx,ZD hi,ixSV,XB,if_pos hn,hv,if_pos hw,Option.bind_some,Qe]) h
theorem Zk{a:Opd}{x:AV}{o:Nat}(ha:ZY e a=some (.lptr x o))(hv:Jn x agg o n=some v)(h:Is O is keep k Q ((d,v)::e) st):Is O (⟨some d,none,false,.ld agg n a⟩::is) keep k Q e st :=
 Zq (v:=v) (st':=st) (by simp only[Zd,evalPO,ZD ha,loadP,hv,Option.bind_some,Qe]) h
theorem ZCN{off:Nat}{a:AV}(hx:ZY e x=some a)(hv:Zll off a=some v)(h:Is O is keep k Q ((d,v)::e) st):Is O (⟨some d,none,false,.fadr off x⟩::is) keep k Q e st :=
 Zq (v:=v) (st':=st) (by simp only[Zd,evalPO,ZD hx,hv,Option.bind_some,Qe]) h
theorem Zoo{len:Nat}{i:Opd}{a b:AV}(hx:ZY e x=some a)(hi:ZY e i=some b)(hv:Zue len w b a=some v)(h:Is O is keep k Q ((d,v)::e) st):Is O (⟨some d,none,false,.ixA len w x i⟩::is) keep k Q e st :=
 Zq (v:=v) (st':=st) (by simp only[Zd,evalPO,ZD hx,ZD hi,hv,Option.bind_some,Qe]) h
theorem ZqO{lo hi:Option Opd}{r:Nat}(hx:ZY e x=some (.lit es))(hh:Jy es.length es.length (ZGo e hi)=some r)(hl:Jy r 0 (ZGo e lo)=some l)(hw:JH w es=true)(h:Is O is keep k Q ((d,.lit ((es.drop l).take (r-l)))::e) st):Is O (⟨some d,none,false,.slc w x lo hi⟩::is) keep k Q e st :=
 Zq (st':=st) (by simp only[Zd,evalPO,ZD hx,slcV,hh,hl,if_pos hw,Option.bind_some,Qe]) h
theorem XP{y:Opd}{n:Int}(hx:ZY e x=some (.lit es))(hy:ZY e y=some (.int .i64 n))(hn:0<=n/\n<=es.length)(hw:JH w es=true)(h:Is O is keep k Q ((d,.lit (es.take n.toNat))::e) st):Is O (⟨some d,none,false,.slc w x none (some y)⟩::is) keep k Q e st:=by
 refine ZqO (r:=n.toNat) (l:=0) hx ?_ Y hw (by simpa using h)
 simp only[ZGo,ZD hy,Jy,if_pos hn]
theorem ZBH{y:Opd}{n:Int}(hx:ZY e x=some (.lit es))(hy:ZY e y=some (.int .i64 n))(hn:0<=n/\n<=es.length)(hw:JH w es=true)(h:Is O is keep k Q ((d,.lit (es.drop n.toNat))::e) st):Is O (⟨some d,none,false,.slc w x (some y) none⟩::is) keep k Q e st:=by
 refine ZqO (r:=es.length) (l:=n.toNat) hx Y ?_ hw ?_
 ·simp only[ZGo,ZD hy,Jy,if_pos hn]
 ·rw[List.take_of_length_le (by simp)];exact h
theorem ZAF{y:Opd}{lv m:Nat}{n:Int}(hx:ZY e x=some (.ref lv ix ver s m))(hy:ZY e y=some (.int .i64 n))(hn:0<=n/\n<=m)(hw:wIs w ver (st.get lv ix)=true)(h:Is O is keep k Q ((d,.ref lv ix ver s n.toNat)::e) st):Is O (⟨some d,none,false,.slc w x none (some y)⟩::is) keep k Q e st :=
 Zq (st':=st) (by simp only[Zd,evalPO,ZD hx,slcV,ZGo,ZD hy,Jy,if_pos hn,if_pos hw,Option.bind_some,Qe];simp) h
theorem ZIh{y:Opd}{lv m:Nat}{n:Int}(hx:ZY e x=some (.ref lv ix ver s m))(hy:ZY e y=some (.int .i64 n))(hn:0<=n/\n<=m)(hw:wIs w ver (st.get lv ix)=true)(h:Is O is keep k Q ((d,.ref lv ix ver (s+n.toNat) (m-n.toNat))::e) st):Is O (⟨some d,none,false,.slc w x (some y) none⟩::is) keep k Q e st :=
 Zq (st':=st) (by simp only[Zd,evalPO,ZD hx,slcV,ZGo,ZD hy,Jy,if_pos hn,if_pos hw,Option.bind_some,Qe]) h
theorem Zjs{ps:List (Nat × Opd)}{qs:List (Nat × AV)}{r:AV × St}(hq:JU e ps=qs)(hf:fillE w z qs=some es)(hb:Zf5 false w st es=some r)(h:Is O is keep k Q ((d,r.1)::e) r.2):Is O (⟨some d,none,false,.bslice false w z ps⟩::is) keep k Q e st :=
 Zq (v:=r.1) (st':=r.2) (by simp only[Zd,evalPO,hq,hf,Option.bind_some];exact hb) h
end
def YS:AV->Option AV
 | .agg cs=>match ZE cs with
  | some r=>some (.agg r)
  | none=>none
 | v=>some v
theorem Yc{r:AV}(h:YS v=some r):v=r:=by
 unfold YS at h
 split at h
 ·split at h
  ·rename_i q hq
   simp only[Option.some.injEq]at h;rw[<- h,Qt hq]
  ·simp at h
 ·simpa using h
section
variable {O:Orc}{k:List Fr}{Q:Qn}{e:Env}{A:List (Bool × List Blk)}{L L':List Blk}{keep:List Nat}{is:List PI}{d:Nat}
theorem ZJ(hx:ZY e x=some v)(hw:v.wide=some w)(hL:Jf (L++[Blk.arr w 0 [v]])=some L')(h:Is O is keep k Q ((d,.ptr A.length L.length 0 0 0)::e) ⟨A,false,L'⟩):Is O (⟨some d,none,false,.box x⟩::is) keep k Q e ⟨A,false,L⟩:=by
 rw[<- QP hL]at h
 exact Zq (v:=.ptr A.length L.length 0 0 0) (st':=⟨A,false,L++[Blk.arr w 0 [v]]⟩) (by simp only[Zd,evalPO,ZD hx,hw,Option.bind_some,St.new_cur,X3]) h
theorem ZQ8(hL:Jf (L++[Blk.arr w 0 []]++[Blk.arr 1 0 [.ref A.length L.length 0 0 0]])=some L')(h:Is O is keep k Q ((d,.ptr A.length (L.length+1) 0 0 0)::e) ⟨A,false,L'⟩):Is O (⟨some d,none,false,.boxnil w⟩::is) keep k Q e ⟨A,false,L⟩:=by
 rw[<- QP hL]at h;refine Zq (v:=.ptr A.length (L.length+1) 0 0 0) (st':=⟨A,false,L++[Blk.arr w 0 []]++[Blk.arr 1 0 [.ref A.length L.length 0 0 0]]⟩) ?_ h;simp only[Zd,evalPO,Option.bind_some,St.new_cur,X3,ZQ1];simp
theorem QN(hL:Jf (L++[Blk.arr w 0 []])=some L')(h:Is O is keep k Q ((d,.ref A.length L.length 0 0 0)::e) ⟨A,false,L'⟩):Is O (⟨some d,none,false,.onil w⟩::is) keep k Q e ⟨A,false,L⟩:=by
 rw[<- QP hL]at h
 exact Zq (v:=.ref A.length L.length 0 0 0) (st':=⟨A,false,L++[Blk.arr w 0 []]⟩) (by simp only[Zd,evalPO,Option.bind_some,St.new_cur,JO]) h
theorem ZTi{bytes:Nat}{z:AV}{l:Opd}{n:Int}(hl:ZY e l=some (.int .i64 n))(hc:ZY e c=some (.int .i64 n))(hn:0<=n/\n<4294967296)(hb:bytes<=4096)(hL:Jf (L++[Blk.arr w 0 (List.replicate n.toNat z)])=some L')(h:Is O is keep k Q ((d,.ref A.length L.length 0 0 n.toNat)::e) ⟨A,false,L'⟩):Is O (⟨some d,none,false,.mkslice w bytes z l c⟩::is) keep k Q e ⟨A,false,L⟩:=by
 rw[<- QP hL]at h
 exact Zq (v:=.ref A.length L.length 0 0 n.toNat) (st':=⟨A,false,L++[Blk.arr w 0 (List.replicate n.toNat z)]⟩) (by simp only[Zd,evalPO,ZD hl,ZD hc,ZiF,if_pos (show 0<=n/\n<=n/\n<4294967296/\bytes<=4096 by omega),St.new_cur,Option.bind_some,JO]) h
theorem ZVG(hL:Jf (L++[Blk.map []])=some L')(h:Is O is keep k Q ((d,.map A.length L.length)::e) ⟨A,false,L'⟩):Is O (⟨some d,none,false,.mkmap⟩::is) keep k Q e ⟨A,false,L⟩:=by
 rw[<- QP hL]at h
 exact Zq (v:=.map A.length L.length) (st':=⟨A,false,L++[Blk.map []]⟩) (by simp only[Zd,evalPO,Option.bind_some,St.new_cur,ZUv]) h
theorem Zvp{ps:List (Nat × Opd)}{qs:List (Nat × AV)}(hq:JU e ps=qs)(hf:fillE w z qs=some es)(he:ZE es=some es')(hL:Jf (L++[Blk.arr w 0 es'])=some L')(h:Is O is keep k Q ((d,.ref A.length L.length 0 0 es'.length)::e) ⟨A,false,L'⟩):Is O (⟨some d,none,false,.bslice true w z ps⟩::is) keep k Q e ⟨A,false,L⟩:=by
 rw[<- QP hL]at h;rw[<- Qt he]at h
 exact Zq (v:=.ref A.length L.length 0 0 es.length) (st':=⟨A,false,L++[Blk.arr w 0 es]⟩) (by simp only[Zd,evalPO,hq,hf,Option.bind_some,Zf5,if_true,St.new_cur,JO]) h
theorem Z1{a:Opd}{lv o:Nat}{x:AV}(ha:ZY e a=some (.ptr lv ix ver i o))(hg:st.get lv ix=some (Blk.arr w ver es))(hx:es[i]?=some x)(hv:Jn x agg o n=some v)
 (h:Is O is keep k Q ((d,v)::e) st):Is O (⟨some d,none,false,.ld agg n a⟩::is) keep k Q e st :=
 Zq (v:=v) (st':=st) (by simp only[Zd,evalPO,ZD ha,loadP,hg,ZGp,if_true,hx,hv,Option.bind_some,Qe]) h
theorem ZB{a:Opd}{o:Nat}{x:AV}(ha:ZY e a=some (.ptr A.length ix ver i o))(hg:L[ix]?=some (Blk.arr w ver es))(hx:es[i]?=some x)(hv:Jn x agg o n=some v)
 (h:Is O is keep k Q ((d,v)::e) ⟨A,false,L⟩):Is O (⟨some d,none,false,.ld agg n a⟩::is) keep k Q e ⟨A,false,L⟩ :=
 Z1 ha (by rw[St.get_cur,hg];rfl) hx hv h
theorem JA{i:Opd}{lv m:Nat}{n:Int}(hx:ZY e x=some (.ref lv ix ver s m))(hi:ZY e i=some (.int .i64 n))(hn:0<=n/\n<m)(hw:wIs w ver (st.get lv ix)=true)(h:Is O is keep k Q ((d,.ptr lv ix ver (s+n.toNat) 0)::e) st):Is O (⟨some d,none,false,.ixS w x i⟩::is) keep k Q e st :=
 Zq (st':=st) (by simp only[Zd,evalPO,ZD hx,ZD hi,ixSV,XB,if_pos hn,if_pos hw,Option.bind_some,Qe]) h
theorem Xe{i:Opd}{m:Nat}{n:Int}(hx:ZY e x=some (.ref A.length ix ver s m))(hi:ZY e i=some (.int .i64 n))(hn:0<=n/\n<m)(hg:L[ix]?=some (Blk.arr w ver es))(h:Is O is keep k Q ((d,.ptr A.length ix ver (s+n.toNat) 0)::e) ⟨A,false,L⟩):Is O (⟨some d,none,false,.ixS w x i⟩::is) keep k Q e ⟨A,false,L⟩ :=
 JA hx hi hn (by rw[St.get_cur,hg];simp[wIs,vis]) h
theorem ZtV{a:Opd}{o:Nat}{y:AV}(ha:ZY e a=some (.ptr A.length ix ver i o))(hx:ZY e x=some v)(hg:L[ix]?=some (Blk.arr w ver es))(hy:es[i]?=some y)
 (hs:Zb QK (A.length+1) ⟨A,false,L⟩ v=some (v,⟨A,false,L⟩)) (hv:(Q7 w y o n v).bind YS=some v') (hL:Jf (L.set ix (Blk.arr w ver (es.set i v')))=some L') (h:Is O is keep k Q e ⟨A,false,L'⟩):Is O (⟨none,none,false,.st n a x⟩::is) keep k Q e ⟨A,false,L⟩:=by
 have hlt:ix<L.length:=by
  rw[List.getElem?_eq_some_iff]at hg;exact hg.1
 rw[<- QP hL]at h
 have hv':Q7 w y o n v=some v':=by
  simp only[Option.bind_eq_some_iff]at hv;obtain⟨u,h1,h2⟩:=hv;rw[h1,Yc h2]
 refine Zq (od:=none) (v:=.undef) (st':=⟨A,false,L.set ix (Blk.arr w ver (es.set i v'))⟩) ?_ h;simp only[Zd,evalPO,ZD ha,ZD hx,ZA7,hs,Option.bind_some,ZGM,St.get_cur,hg,vis,Xp,if_true,hy,hv',St.put,if_false,jB,if_pos hlt,ZCI]
theorem Q1{a:Opd}{o:Nat}{y:AV}(hg:L[ix]?=some (Blk.arr w ver es))(ha:ZY e a=some (.ptr A.length ix ver i o))(hx:ZY e x=some v)(hy:es[i]?=some y)
 (hs:Zb QK (A.length+1) ⟨A,false,L⟩ v=some (v,⟨A,false,L⟩)) (hv:(Q7 w y o n v).bind YS=some v') (h:Is O is keep k Q e ⟨A,false,L.set ix (Blk.arr w ver (es.set i v'))⟩):Is O (⟨none,none,false,.st n a x⟩::is) keep k Q e ⟨A,false,L⟩:=by
 have hlt:ix<L.length:=by
  rw[List.getElem?_eq_some_iff]at hg;exact hg.1
 have hv':Q7 w y o n v=some v':=by
  simp only[Option.bind_eq_some_iff]at hv;obtain⟨u,h1,h2⟩:=hv;rw[h1,Yc h2]
 refine Zq (od:=none) (v:=.undef) (st':=⟨A,false,L.set ix (Blk.arr w ver (es.set i v'))⟩) ?_ h;simp only[Zd,evalPO,ZD ha,ZD hx,ZA7,hs,Option.bind_some,ZGM,St.get_cur,hg,vis,Xp,if_true,hy,hv',St.put,if_false,jB,if_pos hlt,ZCI]
theorem Ze{a:Opd}{o:Nat}{y:AV}(ha:ZY e a=some (.ptr A.length ix ver 0 o))(hx:ZY e x=some v)(hg:L[ix]?=some (Blk.arr w ver [y]))
 (hs:Zb QK (A.length+1) ⟨A,false,L⟩ v=some (v,⟨A,false,L⟩)) (hv:(Q7 w y o n v).bind YS=some v') (hL:Jf (L.set ix (Blk.arr w ver [v']))=some L') (h:Is O is keep k Q e ⟨A,false,L'⟩):Is O (⟨none,none,false,.st n a x⟩::is) keep k Q e ⟨A,false,L⟩ :=
 ZtV ha hx hg rfl hs hv hL h
theorem ZqP{bytes:Nat}{s:Opd}{ys:LV}{vx:AV}(hs:ZY e s=some (.ref A.length ix ver 0 n))(hx:ZY e x=some vx)(hg:L[ix]?=some (Blk.arr w ver es))(hy:elems ⟨A,false,L⟩ vx=some ys)(hb:n=es.length)
 (hl:es.length+ys.length<4294967296) (hw:bytes<=4096) (hsm:JH w ys=true) (hm:mapSt (Zb QK (A.length+1)) ⟨A,false,L⟩ ys=some (ys,⟨A,false,L⟩))
 (hL:Jf (L.set ix (Blk.arr w (ver+1) (es++ys)))=some L') (h:Is O is keep k Q ((d,.ref A.length ix (ver+1) 0 (n+ys.length))::e) ⟨A,false,L'⟩):Is O (⟨some d,none,false,.app w bytes s x⟩::is) keep k Q e ⟨A,false,L⟩:=by
 have hlt:ix<L.length:=by
  rw[List.getElem?_eq_some_iff]at hg;exact hg.1
 rw[<- QP hL]at h;subst hb;refine Zq (v:=.ref A.length ix (ver+1) 0 (es.length+ys.length)) (st':=⟨A,false,L.set ix (Blk.arr w (ver+1) (es++ys))⟩) ?_ h
 simp only[Zd,evalPO,ZD hs,ZD hx,hy,Option.bind_some,Q4,if_pos hsm,hm,Zf4,St.get_cur,hg,vis,ZRL,true_and,if_pos (show 0+es.length<=es.length/\es.length+ys.length<4294967296/\bytes<=4096 by omega),St.put,if_true,if_false,jB,if_pos hlt,List.drop_zero,List.take_length]
theorem X5{bytes:Nat}{s:Opd}{y:AV}(hs:ZY e s=some (.ref A.length ix ver 0 n))(hx:ZY e x=some (.lit [y]))(hg:L[ix]?=some (Blk.arr w ver es))(hb:n=es.length)
 (hl:es.length+1<4294967296) (hw:bytes<=4096) (hsm:y.wide=some w) (hm:Zb QK (A.length+1) ⟨A,false,L⟩ y=some (y,⟨A,false,L⟩))
 (hL:Jf (L.set ix (Blk.arr w (ver+1) (es++[y])))=some L') (h:Is O is keep k Q ((d,.ref A.length ix (ver+1) 0 (n+1))::e) ⟨A,false,L'⟩):Is O (⟨some d,none,false,.app w bytes s x⟩::is) keep k Q e ⟨A,false,L⟩ :=
 ZqP (ys:=[y]) hs hx hg rfl hb hl hw (by simp[JH,hsm]) (by simp only[mapSt,hm,Option.bind_some,ZBv]) hL h
theorem Zb5{T:Tab}{f:Opd}{args:List Opd}{P:AV->St->Prop}(hf:ZY e f=some (.func (.func g) first cap))(ha:ZF0 e args=some vs)(hw:ZE (ZH (first++vs++cap))=some ws)
 (hc:Sp T g ws st P) (h:∀v st',P v st'->Is (S T) is keep k Q ((d,v)::e) st'):Is (S T) (⟨some d,none,false,.call .norm f args⟩::is) keep k Q e st:=by
 obtain⟨v,st',h1,h2⟩:=hc;refine Zq (v:=v) (st':=st') ?_ (h v st' h2);simp only[Zd,ZD hf,YG ha,Xj,Qt hw,Z4,h1]
theorem ZA{T:Tab}{f:Opd}{args:List Opd}(hf:ZY e f=some (.func (.func g) first cap))(ha:ZF0 e args=some vs)(hw:ZE (ZH (first++vs++cap))=some ws)
 (hc:S T g ws st=some (v,st')) (h:Is (S T) is keep k Q ((d,v)::e) st'):Is (S T) (⟨some d,none,false,.call .norm f args⟩::is) keep k Q e st:=by
 refine Zq (v:=v) (st':=st') ?_ h;simp only[Zd,ZD hf,YG ha,Xj,Qt hw,Z4,hc]
theorem Zw{T:Tab}{f:Opd}{args:List Opd}(hf:ZY e f=some (.func (.func g) first cap))(ha:ZF0 e args=some vs)(hw:ZE (ZH (first++vs++cap))=some ws)
 (hc:S T g ws st.allRo=some (v,st')) (h:Is (S T) is keep k Q ((d,v)::e) st):Is (S T) (⟨some d,none,false,.call .pure f args⟩::is) keep k Q e st:=by
 refine Zq (v:=v) (st':=st) ?_ h;simp only[Zd,ZD hf,YG ha,Xj,Qt hw,Z4,hc,Option.bind_some,Z8]
theorem YT{T:Tab}{f:Opd}{args:List Opd}(hf:ZY e f=some (.func (.func g) first cap))(ha:ZF0 e args=some vs)(hw:ZE (ZH (first++vs++cap))=some ws)
 (hc:Z4 (S T) .inner g ws st=some (v,st')) (h:Is (S T) is keep k Q ((d,v)::e) st'):Is (S T) (⟨some d,none,false,.call .inner f args⟩::is) keep k Q e st:=by
 refine Zq (v:=v) (st':=st') ?_ h;simp only[Zd,ZD hf,YG ha,Xj,Qt hw,hc]
theorem ZVH{T:Tab}{f:Opd}{args:List Opd}(hf:ZY e f=some (.func (.func g) first cap))(ha:ZF0 e args=some vs)(hw:ZE (ZH (first++vs++cap))=some ws)
 (hc:Z4 (S T) .move g ws st=some (v,st')) (h:Is (S T) is keep k Q ((d,v)::e) st'):Is (S T) (⟨some d,none,false,.call .move f args⟩::is) keep k Q e st:=by
 refine Zq (v:=v) (st':=st') ?_ h;simp only[Zd,ZD hf,YG ha,Xj,Qt hw,hc]
theorem ZtW{T:Tab}{L0 L1:List Blk}(hc:S T g ws ⟨A0++[(false,L0)],false,[]⟩=some (.ref (A0++[(false,L0)]).length ix ver 0 es.length,⟨A0++[(false,L0)],false,L1⟩))
 (hL:L1[ix]?=some (.arr w ver es)) (him:es.all (imm 6)=true):Z4 (S T) .move g ws ⟨A0,false,L0⟩=some (.ref A0.length L0.length 0 0 es.length,⟨A0,false,L0++[.arr w 0 es]⟩):=by
 simp only[Z4,St.push,hc,Option.bind_some,ZAC,XL,if_true,hL,ZTW,Yd,ZTV,jB,false_or,List.drop_zero,List.take_length,him]
 simp
theorem ZGx{T:Tab}{L1 L2:List Blk}(hc:S T g ws ⟨st.A++[(st.ro,st.L)],false,[]⟩=some (v,⟨st.A++[(st.ro,st.L)],false,L1⟩))
 (hs:Zb QK (st.A++[(st.ro,st.L)]).length ⟨st.A++[(st.ro,st.L)],false,L1⟩ v=some (v',⟨st.A++[(st.ro,st.L)],ro,L2⟩)):Z4 (S T) .inner g ws st=some (v',st):=by
 simp only[Z4,St.push,hc,Option.bind_some,ZOB,ZLD];rw[hs];simp only[Option.bind_some,Y5,Yd,ZcN]
theorem ZXL{T:Tab}{res:List RV}{st2:St}(hT:T f=some (.pf ⟨true,body,res⟩))
 (h:Ru (S T) body [] (fun x e st'=>Jp true res (x,e,st')=some (v,st2)) (YK 0 args) st):S T f args st=some (v,st2):=by
 obtain⟨⟨x,e',st',h1,h2⟩⟩:=h;refine Zqr hT ?_;simp only[Jh,if_true,h1,Option.bind_some];exact h2
theorem Zb6{T:Tab}{res:List RV}{P:AV->St->Prop}(hT:T f=some (.pf ⟨true,body,res⟩))
 (h:Ru (S T) body [] (fun x e st'=>∃v st'',Jp true res (x,e,st')=some (v,st'')/\P v st'') (YK 0 args) st):Sp T f args st P:=by
 obtain⟨⟨x,e',st',h1,v,st'',h2,h3⟩⟩:=h;refine⟨v,st'',Zqr hT ?_,h3⟩;simp only[Jh,if_true,h1,Option.bind_some];exact h2
theorem ZqQ{T:Tab}{res:List RV}{P:AV->St->Prop}(hT:T f=some (.pf ⟨false,body,res⟩))
 (h:Ru (S T) body [] (fun x e st'=>∃v st'',Jp false res (x,e,st')=some (v,st'')/\P v st'') (YK 0 args) ⟨st.A++[(st.ro,st.L)],false,[]⟩):Sp T f args st P:=by
 obtain⟨⟨x,e',st',h1,v,st'',h2,h3⟩⟩:=h;refine⟨v,st'',Zqr hT ?_,h3⟩;simp only[Jh,jB,if_false,St.push,h1,Option.bind_some];exact h2
theorem Zj{T:Tab}{res:List RV}(hT:T f=some (.pf ⟨false,body,res⟩))
 (h:∀A,A=st.A++[(st.ro,st.L)]->Ru (S T) body [] (fun x e st'=>Jp false res (x,e,st')=some (v,st)) (YK 0 args) ⟨A,false,[]⟩):S T f args st=some (v,st):=by
 obtain⟨⟨x,e',st',h1,h2⟩⟩:=h _ rfl;refine Zqr hT ?_;simp only[Jh,jB,if_false,St.push,h1,Option.bind_some];exact h2
theorem ZGP{r:Bool × List Blk}{L:List Blk}{res:List RV}{x:Ex}{L':List Blk}(hA:A=A0++[r])(hx:x=.norm\/x=.ret)(hr:Qo ⟨A,false,L⟩ e res=some v)
 (hs:Zb QK A.length ⟨A,false,L⟩ v=some (v',⟨A,ro,L'⟩)) (hst:st=⟨A0,r.1,r.2⟩):Jp false res (x,e,⟨A,false,L⟩)=some (v',st):=by
 have:ZLD ⟨A,false,L⟩ v=some (v',st):=by
  unfold ZLD
  rw[show (⟨A,false,L⟩:St).A.length=A.length from rfl,hs]
  simp only[Option.bind_some,Y5];rw[hA,Yd,hst];rfl
 rcases hx with rfl|rfl<;>simp only[Jp,hr,Option.bind_some,jB,if_false,this]
end
theorem ZS{L:List Blk}(hA:A=st.A++[(st.ro,st.L)]){lv:Nat}{b:Blk}(h:st.get lv ix=some b):St.get ⟨A,ro,L⟩ lv ix=some b:=by
 have:=St.get_le h
 rw[hA,St.get_push,if_neg (by omega)];exact h
theorem QY{O:Orc}{k:List Fr}{Q:Qn}{keep:List Nat}{d:Nat}{α:Type}{f:α->AV}{l:List α}{i:Opd}{n:Int}(hx:ZY e x=some (.lit (l.map f)))(hi:ZY e i=some (.int .i64 n))(hn:0<=n/\n<l.length)(hw:∀a,(f a).wide=some w)
 (h:∀a,l[n.toNat]?=some a->Is O is keep k Q ((d,.lptr (f a) 0)::e) st):Is O (⟨some d,none,false,.ixS w x i⟩::is) keep k Q e st:=by
 have hlt:n.toNat<l.length:=by omega
 refine ZXK hx hi (by simpa using hn) (v:=f l[n.toNat]) (by simp[hlt]) (hw _) (h _ ?_)
 simp[hlt]
theorem ZON{T:Tab}{k:List Fr}{Q:Qn}{keep:List Nat}{d:Nat}{f:Opd}{args:List Opd}[Decidable p](hf:ZY e f=some (.func (.func g) first cap))(ha:ZF0 e args=some vs)(hw:ZE (ZH (first++vs++cap))=some ws)
 (hc:S T g ws st=some (.bool (decide p),st')) (hT:p->Is (S T) is keep k Q ((d,.bool true)::e) st') (hF:¬ p->Is (S T) is keep k Q ((d,.bool false)::e) st'):Is (S T) (⟨some d,none,false,.call .norm f args⟩::is) keep k Q e st:=by
 by_cases q:p
 ·rw[decide_eq_true q]at hc;exact ZA hf ha hw hc (hT q)
 ·rw[decide_eq_false q]at hc;exact ZA hf ha hw hc (hF q)
def ZVI(st:St)(e:Env):List RV->Option LV
 | []=>some []
 | .s t::rs=>match JV e t with
  | some v=>match ZVI st e rs with
   | some r=>some (v::r)
   | none=>none
  | none=>none
 | .c t agg n::rs=>match JV e t with
  | some a=>match loadP st agg n a with
   | some v=>match ZVI st e rs with
    | some r=>some (v::r)
    | none=>none
   | none=>none
  | none=>none
theorem ZIi{st:St}{e:Env}:∀ {rs:List RV} {vs:LV},ZVI st e rs=some vs->ZC8 st e rs=some vs
 | [],vs,h=>h
 | .s t::rs,vs,h=>by
  simp only[ZVI]at h
  split at h
  ·rename_i v hv
   split at h
   ·rename_i r hr
    simp only[Option.some.injEq]at h;simp only[ZC8,ZCJ,Option.bind_some,ZIi hr,Option.map_some,Z9 hv,h]
   ·simp at h
  ·simp at h
 | .c t agg n::rs,vs,h=>by
  simp only[ZVI]at h
  split at h
  ·rename_i a ha
   split at h
   ·rename_i v hv
    split at h
    ·rename_i r hr
     simp only[Option.some.injEq]at h;simp only[ZC8,ZCJ,Z9 ha,hv,Option.bind_some,ZIi hr,Option.map_some,h]
    ·simp at h
   ·simp at h
  ·simp at h
def ZtX:LV->Option AV
 | [v]=>some v
 | vs=>some (.tup vs)
theorem ZXM(h:ZtX vs=some v):ZGq vs=v:=by
 unfold ZtX at h
 split at h
 ·simpa [ZGq] using h
 ·rename_i hn
  simp only[Option.some.injEq]at h;subst h;unfold ZGq
  split
  ·rename_i u
   exact absurd Y (hn u)
  ·rfl
def ZdB:AV->Option AV
 | .agg cs=>match ZE cs with
  | some r=>some (.agg r)
  | none=>none
 | .tup cs=>match ZE cs with
  | some r=>some (.tup r)
  | none=>none
 | v=>some v
theorem ZOO{r:AV}(h:ZdB v=some r):v=r:=by
 unfold ZdB at h
 split at h
 ·split at h
  ·rename_i q hq
   simp only[Option.some.injEq]at h;rw[<- h,Qt hq]
  ·simp at h
 ·split at h
  ·rename_i q hq
   simp only[Option.some.injEq]at h;rw[<- h,Qt hq]
  ·simp at h
 ·simpa using h
theorem ZO{L:List Blk}{res:List RV}{x:Ex}{w:AV}(hA:A=st.A++[(st.ro,st.L)])(hx:x=.norm\/x=.ret)(hr:ZVI ⟨A,false,L⟩ e res=some vs)(ht:ZtX vs=some v)
 (hs:Zb QK A.length ⟨A,false,L⟩ v=some (v',⟨A,ro,L'⟩)) (hw:ZdB v'=some w) (hu:w=u):Jp false res (x,e,⟨A,false,L⟩)=some (u,st):=by
 subst hu;rw[<- ZOO hw];refine ZGP hA hx ?_ hs Y;simp only[Qo,ZIi hr,Option.map_some,ZXM ht]
theorem YA{res:List RV}{x:Ex}{w:AV}(hx:x=.norm\/x=.ret)(hr:ZVI st e res=some vs)(ht:ZtX vs=some v)(hw:ZdB v=some w)(hu:w=u):Jp true res (x,e,st)=some (u,st):=by
 subst hu;rw[<- ZOO hw]
 have:Qo st e res=some v:=by simp only[Qo,ZIi hr,Option.map_some,ZXM ht]
 rcases hx with rfl|rfl<;>simp only[Jp,this,Option.bind_some,if_true,Qe]
theorem ZdC{L:List Blk}{m:Nat}(hg:L[ix]?=some (.arr w ver es))(hn:n=es.length)(he:∀v,v∈es->imm m v=true):
 Zb (m+1) A.length ⟨A,false,L⟩ (.ref A.length ix ver 0 n)=some (.lit es,⟨A,false,L.set ix .dead⟩):=by
 subst hn
 simp only[Zb,Nat.lt_irrefl,if_false,and_self,if_true,hg,ZFG,Nat.zero_add,Nat.le_refl,List.drop_zero,List.take_length,Option.bind_some,Yw (fun u hu=>ZDE (he u hu)),ZjK]
theorem Ziq{m b:Nat}{st1:St}{x x':AV}{ys:LV}(hx:Zb m b st x=some (x',st1))(hy:∀y,y∈ys->imm m y=true):Zb (m+1) b st (.tup (x::ys))=some (.tup (x'::ys),st1):=by
 simp only[Zb,mapSt,hx,Option.bind_some,Yw (fun u hu=>ZDE (hy u hu)),ZBv,ZcE]
theorem Qu{L:List Blk}{res:List RV}{x:Ex}(hA:A=st.A++[(st.ro,st.L)])(hx:x=.norm\/x=.ret)(hr:ZVI ⟨A,false,L⟩ e res=some [.ref A.length ix ver 0 n])
 (hg:L[ix]?=some (.arr w ver es)) (hn:n=es.length) (he:∀v,v∈es->imm 5 v=true) (hu:.lit es=u):Jp false res (x,e,⟨A,false,L⟩)=some (u,st) :=
 ZO hA hx hr rfl (ZdC hg hn he) rfl hu
theorem ZdD{L:List Blk}{res:List RV}{x:Ex}{y:AV}(hA:A=st.A++[(st.ro,st.L)])(hx:x=.norm\/x=.ret)(hr:ZVI ⟨A,false,L⟩ e res=some [.ref A.length ix ver 0 n,y])
 (hg:L[ix]?=some (.arr w ver es)) (hn:n=es.length) (he:∀v,v∈es->imm 4 v=true) (hy:imm 5 y=true) (hu:.tup [.lit es,y]=u):Jp false res (x,e,⟨A,false,L⟩)=some (u,st) :=
 ZO hA hx hr rfl (Ziq (ZdC hg hn he) (by intro z hz;simp only[List.mem_singleton]at hz;rw[hz];exact hy)) Y hu
theorem ZAd{r:Bool × List Blk}{L:List Blk}{res:List RV}{x:Ex}[Decidable p]{b:Bool}(hA:A=A0++[r])(hx:x=.norm\/x=.ret)(hr:Qo ⟨A,false,L⟩ e res=some (.bool b))
 (hst:st=⟨A0,r.1,r.2⟩) (hb:b=decide p):Jp false res (x,e,⟨A,false,L⟩)=some (.bool (decide p),st):=by
 subst hb;exact ZGP hA hx hr Y hst
def ZdE(L:List Blk)(e:Env):List RV->Option (LV × List Nat)
 | []=>some ([],[])
 | .s t::rs=>match JV e t with
  | some v=>match ZdE L e rs with
   | some r=>some (v::r.1,r.2)
   | none=>none
  | none=>none
 | .c t agg n::rs=>match JV e t with
  | some (.ptr lv ix ver i o)=>match ZGp agg n ver i o (vis L[ix]?) with
   | some v=>match ZdE L e rs with
    | some r=>some (v::r.1,lv::r.2)
    | none=>none
   | none=>none
  | _=>none
theorem ZTj{A:List (Bool × List Blk)}{ro:Bool}{L:List Blk}{e:Env}:∀ {rs:List RV} {r:LV × List Nat},ZdE L e rs=some r->(∀l∈r.2,l=A.length)->ZC8 ⟨A,ro,L⟩ e rs=some r.1
 | [],r,h,_=>by simp only[ZdE,Option.some.injEq]at h;subst h;rfl
 | .s t::rs,r,h,hl=>by
  simp only[ZdE]at h
  split at h
  ·rename_i v hv
   split at h
   ·rename_i q hq
    simp only[Option.some.injEq]at h;subst h
    have:=ZTj (A:=A) (ro:=ro) hq hl
    simp only[ZC8,ZCJ,Option.bind_some,this,Option.map_some,Z9 hv]
   ·simp at h
  ·simp at h
 | .c t agg n::rs,r,h,hl=>by
  simp only[ZdE]at h
  split at h
  ·rename_i lv ix ver i o hv
   split at h
   ·rename_i v hb
    split at h
    ·rename_i q hq
     simp only[Option.some.injEq]at h;subst h
     have h1:lv=A.length:=hl lv (by simp)
     have:=ZTj (A:=A) (ro:=ro) hq (fun l hm=>hl l (by simp[hm]))
     subst h1;simp only[ZC8,ZCJ,Z9 hv,loadP,St.get_cur,hb,Option.bind_some,this,Option.map_some]
    ·simp at h
   ·simp at h
  ·simp at h
theorem Zvq{k a:Nat}{l:List Nat}(h:l=List.replicate k a):∀x∈l,x=a:=by
 intro x hx;rw[h]at hx;exact List.eq_of_mem_replicate hx
theorem JL{L:List Blk}{res:List RV}{x:Ex}{r:LV × List Nat}{w:AV}(hA:A=st.A++[(st.ro,st.L)])(hx:x=.norm\/x=.ret)(hr:ZdE L e res=some r)(hl:r.2=List.replicate r.2.length A.length)(ht:ZtX r.1=some v)
 (hs:Zb QK A.length ⟨A,false,L⟩ v=some (v',⟨A,ro,L'⟩)) (hw:ZdB v'=some w) (hu:w=u):Jp false res (x,e,⟨A,false,L⟩)=some (u,st):=by
 subst hu;rw[<- ZOO hw];refine ZGP hA hx ?_ hs Y;simp only[Qo,ZTj hr (Zvq hl),Option.map_some,ZXM ht]
def Zf8(r:Bool × List Blk)(ix:Nat)(b:Blk):Bool × List Blk:=(r.1,r.2.set ix b)
def St.upd(st:St)(lv ix:Nat)(b:Blk):St :=
 if lv=st.A.length then ⟨st.A,st.ro,st.L.set ix b⟩ else ⟨st.A.set lv (Zf8 (st.A[lv]?.getD (false,[])) ix b),st.ro,st.L⟩
def St.wr(st:St)(lv:Nat):Prop:=if lv=st.A.length then st.ro=false else ∃r,st.A[lv]?=some (false,r)
theorem ZdF{L:List Blk}{c:Blk}(h:vis L[ix]?=some c):ix<L.length:=by
 rcases Nat.lt_or_ge ix L.length with q|q
 ·exact q
 ·rw[List.getElem?_eq_none q]at h;simp[vis]at h
theorem St.put_upd{lv:Nat}{b c:Blk}(hw:st.wr lv)(hg:st.get lv ix=some c):st.put lv ix b=some (st.upd lv ix b):=by
 unfold St.wr at hw;unfold St.put St.upd
 by_cases h:lv=st.A.length
 ·rw[if_pos h]at hw ⊢
  rw[if_pos h];rw[St.get,if_pos h]at hg;have hlt:=ZdF hg
  rw[if_neg (by rw[hw];simp),if_pos hlt,hw]
 ·rw[if_neg h]at hw ⊢
  rw[if_neg h];obtain⟨r,hr⟩:=hw;rw[St.get,if_neg h,hr]at hg;simp only[Option.bind_some]at hg;have hlt:=ZdF hg;rw[hr];simp only[ZIR,if_pos hlt,Option.getD_some,Zf8]
theorem St.get_upd{lv lv' ix':Nat}{b c:Blk}(hg:st.get lv ix=some c)(hb:vis (some b)=some b):(st.upd lv ix b).get lv' ix'=if lv'=lv/\ix'=ix then some b else st.get lv' ix':=by
 unfold St.upd
 by_cases h:lv=st.A.length
 ·rw[if_pos h]
  rw[St.get,if_pos h]at hg;have hlt:=ZdF hg
  by_cases h':lv'=st.A.length
  ·simp only[St.get,if_pos h']
   rw[List.getElem?_set]
   by_cases hi:ix=ix'
   ·subst hi;rw[if_pos rfl,if_pos hlt,if_pos ⟨h'.trans h.symm,rfl⟩];exact hb
   ·rw[if_neg hi,if_neg (fun q=>hi q.2.symm)]
  ·simp only[St.get,if_neg h']
   rw[if_neg (fun q=>h' (q.1.trans h))]
 ·rw[if_neg h]
  rw[St.get,if_neg h]at hg
  by_cases h':lv'=st.A.length
  ·simp only[St.get,List.length_set,if_pos h']
   rw[if_neg (fun q=>h (q.1.symm.trans h'))]
  ·simp only[St.get,List.length_set,if_neg h',List.getElem?_set]
   cases hr:st.A[lv]? with
   | none=>rw[hr]at hg;simp at hg
   | some r =>
    have hll:=(List.getElem?_eq_some_iff.1 hr).1;rw[hr]at hg;simp only[Option.bind_some]at hg;have hlt:=ZdF hg
    by_cases hl:lv=lv'
    ·subst hl
     simp only[if_true,if_pos hll,Option.getD_some,Option.bind_some,Zf8,List.getElem?_set,true_and,hr]
     by_cases hi:ix=ix'
     ·subst hi;simp[hlt,hb]
     ·simp only[if_neg hi,if_neg (show ¬ (ix'=ix) from fun q=>hi q.symm)]
    ·rw[if_neg (show ¬ (lv'=lv/\ix'=ix) from fun q=>hl q.1.symm),if_neg hl]
theorem St.upd_A{lv:Nat}{b:Blk}:(st.upd lv ix b).A.length=st.A.length:=by
 unfold St.upd;split<;>simp
theorem St.wr_upd{lv lv':Nat}{b:Blk}(hw:st.wr lv)(h:st.wr lv'):(st.upd lv ix b).wr lv':=by
 unfold St.wr at *
 rw[St.upd_A];unfold St.upd
 by_cases h1:lv=st.A.length
 ·simp only[if_pos h1];exact h
 ·simp only[if_neg h1]
  by_cases h':lv'=st.A.length
  ·simp only[if_pos h']at h ⊢;exact h
  ·rw[if_neg h']at h ⊢
   rw[if_neg h1]at hw;obtain⟨r,hr⟩:=h;obtain⟨r2,hr2⟩:=hw;rw[List.getElem?_set]
   by_cases hl:lv=lv'
   ·subst hl
    rw[if_pos rfl,if_pos (List.getElem?_eq_some_iff.1 hr).1,hr];exact⟨_,rfl⟩
   ·rw[if_neg hl];exact⟨r,hr⟩
theorem YU{L:List Blk}(hA:A=st.A++[(st.ro,st.L)]){lv:Nat}{b:Blk}(hl:lv<=st.A.length):
 St.upd ⟨A,ro,L⟩ lv ix b=⟨(st.upd lv ix b).A++[((st.upd lv ix b).ro,(st.upd lv ix b).L)],ro,L⟩:=by
 subst hA;unfold St.upd;simp only[List.length_append,List.length_singleton]
 rw[if_neg (by omega)]
 by_cases h:lv=st.A.length
 ·rw[if_pos h]
  subst h;simp only[St.mk.injEq,and_true];rw[List.getElem?_append_right (Nat.le_refl _)]
  simp[Zf8]
 ·rw[if_neg h]
  simp only[St.mk.injEq,and_true]
  rw[jL (by omega),List.set_append_left _ _ (by omega)]
theorem ZAe{L:List Blk}(hA:A=st.A++[(st.ro,st.L)]){lv:Nat}(hl:lv<=st.A.length)(h:st.wr lv):St.wr ⟨A,ro,L⟩ lv:=by
 subst hA
 unfold St.wr at *
 simp only[List.length_append,List.length_singleton]
 rw[if_neg (by omega)]
 by_cases q:lv=st.A.length
 ·rw[if_pos q]at h
  subst q
  exact⟨st.L,by simp[h]⟩
 ·rw[if_neg q]at h
  obtain⟨r,hr⟩:=h
  exact⟨r,by rw[jL (by omega)];exact hr⟩
def ZTk(f:AV->Option AV):LV->Option LV
 | []=>some []
 | v::vs=>match f v with
  | some u=>match ZTk f vs with
   | some r=>some (u::r)
   | none=>none
  | none=>none
def fcV:Nat->AV->Option AV
 | 0,v=>some v
 | n+1,v=>match v with
  | .agg cs=>match ZTk (fcV n) cs with
   | some r=>some (.agg r)
   | none=>none
  | .tup cs=>match ZTk (fcV n) cs with
   | some r=>some (.tup r)
   | none=>none
  | .lit cs=>match ZTk (fcV n) cs with
   | some r=>some (.lit r)
   | none=>none
  | v=>some v
theorem ZF1{f:AV->Option AV}(hf:∀v r,f v=some r->v=r):∀ {l r:LV},ZTk f l=some r->l=r
 | [],r,h=>by simpa [ZTk] using h
 | v::vs,r,h=>by
  simp only[ZTk]at h
  split at h
  ·rename_i u hu
   split at h
   ·rename_i q hq
    simp only[Option.some.injEq]at h;rw[<- h,<- hf v u hu,ZF1 hf hq]
   ·simp at h
  ·simp at h
theorem ZVJ:∀ {n:Nat} {v r:AV},fcV n v=some r->v=r
 | 0,v,r,h=>by simpa [fcV] using h
 | n+1,v,r,h=>by
  cases v<;>simp only[fcV]at h
  case agg cs =>
   split at h
   ·rename_i q hq
    simp only[Option.some.injEq]at h
    rw[<- h,ZF1 (fun v r h=>ZVJ h) hq]
   ·simp at h
  case tup cs =>
   split at h
   ·rename_i q hq
    simp only[Option.some.injEq]at h
    rw[<- h,ZF1 (fun v r h=>ZVJ h) hq]
   ·simp at h
  case lit cs =>
   split at h
   ·rename_i q hq
    simp only[Option.some.injEq]at h
    rw[<- h,ZF1 (fun v r h=>ZVJ h) hq]
   ·simp at h
  all_goals simpa using h
def ZVK(e:Env):List (Nat × Nat × Opd)->Option (List (Nat × Nat × AV))
 | []=>some []
 | (a,b,o)::ps=>match ZY e o with
  | some v=>match ZVK e ps with
   | some r=>some ((a,b,v)::r)
   | none=>none
  | none=>none
def ZF2(e:Env):List (Nat × Opd)->Option (List (Nat × AV))
 | []=>some []
 | (a,o)::ps=>match ZY e o with
  | some v=>match ZF2 e ps with
   | some r=>some ((a,v)::r)
   | none=>none
  | none=>none
theorem ZVL{e:Env}:∀ {ps:List (Nat × Nat × Opd)} {r:List (Nat × Nat × AV)},ZVK e ps=some r->Xq e ps=r
 | [],r,h=>by simp only[ZVK,Option.some.injEq]at h;rw[<- h];rfl
 | (a,b,o)::ps,r,h=>by
  simp only[ZVK]at h
  split at h
  ·rename_i v hv
   split at h
   ·rename_i q hq
    simp only[Option.some.injEq]at h;rw[<- h,Xq,ZD hv,ZVL hq]
   ·simp at h
  ·simp at h
theorem ZIj{e:Env}:∀ {ps:List (Nat × Opd)} {r:List (Nat × AV)},ZF2 e ps=some r->JU e ps=r
 | [],r,h=>by simp only[ZF2,Option.some.injEq]at h;rw[<- h];rfl
 | (a,o)::ps,r,h=>by
  simp only[ZF2]at h
  split at h
  ·rename_i v hv
   split at h
   ·rename_i q hq
    simp only[Option.some.injEq]at h;rw[<- h,JU,ZD hv,ZIj hq]
   ·simp at h
  ·simp at h
theorem Qv{b lv:Nat}(st:St)(h:lv<b):Zb QK b st (.ref lv ix ver s n)=some (.ref lv ix ver s n,st):=by
 simp only[Zb,QK,if_pos h]
theorem Zir{L:List Blk}{m:Nat}(hg:L[ix]?=some (.arr w ver es))(hm:s+m<=es.length)(he:mapSt (Zb n 0) ⟨A,false,L.set ix .dead⟩ ((es.drop s).take m)=some (es',⟨A,false,L.set ix .dead⟩)):
 Zb (n+1) A.length ⟨A,false,L⟩ (.ref A.length ix ver s m)=some (.lit es',⟨A,false,L.set ix .dead⟩):=by
 simp only[Zb,Nat.lt_irrefl,if_false,and_self,if_true,hg,ZFG,true_and,if_pos hm,Option.bind_some,he,ZjK]
section
variable {O:Orc}{k:List Fr}{Q:Qn}{e:Env}{A:List (Bool × List Blk)}{L L':List Blk}{keep:List Nat}{is:List PI}{d:Nat}
theorem ZxN{a:Opd}{lv o:Nat}{y:AV}(ha:ZY e a=some (.ptr lv ix ver i o))(hx:ZY e x=some v)(hw:st.wr lv)(hg:st.get lv ix=some (Blk.arr w ver es))(hy:es[i]?=some y)
 (hs:Zb QK (lv+1) st v=some (v,st)) (hv:(Q7 w y o n v).bind YS=some v') (h:Is O is keep k Q e (st.upd lv ix (Blk.arr w ver (es.set i v')))):Is O (⟨none,none,false,.st n a x⟩::is) keep k Q e st:=by
 have hv':Q7 w y o n v=some v':=by
  simp only[Option.bind_eq_some_iff]at hv;obtain⟨u,h1,h2⟩:=hv;rw[h1,Yc h2]
 refine Zq (od:=none) (v:=.undef) (st':=st.upd lv ix (Blk.arr w ver (es.set i v'))) ?_ h;simp only[Zd,evalPO,ZD ha,ZD hx,ZA7,hs,Option.bind_some,ZGM,hg,Xp,if_true,hy,hv',St.put_upd hw hg,ZCI]
theorem ZOP{a:Opd}{lv o:Nat}{y:AV}(hA:A=st.A++[(st.ro,st.L)])(ha:ZY e a=some (.ptr lv ix ver i o))(hx:ZY e x=some v)(hw:st.wr lv)(hg:st.get lv ix=some (Blk.arr w ver es))(hy:es[i]?=some y)
 (hs:Zb QK (lv+1) ⟨A,false,L⟩ v=some (v,⟨A,false,L⟩)) (hv:(Q7 w y o n v).bind YS=some v')
 (h:∀A',A'=(st.upd lv ix (Blk.arr w ver (es.set i v'))).A++[((st.upd lv ix (Blk.arr w ver (es.set i v'))).ro,(st.upd lv ix (Blk.arr w ver (es.set i v'))).L)]->Is O is keep k Q e ⟨A',false,L⟩):Is O (⟨none,none,false,.st n a x⟩::is) keep k Q e ⟨A,false,L⟩:=by
 have hl:=St.get_le hg;refine ZxN ha hx (ZAe hA hl hw) (ZS hA hg) hy hs hv ?_;rw[YU hA hl];exact h _ Y
theorem Zme{len:Nat}{i:Opd}{a b:AV}(hx:ZY e x=some a)(hi:ZY e i=some b)(hv:ZjP agg len w b a=some v)(h:Is O is keep k Q ((d,v)::e) st):Is O (⟨some d,none,false,.ixArr agg len w x i⟩::is) keep k Q e st :=
 Zq (v:=v) (st':=st) (by simp only[Zd,evalPO,ZD hx,ZD hi,hv,Option.bind_some,Qe]) h
theorem ZF3{kk:Nat}{z:AV}{ok:Bool}{i:Opd}{a b:AV}(hx:ZY e x=some a)(hi:ZY e i=some b)(hv:lookV st kk z ok b a=some v)(h:Is O is keep k Q ((d,v)::e) st):Is O (⟨some d,none,false,.look kk z ok x i⟩::is) keep k Q e st :=
 Zq (v:=v) (st':=st) (by simp only[Zd,evalPO,ZD hx,ZD hi,hv,Option.bind_some,Qe]) h
theorem Zr{b:PC}(h:Ru O b (.seq (.loop b)::k) Q e st):Ru O (.loop b) k Q e st:=by
 obtain⟨⟨x,e',st',h1,h2⟩⟩:=h
 cases x with
 | norm =>
  obtain⟨x,e2,st2,h3,h4⟩:=h2
  exact⟨⟨x,e2,st2,by rw[ZCt,ZGt,h1,Option.bind_some,ZW4];exact h3,h4⟩⟩
 | ex id=>exact⟨⟨.ex id,e',st',by rw[ZCt,ZGt,h1];rfl,h2⟩⟩
 | ret=>exact⟨⟨.ret,e',st',by rw[ZCt,ZGt,h1];rfl,h2⟩⟩
def Zjt{α:Type}:List α->Option Nat
 | []=>some 0
 | _::l=>match Zjt l with
  | some n=>some (n+1)
  | none=>none
theorem ZCx{α:Type}:∀ {l:List α} {n:Nat},Zjt l=some n->l.length=n
 | [],n,h=>by simp only[Zjt,Option.some.injEq]at h;subst h;rfl
 | a::l,n,h=>by
  simp only[Zjt]at h
  split at h
  ·rename_i m hm
   simp only[Option.some.injEq]at h;subst h;rw[List.length_cons,ZCx hm]
  ·simp at h
theorem Qg{a:LV}(hx:ZY e x=some (.lit a))(hn:Zjt a=some n)(h:Is O is keep k Q ((d,.int .i64 (n:Nat))::e) st):Is O (⟨some d,none,false,.len 1 x⟩::is) keep k Q e st :=
 Zb4 hx (by rw[ZCx hn];exact h)
theorem ZVM{a:B8}(hx:ZY e x=some (.str a))(hn:Zjt a=some n)(h:Is O is keep k Q ((d,.int .i64 (n:Nat))::e) st):Is O (⟨some d,none,false,.len 0 x⟩::is) keep k Q e st :=
 Qf hx (by rw[ZCx hn];exact h)
theorem Za(hx:ZY e x=some v)(hw:v.wide=some w)(hv:YS v=some v')(h:Is O is keep k Q ((d,.ptr A.length L.length 0 0 0)::e) ⟨A,false,L++[Blk.arr w 0 [v']]⟩):Is O (⟨some d,none,false,.box x⟩::is) keep k Q e ⟨A,false,L⟩:=by
 rw[<- Yc hv]at h
 exact Zq (v:=.ptr A.length L.length 0 0 0) (st':=⟨A,false,L++[Blk.arr w 0 [v]]⟩) (by simp only[Zd,evalPO,ZD hx,hw,Option.bind_some,St.new_cur,X3]) h
theorem Z5{a:Opd}{o:Nat}{x:AV}(ha:ZY e a=some (.ptr A.length L.length ver i o))(hx:es[i]?=some x)(hv:Jn x agg o n=some v)
 (h:Is O is keep k Q ((d,v)::e) ⟨A,false,L++[Blk.arr w ver es]⟩):Is O (⟨some d,none,false,.ld agg n a⟩::is) keep k Q e ⟨A,false,L++[Blk.arr w ver es]⟩ :=
 ZB (w:=w) ha (by rw[List.getElem?_append_right (Nat.le_refl _)];simp) hx hv h
theorem J5{a:Opd}{o:Nat}{y:AV}(ha:ZY e a=some (.ptr A.length L.length ver i o))(hx:ZY e x=some v)(hy:es[i]?=some y)
 (hs:Zb QK (A.length+1) ⟨A,false,L++[Blk.arr w ver es]⟩ v=some (v,⟨A,false,L++[Blk.arr w ver es]⟩)) (hv:(Q7 w y o n v).bind YS=some v') {es':LV} (he:ZE (es.set i v')=some es') (h:Is O is keep k Q e ⟨A,false,L++[Blk.arr w ver es']⟩):Is O (⟨none,none,false,.st n a x⟩::is) keep k Q e ⟨A,false,L++[Blk.arr w ver es]⟩:=by
 refine Q1 (w:=w) (es:=es) (y:=y) (by rw[List.getElem?_append_right (Nat.le_refl _)];simp) ha hx hy hs hv ?_
 rw[<- Qt he]at h;rw[List.set_append_right _ _ (Nat.le_refl _)]
 simpa using h
theorem ZDI{bytes:Nat}{s:Opd}{y:AV}(hs:ZY e s=some (.ref A.length ix ver 0 n))(hx:ZY e x=some (.lit [y]))(hg:L[ix]?=some (Blk.arr w ver es))(hb:n=es.length)
 (hl:es.length+1<4294967296) (hw:bytes<=4096) (hsm:y.wide=some w) (hm:Zb QK (A.length+1) ⟨A,false,L⟩ y=some (y,⟨A,false,L⟩))
 (h:Is O is keep k Q ((d,.ref A.length ix (ver+1) 0 (n+1))::e) ⟨A,false,L.set ix (Blk.arr w (ver+1) (es++[y]))⟩):Is O (⟨some d,none,false,.app w bytes s x⟩::is) keep k Q e ⟨A,false,L⟩:=by
 have hlt:ix<L.length:=by
  rw[List.getElem?_eq_some_iff]at hg;exact hg.1
 subst hb;refine Zq (v:=.ref A.length ix (ver+1) 0 (es.length+1)) (st':=⟨A,false,L.set ix (Blk.arr w (ver+1) (es++[y]))⟩) ?_ h
 have hm2:mapSt (Zb QK (A.length+1)) ⟨A,false,L⟩ [y]=some ([y],⟨A,false,L⟩):=by simp only[mapSt,hm,Option.bind_some,ZBv]
 have hw2:JH w [y]=true:=by simp[JH,hsm]
 simp only[Zd,evalPO,ZD hs,ZD hx,elems,Option.bind_some,Q4,if_pos hw2,hm2,Zf4,St.get_cur,hg,vis,ZRL,true_and,List.length_singleton,if_pos (show 0+es.length<=es.length/\es.length+1<4294967296/\bytes<=4096 by omega),St.put,if_true,if_false,jB,if_pos hlt,List.drop_zero,List.take_length]
theorem ZZ{ps:List (Nat × Nat × Opd)}{qs:List (Nat × Nat × AV)}(hq:ZVK e ps=some qs)(hf:fillV z qs=some cs)(hv:ZE cs=some vs)(h:Is O is keep k Q ((d,.agg vs)::e) st):Is O (⟨some d,none,false,.build z ps⟩::is) keep k Q e st :=
 ZtU (ZVL hq) hf hv h
theorem Zz{ps:List (Nat × Opd)}{qs:List (Nat × AV)}(hq:ZF2 e ps=some qs)(hf:fillE w z qs=some es)(hb:Zf5 false w st es=some (v,st'))(hv:fcV 3 v=some u)(h:Is O is keep k Q ((d,u)::e) st'):Is O (⟨some d,none,false,.bslice false w z ps⟩::is) keep k Q e st:=by
 rw[<- ZVJ hv]at h;exact Zjs (ZIj hq) hf hb h
theorem Zmf{ps:List (Nat × Opd)}{qs:List (Nat × AV)}(hq:ZF2 e ps=some qs)(hf:fillE w z qs=some es)(he:ZE es=some es')(hL:Jf (L++[Blk.arr w 0 es'])=some L')(h:Is O is keep k Q ((d,.ref A.length L.length 0 0 es'.length)::e) ⟨A,false,L'⟩):Is O (⟨some d,none,false,.bslice true w z ps⟩::is) keep k Q e ⟨A,false,L⟩ :=
 Zvp (ZIj hq) hf he hL h
end
end Go.QAbs
