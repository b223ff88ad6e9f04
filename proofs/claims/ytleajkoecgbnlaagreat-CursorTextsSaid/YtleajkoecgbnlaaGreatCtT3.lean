/- A part of the proof: R4, P5, P6, P7, P8, P9, YR, YR2, YR3, YR4, S1, S2, W, W2, W3. No condition. -/
import Derived.Orders
import Derived.OrdersIn
import Derived.RangeFuncIn
import Derived.LoopN
import Derived.LoopNIn
import Derived.Scope
import Derived.RangeFuncRecord
import Derived.Shelf.SlicesE.Clone
import Derived.Test.YtleajkoecgbnlaaGreatCtT2
set_option linter.unusedVariables false
set_option linter.unusedSimpArgs false
namespace Go.QAbs
open Go.RowKit (Below)
section
variable {P:Program} {O:Orc} {W0:World} {B0:Bse} {st s:St} {ρ ρ2:Rho} {W W2:World}
theorem ZhM:∀ {n:Nat} {C D:Cx} {v:AV} {x:Value},imm n v=true->R C v x->(∀ b o u,C.im b o u->D.im b o u)->R D v x
 | 0,C,D,v,x,h,_,_=>by simp [imm] at h
 | n+1,C,D,v,x,h,hR,hm=>by
  have hp:C.pure.le D.pure:=⟨hm,fun _ _ _ _ _ _ q=>q,fun _ _ _ _ _ _ q=>q,fun _ _ _ q=>q,fun _ _ _ q=>q⟩
  cases hR with
  | any=>exact .any _
  | undef=>exact .undef
  | bool b=>exact .bool b
  | int k n=>exact .int k n
  | str s=>exact .str s
  | nilptr=>exact .nilptr
  | lptr h1 h2=>exact .lptr (h1.mono hp) (h2.mono hm)
  | nils a=>simp [imm] at h
  | lit0 a c=>exact .lit0 a c
  | lit xs h1 h2 h3=>exact .lit xs (fun i e he=>(h1 i e he).mono hp) (fun i hi=>⟨(h2 i hi).1,(h2 i hi).2.mono hm⟩) h3
  | nilmap=>exact .nilmap
  | nilfunc=>exact .nilfunc
  | niliface=>exact .niliface
  | agg hl h1 =>
   simp only [imm,List.all_eq_true] at h
   refine .agg hl fun i v x hv hx=>?_
   have h2:=h v (jM hv);have h3:=h1 i v x hv hx
   cases v with
   | nils=>cases h3 with|nils a=>exact .nils a
   | _=>exact ZhM (by simpa [Xs] using h2) h3 hm
  | tup hl h1 =>
   simp only [imm,List.all_eq_true] at h
   exact .tup hl fun i v x hv hx=>ZhM (h v (jM hv)) (h1 i v x hv hx) hm
  | ptr _=>simp [imm] at h
  | ref _=>simp [imm] at h
  | map _=>simp [imm] at h
  | func _ _ _ _ _=>simp [imm] at h
  | yld _ _ _=>simp [imm] at h
  | iface _ _=>simp [imm] at h
theorem Znf (hr:Rel W0 B0 s ρ2 W2) (he:Ev st.push ρ W s ρ2 W2) {A':List (Bool × List Blk)} {r:Bool × List Blk} (hp:pop s.A=some (A',r)) (hro:r.1=false) {ix w ver b n:Nat} {es0:List AV}
 (hL:s.L[ix]?=some (.arr w ver es0)) (hbn:b+n<=es0.length) (him:((es0.drop b).take n).all (imm 6)=true) {x:Value} (hx:(cx s ρ2 W2 s.A.length).ref s.A.length ix ver b n x) :
 ∃ ρ4,Goes W0 B0 st ρ W ⟨A',r.1,r.2++[.arr w 0 ((es0.drop b).take n)]⟩ ρ4 W2/\(∀ m,m<=st.A.length->(cx s ρ2 W2 m).le (cx ⟨A',r.1,r.2++[.arr w 0 ((es0.drop b).take n)]⟩ ρ4 W2 m)) /\
  R (cx ⟨A',r.1,r.2++[.arr w 0 ((es0.drop b).take n)]⟩ ρ4 W2 A'.length) (.ref A'.length r.2.length 0 0 n) x:=by
 have hA:=Zeq hp
 have hlen:A'.length=st.A.length:=by have:=he.len;rw [hA] at this;simp [St.push] at this;exact this
 have hsA:s.A.length=A'.length+1:=by rw [hA];simp
 have hst2:s=⟨A'++[(r.1,r.2)],s.ro,s.L⟩:=by rw [<- hA]
 have hget0:s.get s.A.length ix=some (.arr w ver es0):=by simp [St.get,hL,vis]
 have hold:∀ lv' ix',lv'<=A'.length->s.get lv' ix'=St.get ⟨A',r.1,r.2⟩ lv' ix':=by
  intro lv' ix' h
  rw [hst2,St.get_push,if_neg (by omega)]
 generalize hes:(es0.drop b).take n=es at *
 have hesl:es.length=n:=by rw [<- hes];simp;omega
 let l0:=ρ2 s.A.length ix
 let ρ4:=upd ρ2 A'.length r.2.length ⟨l0.b,l0.o+b*w,l0.c-b⟩
 have hg0:St.get ⟨A',r.1,r.2++[.arr w 0 es]⟩ A'.length r.2.length=some (.arr w 0 es):=by simp [St.get,vis]
 have hg1:∀ lv' ix',¬ (lv'=A'.length/\ix'=r.2.length)->St.get ⟨A',r.1,r.2++[.arr w 0 es]⟩ lv' ix'=St.get ⟨A',r.1,r.2⟩ lv' ix':=by
  intro lv' ix' hne;simp only [St.get]
  split
  ·rename_i h1
   by_cases h3:ix'<r.2.length
   ·rw [jL h3]
   ·have:¬ ix'=r.2.length:=fun he=>hne ⟨h1,he⟩
    rw [List.getElem?_eq_none (by simp;omega),List.getElem?_eq_none (by omega)]
  ·rfl
 have hnone:St.get ⟨A',r.1,r.2⟩ A'.length r.2.length=none:=by simp [St.get,vis]
 have hr4:∀ lv' ix',¬ (lv'=A'.length/\ix'=r.2.length)->ρ4 lv' ix'=ρ2 lv' ix':=fun lv' ix' h=>ZQi _ _ _ _ h
 have hr0:ρ4 A'.length r.2.length=⟨l0.b,l0.o+b*w,l0.c-b⟩:=upd_same _ _ _ _;have aok:=hr.arr _ _ _ _ _ hget0;have hclen:=aok.len
 -- what t shows,s shows
 have hback:∀ lv' ix' blk,St.get ⟨A',r.1,r.2++[.arr w 0 es]⟩ lv' ix'=some blk->¬ (lv'=A'.length/\ix'=r.2.length)->s.get lv' ix'=some blk/\lv'<=A'.length:=by
  intro lv' ix' blk h hne;have hl:=St.get_le h;rw [hg1 _ _ hne,<- hold _ _ hl] at h;exact ⟨h,hl⟩
 have hfwd:∀ lv' ix',lv'<=A'.length->(s.get lv' ix').isSome=true->¬ (lv'=A'.length/\ix'=r.2.length):=by
  rintro lv' ix' h1 h2 ⟨rfl,rfl⟩
  rw [hold _ _ h1,hnone] at h2;simp at h2
 have heq:∀ lv' ix',lv'<=A'.length->¬ (lv'=A'.length/\ix'=r.2.length)->St.get ⟨A',r.1,r.2++[.arr w 0 es]⟩ lv' ix'=s.get lv' ix':=by
  intro lv' ix' h1 h2;rw [hg1 _ _ h2,hold _ _ h1]
 have hmul:∀ j,j<(l0.c-b)*w->b*w+j<l0.c*w:=by
  intro j hj
  have:(l0.c-b)*w+b*w=l0.c*w:=by rw [<- Nat.add_mul];congr 1;show (ρ2 s.A.length ix).c-b+b=(ρ2 s.A.length ix).c;omega
  omega
 have hle:∀ m,m<=A'.length->(cx s ρ2 W2 m).le (cx ⟨A',r.1,r.2++[.arr w 0 es]⟩ ρ4 W2 m):=by
  intro m hm
  refine ⟨?_,?_,?_,?_,fun _ _ _ q=>q⟩
  ·rintro b' o' v ⟨h1,h2⟩
   refine ⟨h1,fun hmut=>h2 ?_⟩
   obtain ⟨lv',ix',w',ver',es',hg,hr1,hr2,hr3⟩:=hmut
   by_cases hne:lv'=A'.length/\ix'=r.2.length
   ·obtain ⟨rfl,rfl⟩:=hne
    rw [hg0] at hg;simp only [oJ,Blk.arr.injEq] at hg;obtain ⟨rfl,_,_⟩:=hg;rw [hr0] at hr1 hr2 hr3
    simp only at hr1 hr2 hr3
    refine ⟨s.A.length,ix,w,ver,es0,hget0,hr1,by show l0.o<=o';omega,?_⟩
    have:=hmul (o'-(l0.o+b*w)) (by omega)
    show o'<l0.o+l0.c*w
    omega
   ·rw [hr4 _ _ hne] at hr1 hr2 hr3
    exact ⟨lv',ix',w',ver',es',(hback _ _ _ hg hne).1,hr1,hr2,hr3⟩
  ·rintro lv' ix' ver' i o' v ⟨h1,h2,h3,h4,h5⟩
   have hne:=hfwd lv' ix' (by omega) h2
   have e:=heq lv' ix' (by omega) hne
   exact ⟨h1,by rw [e];exact h2,h3,fun w u es hg=>h4 w u es (by rw [<- e];exact hg),fun w es hg=>by rw [hr4 _ _ hne];exact h5 w es (by rw [<- e];exact hg)⟩
  ·rintro lv' ix' ver' i o' v ⟨h1,h2,h3,a,c,h4,h5⟩
   have hne:=hfwd lv' ix' (by omega) h2
   have e:=heq lv' ix' (by omega) hne
   exact ⟨h1,by rw [e];exact h2,fun w u es hg=>h3 w u es (by rw [<- e];exact hg),a,c,h4,fun w es hg=>by rw [hr4 _ _ hne];exact h5 w es (by rw [<- e];exact hg)⟩
  ·rintro lv' ix' v ⟨h1,h2,r',h3,h5⟩
   have hne:=hfwd lv' ix' (by omega) h2
   have e:=heq lv' ix' (by omega) hne
   exact ⟨h1,by rw [e];exact h2,r',h3,fun es hg=>by rw [hr4 _ _ hne];exact h5 es (by rw [<- e];exact hg)⟩
 have hrel:Rel W0 B0 ⟨A',r.1,r.2++[.arr w 0 es]⟩ ρ4 W2:=by
  have selfNe:∀ lv' ix',lv'<=A'.length->¬ (lv'=s.A.length/\ix'=ix):=by rintro lv' ix' h ⟨rfl,_⟩;omega
  refine ⟨hr.below,hr.b0,hr.yl,?_,?_,?_,?_⟩
  ·intro lv' ix' w' ver' es' hg
   by_cases hne:lv'=A'.length/\ix'=r.2.length
   ·obtain ⟨rfl,rfl⟩:=hne
    rw [hg0] at hg;simp only [oJ,Blk.arr.injEq] at hg;obtain ⟨rfl,_,rfl⟩:=hg;rw [hr0]
    refine ⟨by show es.length<=l0.c-b;have:es0.length<=l0.c:=hclen;omega,fun i e hi=>?_,fun j hj=>?_⟩
    ·have hi':=Zv hi
     rw [<- hes,List.getElem?_take] at hi
     split at hi
     ·rw [List.getElem?_drop] at hi
      obtain ⟨y,q1,q2,q3⟩:=aok.el _ _ hi
      have himm:imm 6 e=true:=List.all_eq_true.1 him e (by rw [<- hes];rw [<- hes] at hi';exact jM (i:=i) (by rw [List.getElem?_take,if_pos (by omega),List.getElem?_drop];exact hi))
      refine ⟨y,ZhM himm q1 ?_,q2,?_⟩
      ·exact (hle A'.length (Nat.le_refl _)).im
      ·show Lies _ l0.b (l0.o+b*w+i*w) y
       have e1:l0.o+b*w+i*w=l0.o+(b+i)*w:=by rw [Nat.add_mul];omega
       rw [e1];exact q3
     ·simp at hi
    ·have:=aok.mem (b*w+j) (hmul j hj)
     have e1:(ρ2 s.A.length ix).o+(b*w+j)=l0.o+b*w+j:=by show l0.o+(b*w+j)=_;omega
     rw [e1] at this;exact this
   ·obtain ⟨h1,h2⟩:=hback _ _ _ hg hne
    obtain ⟨a1,a2,a3⟩:=hr.arr _ _ _ _ _ h1;rw [hr4 _ _ hne]
    refine ⟨a1,fun i e he=>?_,a3⟩
    obtain ⟨y,q1,q2⟩:=a2 i e he;exact ⟨y,q1.mono (hle lv' h2),q2⟩
  ·intro lv1 ix1 w1 ver1 es1 lv2 ix2 w2 ver2 es2 hg1' hg2' hne12 j1 j2 hj1 hj2
   by_cases hn1:lv1=A'.length/\ix1=r.2.length
   ·obtain ⟨rfl,rfl⟩:=hn1
    have hn2:¬ (lv2=A'.length/\ix2=r.2.length):=fun q=>hne12 ⟨q.1.symm,q.2.symm⟩
    obtain ⟨k1,k2⟩:=hback _ _ _ hg2' hn2;rw [hg0] at hg1';simp only [oJ,Blk.arr.injEq] at hg1';obtain ⟨rfl,_,_⟩:=hg1';rw [hr0] at hj1;rw [hr0,hr4 _ _ hn2];rw [hr4 _ _ hn2] at hj2
    have:=hr.sep _ _ _ _ _ _ _ _ _ _ hget0 k1 (fun q=>selfNe _ _ k2 ⟨q.1.symm,q.2.symm⟩) (b*w+j1) j2 (hmul j1 hj1) hj2
    rintro ⟨p1,p2⟩
    exact this ⟨p1,by simp only at p2;show l0.o+(b*w+j1)=_;omega⟩
   ·obtain ⟨k1,k2⟩:=hback _ _ _ hg1' hn1
    by_cases hn2:lv2=A'.length/\ix2=r.2.length
    ·obtain ⟨rfl,rfl⟩:=hn2
     rw [hg0] at hg2';simp only [oJ,Blk.arr.injEq] at hg2';obtain ⟨rfl,_,_⟩:=hg2';rw [hr0] at hj2;rw [hr0,hr4 _ _ hn1];rw [hr4 _ _ hn1] at hj1
     have:=hr.sep _ _ _ _ _ _ _ _ _ _ k1 hget0 (selfNe _ _ k2) j1 (b*w+j2) hj1 (hmul j2 hj2)
     rintro ⟨p1,p2⟩
     exact this ⟨p1,by simp only at p2;show _=l0.o+(b*w+j2);omega⟩
    ·obtain ⟨m1,m2⟩:=hback _ _ _ hg2' hn2
     rw [hr4 _ _ hn1] at hj1;rw [hr4 _ _ hn2] at hj2;rw [hr4 _ _ hn1,hr4 _ _ hn2];exact hr.sep _ _ _ _ _ _ _ _ _ _ k1 m1 hne12 j1 j2 hj1 hj2
  ·intro lv' ix' es' hg
   have hne:¬ (lv'=A'.length/\ix'=r.2.length):=by rintro ⟨rfl,rfl⟩;rw [hg0] at hg;simp at hg
   obtain ⟨h1,h2⟩:=hback _ _ _ hg hne;obtain ⟨m1,en,clock,m2,m3,m4⟩:=hr.map _ _ _ h1;rw [hr4 _ _ hne]
   refine ⟨m1,en,clock,m2,m3,fun i k v hk=>?_⟩
   obtain ⟨n1,x,n2,n3,n4⟩:=m4 i k v hk;exact ⟨n1,x,n2,n3.mono (hle _ h2),n4.mono (hle _ h2)⟩
  ·intro lv1 ix1 es1 lv2 ix2 es2 hg1' hg2' hne12
   have hn1:¬ (lv1=A'.length/\ix1=r.2.length):=by rintro ⟨rfl,rfl⟩;rw [hg0] at hg1';simp at hg1'
   have hn2:¬ (lv2=A'.length/\ix2=r.2.length):=by rintro ⟨rfl,rfl⟩;rw [hg0] at hg2';simp at hg2'
   rw [hr4 _ _ hn1,hr4 _ _ hn2];exact hr.msep _ _ _ _ _ _ (hback _ _ _ hg1' hn1).1 (hback _ _ _ hg2' hn2).1 hne12
 have hA0:st.push.A[st.A.length]?=some (st.ro,st.L):=by simp [St.push]
 obtain ⟨r',h1,h2,h3⟩:=he.old _ _ hA0
 have hr':r'=r:=by
  rw [hA,<- hlen] at h1
  simpa using h1.symm
 subst hr'
 refine ⟨ρ4,⟨hrel,hlen,?_,?_,h2,fun hro'=>?_,he.yl⟩,fun m hm=>hle m (by omega),?_⟩
 ·intro m hm
  exact ((Sub.push st).cx hm).trans ((he.le m (by simp [St.push];omega)).trans (hle m (by omega)))
 ·intro lv x hx
  have hlt:=Zv hx
  have hx':st.push.A[lv]?=some x:=by simp only [St.push];rw [jL hlt];exact hx
  obtain ⟨y,k1,k2,k3⟩:=he.old _ _ hx';refine ⟨y,?_,k2,k3⟩
  rw [hA,jL (by omega)] at k1
  exact k1
 ·have h2':r'.1=st.ro:=h2
  rw [hro] at h2';rw [<- h2'] at hro';simp at hro'
 ·obtain ⟨p1,p2,p3,a,c,rfl,p4⟩:=hx
  obtain ⟨q1,q2,q3⟩:=p4 w es0 hget0
  refine .ref ⟨Nat.le_refl _,by rw [hg0];rfl,fun w' u es' hg=>Nat.zero_le _,a,c,rfl,fun w' es' hg=>?_⟩
  rw [hg0] at hg;simp only [oJ,Blk.arr.injEq] at hg;obtain ⟨rfl,_,rfl⟩:=hg;rw [hr0]
  refine ⟨by omega,by show c+0=l0.c-b;have:c+b=l0.c:=q2;omega,fun hlt=>?_⟩
  have:=q3 (by have:c+b=l0.c:=q2;have:0<l0.c-b:=hlt;show b<l0.c;omega)
  rw [this];simp only [oJ]
  congr 1
  show l0.o+b*w=l0.o+b*w+0*w
  omega
theorem Zdx (hr:Rel W0 B0 s ρ2 W2) (he:Ev st.push ρ W s ρ2 W2) {v:AV} {r:AV × St} (h:ZAn s v=some r) {x:Value} (hx:R (cx s ρ2 W2 s.A.length) v x) :
 ∃ ρ4,Goes W0 B0 st ρ W r.2 ρ4 W2/\(∀ m,m<=st.A.length->(cx s ρ2 W2 m).le (cx r.2 ρ4 W2 m))/\R (cx r.2 ρ4 W2 r.2.A.length) r.1 x:=by
 cases v with
 | ref lv ix ver b n =>
  simp only [ZAn] at h
  split at h
  ·rename_i hl
   subst hl;unfold Zeg at h
   split at h
   ·rename_i w ver' es hL
    split at h
    ·rename_i hv
     subst hv;simp only [oB] at h;obtain ⟨⟨A',rr⟩,hp,h⟩:=h;unfold Zef at h
     split at h
     ·simp at h
     ·rename_i hc
      simp only [oJ] at h;subst h;simp only [not_or,Bool.not_eq_true,Bool.not_eq_false] at hc
      cases hx with
      | ref hx=>exact Znf hr he hp hc.1 hL (by omega) hc.2.2 hx
    ·simp at h
   ·simp at h
  ·simp at h
 | nils =>
  simp only [ZAn,YU,oB,ZbC,oJ] at h;obtain ⟨⟨A',rr⟩,hp,rfl⟩:=h;obtain ⟨g,hle⟩:=ZWv hr he hp;have hA:=Zeq hp;have hlen:A'.length=st.A.length:=g.ev.len
  refine ⟨ρ2,g,fun m hm=>?_,?_⟩
  ·have hsub : Sub st.A.length s ⟨A', rr.1, rr.2⟩ := by
    refine ⟨fun lv ix hlv=>?_,fun lv ix b hg=>by have:=St.get_le hg;simp only [hlen] at this;exact this⟩
    have hst2:s=⟨A'++[(rr.1,rr.2)],s.ro,s.L⟩:=by rw [<- hA]
    rw [hst2,St.get_push,if_neg (by omega)]
   exact hsub.cx hm
  ·cases hx with
   | nils a=>exact .nils a
 | _=>simp [ZAn] at h
theorem Zlm (hr:Rel W0 B0 s ρ2 W2) (he:Ev st.push ρ W s ρ2 W2) {v:AV} {r:AV × St} (h:ZES (v,s)=some r) {x:Value} (hx:R (cx s ρ2 W2 s.A.length) v x) :
 ∃ ρ4,Goes W0 B0 st ρ W r.2 ρ4 W2/\R (cx r.2 ρ4 W2 r.2.A.length) r.1 x:=by
 unfold ZES at h
 split at h
 ·rename_i v0 vs hv
  simp only at hv
  subst hv
  split at h
  ·rename_i hc
   simp only [oB,Zpo,oJ] at h;obtain ⟨q,hq,rfl⟩:=h
   cases hx with
   | @tup _ _ xs hl h1 =>
    obtain ⟨y,ys,rfl,q1,q2⟩:=RL.cons_inv (C:=cx s ρ2 W2 s.A.length) (v:=v0) (vs:=vs) (ys:=xs) ⟨hl,h1⟩;obtain ⟨ρ4,g,hle,hv⟩:=Zdx hr he hq q1
    refine ⟨ρ4,g,R.tup' (.cons hv ⟨q2.1,fun i u z hu hz=>?_⟩)⟩
    have himm:=List.all_eq_true.1 hc u (jM hu);exact ZhM himm (q2.2 i u z hu hz) (hle 0 (Nat.zero_le _)).im
  ·simp at h
 ·obtain ⟨ρ4,g,_,hv⟩:=Zdx hr he h hx
  exact ⟨ρ4,g,hv⟩
end
def fen (ro:Option Nat):Fence:={ Fence.wide with round:=ro }
def Zng (P:Program) (l:Nat) (xs:Array Value) (W:World) (R:Ending->World->Prop):Prop :=
 ∃ fn tmps assign body,(Instr.yield l xs).run P W=.ok (.round l fn tmps assign body) W/\RoundIn .wide 0 P l fn tmps assign body W R
def CallsY (P:Program) (B0:Bse) (f:FuncId) (xs:List Value) (W:World) (R:Ending->World->Prop):Prop :=
 (f<yB->Calls P f xs.toArray W R)/\∀ lv ys,f=yB+lv->xs=ys++(B0.y lv).2->Zng P (B0.y lv).1 ys.toArray W R
theorem CallsY.mono {P:Program} {B0:Bse} {f:FuncId} {xs:List Value} {W:World} {R R':Ending->World->Prop} (h:CallsY P B0 f xs W R) (hr:∀ e w',R e w'->R' e w'):CallsY P B0 f xs W R':=by
 refine ⟨fun hf=>(h.1 hf).mono hr,fun lv ys hl hx=>?_⟩
 obtain ⟨fn,tmps,assign,body,h1,h2⟩:=h.2 lv ys hl hx;exact ⟨fn,tmps,assign,body,h1,h2.mono hr⟩
structure OSound (P:Program) (K:World->Bse->Prop) (O:Orc):Prop where
 frame:FrO O
 enter:∀ {f:FuncId} {args:List AV} {st:St} {r:AV × St},f<yB->O f args st=some r->∀ (xs:Array Value) (W:World),(callFunc f xs).run P W=.ok (.enter f xs) W
 calls:∀ {f:FuncId} {args:List AV} {st:St} {v:AV} {st':St},O f args st=some (v,st')->∀ {W0:World} {B0:Bse} {ρ:Rho} {W:World} {xs:List Value},K W0 B0->Rel W0 B0 st ρ W->RL (cx st ρ W st.A.length) args xs ->
  CallsY P B0 f xs W fun e W'=>∃ x ρ',e=.returned x/\Goes W0 B0 st ρ W st' ρ' W'/\R (cx st' ρ' W' st'.A.length) v x
section
variable {P:Program} {KW:World->Bse->Prop} {O:Orc} {W0:World} {B0:Bse} {st st':St} {ρ:Rho} {W:World} {e:Env} {a:Act}
theorem ZqK {C:Cx} {v:AV} {x:Value} (h:R C v x):R C (weak v) x:=by
 unfold weak
 split
 ·cases h;exact .lit0 _ _
 ·exact h
theorem ZXK {C:Cx}:∀ {vs:List AV} {xs:List Value},RL C vs xs->RL C (Zn vs) xs
 | [],xs,h=>h
 | v::vs,xs,h=>by
  obtain ⟨x,ys,rfl,h1,h2⟩:=h.cons_inv;exact .cons (ZqK h1) (ZXK h2)
theorem ZhN (hO:OSound P KW O) (hKW:KW W0 B0) {f:FuncId} {args:List AV} {v:AV} (h:Q8 O .inner f args st=some (v,st')) (hr:Rel W0 B0 st ρ W) {xs:List Value} (hx:RL (cx st ρ W st.A.length) args xs) :
 (f<yB->∀ (ys:Array Value) (W:World),(callFunc f ys).run P W=.ok (.enter f ys) W) /\
  CallsY P B0 f xs W fun e W'=>∃ x ρ',e=.returned x/\Goes W0 B0 st ρ W st' ρ' W'/\R (cx st' ρ' W' st'.A.length) v x:=by
 simp only [Q8,oB,ZMs,ZH3,YU,ZbC,oJ,jP] at h;obtain ⟨⟨v0,st1⟩,h0,⟨v1,st2⟩,hseal,⟨A',r0⟩,hpop,rfl,rfl⟩:=h
 simp only at hseal hpop
 have hpl:st.push.A.length=st.A.length+1:=by simp [St.push]
 have hpush:=Sub.push st
 refine ⟨fun hf=>hO.enter hf h0,(hO.calls h0 hKW (hpush.rel hr) ((hx.mono (hpush.cx (Nat.le_refl _))).mono (Zdl (by omega)))).mono ?_⟩
 rintro e' W' ⟨x,ρ',rfl,g,hv⟩
 have hl1:st1.A.length=st.A.length+1:=by rw [g.ev.len,hpl]
 obtain ⟨g2,hv2⟩:=ZBG Qd st1.A.length st1 v0 x v1 st2 g.rel (by omega) hv hseal
 obtain ⟨g3,hle⟩:=ZWv g2.rel (g.ev.trans g2.ev) hpop;refine ⟨x,ρ',rfl,g3,?_⟩;rw [hl1] at hv2;have hl3:(⟨A',r0.1,r0.2⟩:St).A.length=st.A.length:=g3.ev.len;rw [hl3]
 exact R.mono (show R (cx st2 ρ' W' st.A.length) v1 x from hv2) hle
theorem ZhO (hO:OSound P KW O) (hKW:KW W0 B0) {m:CM} {f:FuncId} {args:List AV} {v:AV} (h:Q8 O m f args st=some (v,st')) (hr:Rel W0 B0 st ρ W) {xs:List Value} (hx:RL (cx st ρ W st.A.length) args xs) :
 (f<yB->∀ (ys:Array Value) (W:World),(callFunc f ys).run P W=.ok (.enter f ys) W) /\
  CallsY P B0 f xs W fun e W'=>∃ x ρ',e=.returned x/\Goes W0 B0 st ρ W st' ρ' W'/\R (cx st' ρ' W' st'.A.length) v x:=by
 cases m with
 | norm=>exact ⟨fun hf=>hO.enter hf h,hO.calls h hKW hr hx⟩
 | own =>
  simp only [Q8,oB,Zgt] at h;obtain ⟨⟨v0,st2⟩,h0,h⟩:=h
  split at h
  ·simp only [oJ,jP] at h
   obtain ⟨rfl,rfl⟩:=h
   have hs:Sub st.A.length st { st with ro:=true }:=Sub.same (s:=st) (t:={ st with ro:=true }) (fun lv ix=>rfl)
   refine ⟨fun hf=>hO.enter hf h0,(hO.calls h0 hKW (hs.rel hr) hx).mono ?_⟩
   rintro e' W' ⟨x,ρ',rfl,g,hv⟩
   obtain ⟨g',hle⟩:=Zrt (st:=st) g.rel g.ev;have hL:st2.L=st.L:=g.ev.cur rfl
   have he:(⟨st2.A,st.ro,st.L⟩:St)={ st2 with ro:=st.ro }:=by rw [<- hL]
   rw [he];exact ⟨x,ρ',rfl,g',hv.mono (hle _)⟩
  ·simp at h
 | pure =>
  simp only [Q8,oB,Qa,oJ,jP] at h;obtain ⟨⟨v0,st2⟩,h0,h1,rfl⟩:=h
  simp only at h1;subst h1
  have hl1:st.allRo.A.length=st.A.length:=by simp [St.allRo]
  have hcx:∀ m,cx st.allRo ρ W m=cx st ρ W m:=by
   intro m;unfold cx Mut;simp only [Jt]
  have hs:Sub st.A.length st st.allRo:=by
   have:=Sub.same (s:=st) (t:=st.allRo) (Jt st)
   rw [hl1] at this;exact this
  refine ⟨fun hf=>hO.enter hf h0,(hO.calls h0 hKW (hs.rel hr) (by rw [hl1,hcx];exact hx)).mono ?_⟩
  rintro e' W' ⟨x,ρ',rfl,g,hv⟩
  obtain ⟨g',hle⟩:=ZkP (st:=st) g.rel g.ev
  have hl2:st2.A.length=st.A.length:=by rw [g.ev.len,hl1]
  rw [hl2] at hv;exact ⟨x,ρ',rfl,g',hv.mono (hle _ (Nat.le_refl _))⟩
 | inner=>exact ZhN hO hKW h hr hx
 | move =>
  simp only [Q8,oB] at h;obtain ⟨⟨v0,st1⟩,h0,h⟩:=h
  have hpl:st.push.A.length=st.A.length+1:=by simp [St.push]
  have hpush:=Sub.push st
  refine ⟨fun hf=>hO.enter hf h0,(hO.calls h0 hKW (hpush.rel hr) ((hx.mono (hpush.cx (Nat.le_refl _))).mono (Zdl (by omega)))).mono ?_⟩
  rintro e' W' ⟨x,ρ',rfl,g,hv⟩
  obtain ⟨ρ4,g4,hv4⟩:=Zlm g.rel g.ev h hv;exact ⟨x,ρ4,rfl,g4,hv4⟩
 | pin =>
  have h':(Q8 O .inner f args st.allRo).bind (Qa st)=some (v,st'):=h;clear h;simp only [oB,Qa,oJ,jP] at h';obtain ⟨⟨v0,st2⟩,h0,h1,rfl⟩:=h'
  simp only at h1;subst h1
  have hl1:st.allRo.A.length=st.A.length:=by simp [St.allRo]
  have hcx:∀ m,cx st.allRo ρ W m=cx st ρ W m:=by
   intro m;unfold cx Mut;simp only [Jt]
  have hs:Sub st.A.length st st.allRo:=by
   have:=Sub.same (s:=st) (t:=st.allRo) (Jt st)
   rw [hl1] at this;exact this
  obtain ⟨e1,e2⟩:=ZhN hO hKW h0 (hs.rel hr) (by rw [hl1,hcx];exact hx)
  refine ⟨e1,e2.mono ?_⟩
  rintro e' W' ⟨x,ρ',rfl,g,hv⟩
  obtain ⟨g',hle⟩:=ZkP (st:=st) g.rel g.ev
  have hl2:st2.A.length=st.A.length:=by rw [g.ev.len,hl1]
  rw [hl2] at hv;exact ⟨x,ρ',rfl,g',hv.mono (hle _ (Nat.le_refl _))⟩
theorem Znh {o:Oper} {c:Call} {f:Operand} (hop:o.op=.call c) (hf:c.callee=.value f) {g:FuncId} {xs ys:List Value} (hv:a.eval f=.func (.func g) xs.toArray ys.toArray)
 (hrun:∀ (zs:Array Value) (W:World),(callFunc g zs).run P W=.ok (.enter g zs) W):(execOp a.eval o).run P W=.ok (.enter g (xs++c.args.toList.map a.eval++ys).toArray) W:=by
 have e1:(c.args.map a.eval)=(c.args.toList.map a.eval).toArray:=by rw [<- Array.toList_map,Array.toArray_toList]
 simp only [execOp,hop,resolve,hf,hv,Deferred.ofValue,invoke,Sem.run_bind,Sem.run_pure,Result.andThen_ok,hrun,e1]
 simp
theorem Zln {o:Oper} {c:Call} {f:Operand} (hop:o.op=.call c) (hf:c.callee=.value f) {l:Nat} (hv:a.eval f=.func (.yield l) #[] #[]) :
 (execOp a.eval o).run P W=(Instr.yield l (c.args.toList.map a.eval).toArray).run P W:=by
 have e1:(c.args.map a.eval)=(c.args.toList.map a.eval).toArray:=by rw [<- Array.toList_map,Array.toArray_toList]
 simp only [execOp,hop,resolve,hf,hv,Deferred.ofValue,invoke,Sem.run_bind,Sem.run_pure,Result.andThen_ok,e1]
 simp
theorem ZqL {C:Cx} {nt:Nat} {d:Option Nat} {v:AV} {x:Value} (he:EnvR C e a.tmps) (hv:R C v x) (hd:Zm5 nt d=true) (hs:nt<=a.tmps.size):EnvR C (ZC1 e d v) (a.put d x).tmps:=by
 intro t
 cases d with
 | none=>exact he t
 | some d =>
  simp only [Zm5,decide_eq_true_eq] at hd;simp only [ZC1,look,Act.put]
  split
  ·rename_i h;subst h
   have:(a.tmps.setIfInBounds d x).getD d Go.undef=x:=by
    simp [Array.getElem?_setIfInBounds]
    rw [if_pos (by omega)];rfl
   rw [this];exact hv
  ·rename_i h
   have:(a.tmps.setIfInBounds d x).getD t Go.undef=a.tmps.getD t Go.undef:=by
    simp [Array.getElem?_setIfInBounds_ne h]
   rw [this];exact he t
theorem put_size {d:Option Nat} {x:Value}:(a.put d x).tmps.size=a.tmps.size/\(a.put d x).defers=a.defers:=by
 cases d with
 | none=>exact ⟨rfl,rfl⟩
 | some d=>exact ⟨by simp [Act.put],rfl⟩
theorem Zlo {ops:Array Oper} {o:Oper} {g:Option (Nat × Bool)} (hg:ZWQ ops o.guard=some g) {C:Cx} (he:EnvR C e a.tmps) {b:Bool} (hb:wantedV e g=some b):Region.wanted o (yielded ops a.tmps)=b:=by
 unfold Region.wanted
 cases hgo:o.guard with
 | none =>
  rw [hgo] at hg;simp only [ZWQ,oJ] at hg;subst hg;simp only [wantedV,oJ] at hb;exact hb
 | some q =>
  obtain ⟨j,want⟩:=q;rw [hgo] at hg;simp only [ZWQ,oM] at hg;obtain ⟨t,ht,rfl⟩:=hg;simp only [wantedV] at hb;have het:=he t;unfold ZN5 at hb;unfold yielded;simp only [ht,oS]
  have hgd:a.tmps.getD t Go.undef=(a.tmps[t]?).getD Go.undef:=by simp
  rw [hgd] at het
  split at hb
  ·rename_i b' hb'
   rw [hb'] at het;simp only [oJ] at hb;subst hb
   have:=YV het
   cases hx:a.tmps[t]? with
   | none=>rw [hx] at this;simp [Go.undef] at this
   | some x=>rw [hx] at this;simp only [Option.getD_some] at this;subst this;rfl
  ·rename_i hb'
   rw [hb'] at het;simp only [oJ] at hb;subst hb
   cases hx:a.tmps[t]? with
   | none=>rfl
   | some x =>
    rw [hx] at het;simp only [Option.getD_some] at het
    cases het
    rfl
  ·simp at hb
theorem ZhP {own:Bool} {cm m:CM} {o:Oper} {f:Opd} {l:List Opd} (h:JB P own cm o=some (.call m f l)):∃ c fo,o.op=.call c/\c.callee=.value fo/\opd fo=some f/\Zgx c.args.toList=some l:=by
 cases hop:o.op with
 | call c =>
  simp only [JB,hop] at h
  split at h
  ·exfalso
   unfold Yx at h
   repeat' split at h
   all_goals simp [oB,oM] at h
   all_goals (split at h<;>simp at h)
  ·rename_i fo hfo
   simp only [oB,oM] at h;obtain ⟨f',hf,l',hl,h⟩:=h;simp only [PO.call.injEq] at h;obtain ⟨_,rfl,rfl⟩:=h;exact ⟨c,fo,rfl,hfo,hf,hl⟩
  ·simp at h
 | makeMap t r=>exfalso;cases r<;>simp [JB,hop] at h
 | slice t x lo hi mx =>
  exfalso
  cases mx<;>simp only [JB,hop] at h
  all_goals repeat' first
   | (exfalso;simp at h;done)
   | split at h
   | (simp only [oB] at h;obtain ⟨_,_,h⟩:=h)
 | _ =>
  exfalso;simp only [JB,hop] at h
  repeat' first
   | (exfalso;simp at h;done)
   | split at h
   | (simp only [oB] at h;obtain ⟨_,_,h⟩:=h)
   | (simp only [oM] at h;obtain ⟨_,_,h⟩:=h)
   | unfold ZJi at h
theorem wkOf_cases (o:PO) (i:Nat):∀ l:List (Nat × WK),ZlR l i o=o\/∃ k,ZlR l i o=.w k o
 | []=>.inl rfl
 | (j,k)::l=>by
  simp only [ZlR]
  split
  ·exact .inr ⟨k,rfl⟩
  ·exact wkOf_cases o i l
theorem Zni {ro:Option Nat} (hO:OSound P KW O) (hKW:KW W0 B0) {ops:Array Oper} {nt:Nat} {h:Hint} {i:Nat} {o:Oper} {p:PI} (ho:ops[i]?=some o) (hc:ZWo P nt ops h i o=some p) {Q:Exit->Act->World->Prop} {K:Act->World->Prop}
 (hr:Rel W0 B0 st ρ W) (he:EnvR (cx st ρ W st.A.length) e a.tmps) (hs:nt<=a.tmps.size) {v:AV} (hv:Yw O p e st=some (v,st'))
 (hK:∀ a' ρ' W',Goes W0 B0 st ρ W st' ρ' W'->EnvR (cx st' ρ' W' st'.A.length) (ZC1 e p.dst v) a'.tmps->a'.tmps.size=a.tmps.size->a'.defers=a.defers->K a' W'):wpOpIn (fen ro) 0 P ops Q i K a W:=by
 unfold ZWo at hc
 split at hc
 case isFalse=>simp at hc
 rename_i hd
 simp only [oB,oM] at hc;obtain ⟨po0,hpo,g,hg,rfl⟩:=hc
 generalize hpe:ZlR h.wk i po0=po at *
 simp only [Yw,oB] at hv;obtain ⟨b,hb,hv⟩:=hv;have hw:=Zlo hg he hb;unfold wpOpIn;simp only [ho,hw]
 have putK:∀ x ρ' W',Goes W0 B0 st ρ W st' ρ' W'->R (cx st' ρ' W' st'.A.length) v x->K (a.put o.dst x) W':=by
  intro x ρ' W' gs hx;have hlen:=gs.ev.len
  exact hK _ ρ' W' gs (ZqL (he.mono (by rw [hlen];exact gs.ev.le _ (Nat.le_refl _))) hx hd hs) put_size.1 put_size.2
 cases b with
 | false =>
  simp only [ZH5,oJ,jP] at hv;obtain ⟨rfl,rfl⟩:=hv;simp only [jB,if_false]
  exact ⟨fun _ _=>trivial,putK _ ρ W (.refl hr) .undef⟩
 | true =>
  simp only [if_true]
  have hnd:∀ c,o.op≠.defer c:=by
   intro c hop;simp only [JB,hop] at hpo
   simp at hpo
  simp only [ZH5] at hv
  have fin:Fin W0 B0 st ρ W ((execOp a.eval o).run P W) v st'->o.wpIn (fen ro) 0 P a W K Q:=by
   rintro ⟨nx,x,ρ',W',hrun,hnx,gs,hx⟩
   refine ⟨fun _ _=>trivial,?_⟩
   rw [Oper.semAt_eq _ _ _ hnd,hrun]
   rcases hnx with rfl|⟨rfl,rfl⟩
   ·exact putK x ρ' W' gs hx
   ·exact putK _ ρ' W' gs hx
  rcases wkOf_cases po0 i h.wk with hw0|⟨kk,hw0⟩
  case inr =>
   rw [hpe] at hw0;subst hw0;unfold Q2 at hv;simp only [PO.reads,jB,if_false] at hv
   split at hv
   ·simp at hv
   ·exact fin (Zsq hr he hpo hv)
  rw [hpe] at hw0;subst hw0
  have plain:(∀ m f l,po≠.call m f l)->evalPO e st po=some (v,st')->o.wpIn (fen ro) 0 P a W K Q:=fun hn hev=>fin (ZnR hr he hpo hn hev)
  unfold Q2 at hv
  simp only at hv
  split at hv
  ·split at hv
   ·rename_i hrd
    simp only [oB,Qa,oJ,jP] at hv;obtain ⟨⟨v0,s0⟩,h0,h1,rfl⟩:=hv
    simp only at h1;subst h1
    exact plain (fun m f l q=>by rw [q] at hrd;simp [PO.reads] at hrd) (Q4 hrd (.mask st) h0).1
   ·simp at hv
  ·by_cases hcall:∃ m f l,po=.call m f l
   ·obtain ⟨m,f,l,rfl⟩:=hcall
    simp only [Zl] at hv;unfold ZBF at hv
    split at hv
    ·rename_i g' first cap hfe
     obtain ⟨c,fo,hop,hcal,hfo,hl⟩:∃ c fo,o.op=.call c/\c.callee=.value fo/\opd fo=some f/\Zgx c.args.toList=some l:=ZhP hpo;have hfv:=Z3 hfo he;rw [hfe] at hfv;generalize hu:a.eval fo=u at hfv
     cases hfv with
     | @func _ _ hn _ _ xs ys hf hc rf rc =>
      have hargs:RL (cx st ρ W st.A.length) (first++Xu e l++cap) (xs++c.args.toList.map a.eval++ys):=(RL.append ⟨hf,rf⟩ (ZWS hl he)).append ⟨hc,rc⟩
      obtain ⟨h1,h2⟩:=ZhO hO hKW hv hr (ZXK hargs);have hg':g'<yB:=of_decide_eq_true hn
      refine ⟨fun _ _=>trivial,?_⟩
      rw [Oper.semAt_eq _ _ _ hnd,Znh hop hcal hu (h1 hg')]
      refine ⟨fun h=>absurd h (by simp [fen,Fence.wide]),?_⟩
      refine (callsIn_wide (n:=0)).2 ((h2.1 hg').mono ?_)
      rintro e' W' ⟨x,ρ',rfl,gs,hx⟩
      exact putK x ρ' W' gs hx
    ·rename_i l' cs hfe
     obtain ⟨c,fo,hop,hcal,hfo,hl⟩:∃ c fo,o.op=.call c/\c.callee=.value fo/\opd fo=some f/\Zgx c.args.toList=some l:=ZhP hpo;have hfv:=Z3 hfo he;rw [hfe] at hfv;generalize hu:a.eval fo=u at hfv
     cases hfv with
     | func _ hn=>simp [Ziq] at hn
     | @yld _ _ ll tm _ hy hl2 rc =>
      obtain ⟨h1,h2⟩:=ZhO hO hKW hv hr (ZXK ((ZWS hl he).append ⟨hl2,rc⟩))
      have hyl:B0.y l'=(ll,tm):=by rw [<- hr.yl];exact hy.2
      obtain ⟨fn,tmps,assign,body,h3,h4⟩:=h2.2 l' (c.args.toList.map a.eval) rfl (by rw [hyl])
      rw [hyl] at h3 h4
      refine ⟨fun _ _=>trivial,?_⟩
      rw [Oper.semAt_eq _ _ _ hnd,Zln hop hcal hu,h3]
      refine ⟨fun h=>absurd h (by simp [fen,Fence.wide]),?_⟩
      refine RoundIn.mono (F:=.wide) h4 ?_
      rintro e' W' ⟨x,ρ',rfl,gs,hx⟩
      exact putK x ρ' W' gs hx
    ·simp at hv
   ·refine plain (fun m f l q=>hcall ⟨m,f,l,q⟩) ?_
    rw [<- hv]
    have hnw:∀ k q,po≠.w k q:=fun k q hq=>by rw [hq] at hpo;exact no_w hpo
    cases hpp:po with
    | call m f l=>exact absurd ⟨m,f,l,hpp⟩ hcall
    | w k q=>exact absurd hpp (hnw k q)
    | _=>rfl
end
section
variable {P:Program} {KW:World->Bse->Prop} {ro:Option Nat} {O:Orc} {W0:World} {B0:Bse} {st st':St} {ρ:Rho} {W:World} {e:Env} {a:Act} {ops:Array Oper} {nt:Nat} {h:Hint}
theorem ZXL:∀ {os:List Oper} {k:Nat} {is:List PI},ZQg P nt ops h k os=some is->is.length=os.length/\∀ (j:Nat) (o:Oper),os[j]?=some o->∃ p,is[j]?=some p/\ZWo P nt ops h (k+j) o=some p
 | [],k,is,hc=>by simp only [ZQg,oJ] at hc;subst hc;exact ⟨rfl,by simp⟩
 | o::os,k,is,hc=>by
  simp only [ZQg,oB,oM] at hc;obtain ⟨p,hp,ps,hps,rfl⟩:=hc;obtain ⟨h1,h2⟩:=ZXL hps
  refine ⟨by simp [h1],fun j o' hj=>?_⟩
  cases j with
  | zero=>simp only [List.getElem?_cons_zero,oJ] at hj;subst hj;exact ⟨p,rfl,hp⟩
  | succ j =>
   simp only [List.getElem?_cons_succ] at hj ⊢;obtain ⟨q,hq,hc⟩:=h2 j o' hj
   exact ⟨q,hq,by rw [show k+(j+1)=k+1+j by omega];exact hc⟩
def Znj (W0:World) (B0:Bse) (st:St) (ρ:Rho) (W:World) (a:Act) (r:Env × St) (Q:Exit->Act->World->Prop):Prop :=
 ∀ a' ρ' W',Goes W0 B0 st ρ W r.2 ρ' W'->EnvR (cx r.2 ρ' W' r.2.A.length) r.1 a'.tmps->a'.tmps.size=a.tmps.size->a'.defers=a.defers->Q .normal a' W'
def Zsr (P:Program) (nt:Nat) (ops:Array Oper) (h:Hint) (q:Nat × PI):Prop:=∃ o,ops[q.1]?=some o/\ZWo P nt ops h q.1 o=some q.2
theorem Znk (hO:OSound P KW O) (hKW:KW W0 B0) {Q:Exit->Act->World->Prop} {r:Env × St}:∀ (l:List (Nat × PI)) (e:Env) (st:St) (ρ:Rho) (W:World) (a:Act),(∀ q∈l,Zsr P nt ops h q)->JT O (l.map (·.2)) e st=some r ->
 Rel W0 B0 st ρ W->EnvR (cx st ρ W st.A.length) e a.tmps->nt<=a.tmps.size->Znj W0 B0 st ρ W a r Q->wpOpsIn (fen ro) 0 P ops Q (l.map (·.1)) a W
 | [],e,st,ρ,W,a,_,hr,hrel,he,_,hQ=>by
  simp only [List.map_nil,JT,oJ] at hr;subst hr;exact hQ a ρ W (.refl hrel) he rfl rfl
 | q::l,e,st,ρ,W,a,hk,hr,hrel,he,hs,hQ=>by
  simp only [jC] at hr ⊢;rw [X8,oB] at hr;obtain ⟨⟨v,st1⟩,hv,hr⟩:=hr
  obtain ⟨o,ho,hc⟩:=hk q (by simp)
  rw [wpOpsIn_cons]
  refine Zni hO hKW ho hc hrel he hs hv fun a' ρ' W' g he' hs' hd'=>?_
  exact Znk hO hKW l _ _ ρ' W' a' (fun x hx=>hk x (by simp [hx])) hr g.rel he' (by omega) fun a'' ρ'' W'' g' h1 h2 h3=>hQ a'' ρ'' W'' (g.trans g') h1 (h2.trans hs') (h3.trans hd')
def Zkc (ops:Array Oper) (S:Nat->Prop):Prop:=∀ (j:Nat) (o:Oper),ops[j]?=some o->S j->∀ x∈Yt o,S x
theorem ZQr {S:Nat->Prop} {ms:List Nat} {k:Nat} (hms:∀ j,j<k->S j->∀ i,(ms.getD j 0).testBit i=true->S i) :
 ∀ {es:List Nat},(∀ x∈es,S x/\x<k)->∀ i,(ZJh ms es).testBit i=true->S i
 | [],_,i,hi=>by simp [ZJh] at hi
 | x::es,hx,i,hi=>by
  simp only [ZJh,Nat.testBit_or,Bool.or_eq_true] at hi
  obtain ⟨h1,h2⟩:=hx x (by simp)
  rcases hi with hi|hi|hi
  ·rw [Nat.testBit_two_pow] at hi
   simp only [decide_eq_true_eq] at hi;subst hi;exact h1
  ·exact hms x h2 h1 i hi
  ·exact ZQr hms (fun y hy=>hx y (by simp [hy])) i hi
theorem apartAll_ok {m:Nat} {p:PI}:∀ {xs:List PI} {k:Nat},ZN6 m p k xs=true->∀ i x,xs[i]?=some x->m.testBit (k+i)=true\/ZTK x p=true
 | [],k,_,i,x,hx=>by simp at hx
 | y::xs,k,hh,i,x,hx=>by
  simp only [ZN6,Bool.and_eq_true,Bool.or_eq_true] at hh
  cases i with
  | zero=>simp only [List.getElem?_cons_zero,oJ] at hx;subst hx;exact hh.1
  | succ i =>
   simp only [List.getElem?_cons_succ] at hx
   have:=apartAll_ok hh.2 i x hx
   rw [show k+(i+1)=k+1+i by omega]
   exact this
theorem Zdy {S:Nat->Prop} (hS:Zkc ops S):∀ {os:List Oper} {ps prev:List PI} {k:Nat} {ms:List Nat},Zek k ms prev os ps=true->(∀ j,os[j]?=ops[k+j]?)->ms.length=k->prev.length=k ->
 (∀ j,j<k->S j->∀ i,(ms.getD j 0).testBit i=true->S i)->∀ (j:Nat) (o:Oper) (p:PI),os[j]?=some o->ps[j]?=some p ->
  (∀ x∈Yt o,x<k+j)/\((∀ x∈Yt o,S x)->∀ i x,i<k+j->(prev++ps)[i]?=some x->¬ S i->ZTK x p=true)
 | [],ps,prev,k,ms,_,_,_,_,_,j,o,p,ho,_=>by simp at ho
 | o0::os,[],prev,k,ms,_,_,_,_,_,j,o,p,_,hp=>by simp at hp
 | o0::os,p0::ps,prev,k,ms,hd,hops,hl,hl',hms,j,o,p,ho,hp=>by
  simp only [Zek,Bool.and_eq_true] at hd;obtain ⟨h1,h2,h3⟩:=hd
  have hlt:∀ x∈Yt o0,x<k:=fun x hx=>by have:=List.all_eq_true.1 h1 x hx;simpa using this
  cases j with
  | zero =>
   simp only [List.getElem?_cons_zero,oJ] at ho hp;subst ho;subst hp
   refine ⟨fun x hx=>by have:=hlt x hx;omega,fun hSe i x hi hx hn=>?_⟩
   have hi':i<prev.length:=by omega
   rw [jL hi'] at hx
   rcases apartAll_ok h2 i x hx with hb|hb
   ·rw [Nat.zero_add] at hb
    exact absurd (ZQr hms (fun y hy=>⟨hSe y hy,hlt y hy⟩) i hb) hn
   ·exact hb
  | succ j =>
   simp only [List.getElem?_cons_succ] at ho hp
   have:=Zdy hS (os:=os) (ps:=ps) h3 (fun j=>by have:=hops (j+1);simp only [List.getElem?_cons_succ] at this;rw [this];congr 1;omega) (by simp [hl]) (by simp [hl']) ?_ j o p ho hp
   ·rw [show k+(j+1)=k+1+j by omega]
    refine ⟨this.1,fun hSe i x hi hx hn=>this.2 hSe i x hi ?_ hn⟩
    simpa using hx
   ·intro j' hj' hSj i hi
    by_cases hjk:j'<k
    ·refine hms j' hjk hSj i ?_
     rw [<- hi]
     simp [List.getD_eq_getElem?_getD,jL (show j'<ms.length by omega)]
    ·have:j'=k:=by omega
     subst this
     have h0:ops[j']?=some o0:=by have:=hops 0;simpa using this.symm
     have hm:(ms++[ZJh ms (Yt o0)]).getD j' 0=ZJh ms (Yt o0):=by
      simp [List.getD_eq_getElem?_getD,<- hl]
     rw [hm] at hi
     exact ZQr hms (fun y hy=>⟨hS j' o0 h0 hSj y hy,hlt y hy⟩) i hi
theorem mem_edges {o:Oper} {x:Nat}:x∈Yt o↔∃ y∈o.after,Region.binds .any y=true/\y.on=x:=by
 simp only [Yt,List.mem_map,List.mem_filter,Array.mem_toList_iff]
 constructor
 ·rintro ⟨y,⟨h1,h2⟩,h3⟩;exact ⟨y,h1,h2,h3⟩
 ·rintro ⟨y,h1,h2,h3⟩;exact ⟨y,⟨h1,h2⟩,h3⟩
theorem Zrx (hO:OSound P KW O) (hKW:KW W0 B0) {Q:Exit->Act->World->Prop} {is:List PI} (hdraw:Zm3 ops.toList is=true) (hlen:is.length=ops.size) (hcomp:∀ (j:Nat) (o:Oper),ops[j]?=some o->∃ p,is[j]?=some p/\ZWo P nt ops h j o=some p) :
 ∀ (fuel:Nat) (listed:Array Bool) (zs:List (Nat × PI)) (r:Env × St) (e:Env) (st:St) (ρ:Rho) (W:World) (a:Act),
  listed.size=ops.size->Zkc ops (fun i=>listed.getD i false=true)->(∀ q∈zs,is[q.1]?=some q.2)->zs.Pairwise (fun x y=>x.1<y.1) ->
  (∀ i,i<ops.size->(listed.getD i false=false↔∃ p,(i,p)∈zs))->zs.length=fuel->JT O (zs.map (·.2)) e st=some r ->
  Rel W0 B0 st ρ W->EnvR (cx st ρ W st.A.length) e a.tmps->nt<=a.tmps.size->Znj W0 B0 st ρ W a r Q->wpAnyIn (fen ro) 0 P .any ops Q fuel listed a W:=by
 intro fuel
 have getDs:∀ (l:Array Bool) (i:Nat),l.size=ops.size->i<ops.size->l.getD i true=l.getD i false:=by
  intro l i hl hi
  simp [Array.getElem?_eq_getElem (show i<l.size by omega)]
 induction fuel with
 | zero =>
  intro listed zs r e st ρ W a hls hcl hzs hpw hrem hfl hr hrel he hs hQ;have hz:zs=[]:=List.length_eq_zero_iff.1 hfl;subst hz;simp only [List.map_nil,JT,oJ] at hr;subst hr;refine ⟨?_,hQ a ρ W (.refl hrel) he rfl rfl⟩;rw [List.eq_nil_iff_forall_not_mem];intro j hj;obtain ⟨h1,o,ho,_⟩:=mem_ready.1 hj;have hlt:=YE ho;rw [getDs _ _ hls hlt] at h1;obtain ⟨p,hp⟩:=(hrem j hlt).1 h1
  simp at hp
 | succ fuel ih =>
  intro listed zs r e st ρ W a hls hcl hzs hpw hrem hfl hr hrel he hs hQ
  have hdr:∀ (j:Nat) (o:Oper) (p:PI),ops[j]?=some o->is[j]?=some p->(∀ x∈Yt o,x<j)/\((∀ x∈Yt o,listed.getD x false=true)->∀ i x,i<j->is[i]?=some x->¬ listed.getD i false=true->ZTK x p=true):=by
   intro j o p ho hp
   have:=Zdy hcl (os:=ops.toList) (ps:=is) (prev:=[]) (k:=0) (ms:=[]) hdraw (by simp) rfl rfl (by simp) j o p (by simpa using ho) hp
   simpa using this
  refine ⟨fun hnil=>?_,fun i hi=>?_⟩
  ·exfalso
   cases zs with
   | nil=>simp at hfl
   | cons q zs =>
    have hq:=hzs q (by simp)
    have hlt:q.1<ops.size:=by rw [<- hlen];exact Zv hq
    have ho:ops[q.1]?=some ops[q.1]:=Array.getElem?_eq_getElem hlt;have hed:=(hdr q.1 _ q.2 ho hq).1
    have hin:q.1∈Region.ready .any ops listed:=by
     refine mem_ready.2 ⟨?_,_,ho,fun y hy hb=>?_⟩
     ·rw [getDs _ _ hls hlt]
      exact (hrem q.1 hlt).2 ⟨q.2,by simp⟩
     ·have hlt':=hed y.on (mem_edges.2 ⟨y,hy,hb,rfl⟩)
      cases hl:listed.getD y.on false with
      | true=>rfl
      | false =>
       obtain ⟨p,hp⟩:=(hrem y.on (by omega)).1 hl
       rcases List.mem_cons.1 hp with hp|hp
       ·have:y.on=q.1:=by rw [<- hp]
        omega
       ·have:=(List.pairwise_cons.1 hpw).1 _ hp
        simp only at this
        omega
    rw [hnil] at hin
    simp at hin
  ·obtain ⟨h1,o,ho,hall⟩:=mem_ready.1 hi
   have hlt:=YE ho;have h1':=h1;rw [getDs _ _ hls hlt] at h1';obtain ⟨p,hp⟩:=(hrem i hlt).1 h1';obtain ⟨pre,post,rfl⟩:=List.append_of_mem hp;have hip:=hzs (i,p) hp
   simp only at hip
   have hSe:∀ x∈Yt o,listed.getD x false=true:=fun x hx=>by
    obtain ⟨y,hy,hb,rfl⟩:=mem_edges.1 hx;exact hall y hy hb
   have hcom:∀ x∈pre.map (·.2),ZTK x p=true:=by
    intro x hx;obtain ⟨q,hq,rfl⟩:=List.mem_map.1 hx
    have hqi:q.1<i:=(List.pairwise_append.1 hpw).2.2 q hq (i,p) (by simp)
    refine (hdr i o p ho hip).2 hSe q.1 q.2 hqi (hzs q (by simp [hq])) ?_
    have:=(hrem q.1 (by omega)).2 ⟨q.2,by simp [hq]⟩
    rw [this];simp
   simp only [List.map_append,jC] at hr;obtain ⟨r',hr',hE,hst⟩:=ZhL hO.frame hcom hr;rw [X8,oB] at hr';obtain ⟨⟨v,st1⟩,hv,hr'⟩:=hr';obtain ⟨p',hp',hc⟩:=hcomp i o ho;rw [hip] at hp';simp only [oJ] at hp';subst hp'
   refine Zni hO hKW ho hc hrel he hs hv fun a' ρ' W' g he' hs' hd'=>?_
   have hpw':(pre++post).Pairwise (fun x y=>x.1<y.1):=hpw.sublist (by simp)
   have hne:∀ q∈pre++post,q.1≠i:=by
    intro q hq
    rcases List.mem_append.1 hq with hq|hq
    ·have:=(List.pairwise_append.1 hpw).2.2 q hq (i,p) (by simp)
     simp only at this;omega
    ·have:=(List.pairwise_cons.1 (List.pairwise_append.1 hpw).2.1).1 q hq
     simp only at this;omega
   refine ih (listed.setIfInBounds i true) (pre++post) r' _ _ ρ' W' a' (by simp [hls]) ?_ (fun q hq=>hzs q ?_) hpw' ?_ (by simp at hfl ⊢;omega) (by simpa using hr') g.rel he' (by omega) ?_
   ·intro j oj hj hSj x hx
    by_cases hji:i=j
    ·subst hji
     rw [ho] at hj;simp only [oJ] at hj;subst hj;exact getD_set_true (hSe x hx)
    ·have hSj':(listed.setIfInBounds i true).getD j false=true:=hSj
     rw [getD_set_ne false hji] at hSj';exact getD_set_true (hcl j oj hj hSj' x hx)
   ·rcases List.mem_append.1 hq with hq|hq<;>simp [hq]
   ·intro j hj
    by_cases hji:i=j
    ·subst hji
     constructor
     ·intro hf
      have:(listed.setIfInBounds i true).getD i false=true:=by
       simp [hls,hlt]
      rw [this] at hf;simp at hf
     ·rintro ⟨q,hq⟩
      exact absurd rfl (hne _ hq)
    ·rw [getD_set_ne false hji,hrem j hj]
     constructor
     ·rintro ⟨q,hq⟩
      refine ⟨q,?_⟩
      rcases List.mem_append.1 hq with hq|hq
      ·simp [hq]
      ·rcases List.mem_cons.1 hq with hq|hq
       ·exact absurd (by rw [jP] at hq;exact hq.1.symm) hji
       ·simp [hq]
     ·rintro ⟨q,hq⟩
      refine ⟨q,?_⟩
      rcases List.mem_append.1 hq with hq|hq<;>simp [hq]
   ·intro a'' ρ'' W'' g' h1 h2 h3
    rw [hst] at g' h1
    exact hQ a'' ρ'' W'' (g.trans g') (fun t=>by rw [hE t];exact h1 t) (h2.trans hs') (h3.trans hd')
theorem Zdz (hO:OSound P KW O) (hKW:KW W0 B0) (hm:P.follows .mixedOrders=true) {Q:Exit->Act->World->Prop} {id:Nat} {draw:Bool} {is:List PI} (hc:(ZQg P nt ops h 0 ops.toList).bind (Zm6 draw ops.toList)=some is) {r:Env × St}
 (hr:JT O is e st=some r) (hrel:Rel W0 B0 st ρ W) (he:EnvR (cx st ρ W st.A.length) e a.tmps) (hs:nt<=a.tmps.size) (hQ:Znj W0 B0 st ρ W a r Q):(Code.region id ops draw).wpIn (fen ro) 0 P Q a W:=by
 simp only [oB] at hc;obtain ⟨is',hc,hd⟩:=hc;obtain ⟨hl,hg⟩:=ZXL hc
 have hl':is'.length=ops.size:=by rw [hl];simp
 have hcomp:∀ (j:Nat) (o:Oper),ops[j]?=some o->∃ p,is'[j]?=some p/\ZWo P nt ops h j o=some p:=fun j o ho=>by
  have:=hg j o (by simpa using ho)
  simpa using this
 have hz:∀ q∈(List.range ops.size).zip is',is'[q.1]?=some q.2:=by
  intro q hq;obtain ⟨i,hi⟩:=List.getElem?_of_mem hq;rw [List.getElem?_zip_eq_some] at hi;obtain ⟨h1,h2⟩:=hi
  rw [List.getElem?_range (by rw [<- hl'];exact Zv h2)] at h1
  simp only [oJ] at h1;rw [<- h1];exact h2
 have h1:((List.range ops.size).zip is').map (·.1)=List.range ops.size:=List.map_fst_zip (by simp [hl'])
 have h2:((List.range ops.size).zip is').map (·.2)=is':=List.map_snd_zip (by simp [hl'])
 unfold Zm6 at hd
 split at hd
 ·rename_i hdraw
  split at hd
  ·rename_i hok
   simp only [oJ] at hd;subst hd;subst hdraw;refine wpIn_region_any hm ?_;have gd:Goes W0 B0 st ρ W st ρ W.drew:=Goes.drew hrel
   refine Zrx (W0:=W0) (B0:=B0) hO hKW hok hl' hcomp ops.size (Array.replicate ops.size false) ((List.range ops.size).zip is') r e st ρ W.drew a (by simp) ?_ hz ?_ ?_ (by simp [hl']) (by rw [h2];exact hr) gd.rel (he.mono (gd.ev.le _ (Nat.le_refl _))) hs ?_
   ·intro j o ho hS x hx
    exfalso;have hS':(Array.replicate ops.size false).getD j false=true:=hS
    by_cases hj:j<ops.size<;>simp [hj] at hS'
   ·have hp:(List.range ops.size).Pairwise (·<·):=List.pairwise_lt_range
    rw [<- h1,List.pairwise_map] at hp;exact hp
   ·intro i hi
    constructor
    ·intro _
     have hi':i<is'.length:=by omega
     refine ⟨is'[i],?_⟩;rw [List.mem_iff_getElem?]
     exact ⟨i,by rw [List.getElem?_zip_eq_some];exact ⟨by rw [List.getElem?_range hi],jE hi'⟩⟩
    ·intro _;simp [hi]
   ·intro a' ρ' W' g q1 q2 q3
    exact hQ a' ρ' W' (gd.trans g) q1 q2 q3
  ·simp at hd
 ·rename_i hdraw
  simp only [oJ] at hd;subst hd
  have:draw=false:=by simpa using hdraw
  subst this;refine wpIn_region ?_
  have:=Znk (ro:=ro) hO hKW (ops:=ops) (nt:=nt) (h:=h) (Q:=Q) (r:=r) ((List.range ops.size).zip is') e st ρ W a (fun q hq=>?_) (by rw [h2];exact hr) hrel he hs hQ
  ·rw [h1] at this;exact this
  ·have hq':=hz q hq
   have hlt:q.1<ops.size:=by rw [<- hl'];exact Zv hq'
   obtain ⟨p,hp,hc⟩:=hcomp q.1 _ (Array.getElem?_eq_getElem hlt);rw [hq'] at hp;simp only [oJ] at hp;subst hp;exact ⟨_,Array.getElem?_eq_getElem hlt,hc⟩
end
def Ex.exit:Ex->Exit
 | .norm=>.normal
 | .ex id=>.exit id
 | .ret=>.ret
section
variable {P:Program} {KW:World->Bse->Prop} {ro:Option Nat} {O:Orc} {W0:World} {B0:Bse} {st st':St} {ρ:Rho} {W:World} {e:Env} {a:Act} {nt:Nat}
def CodeEnd (W0:World) (B0:Bse) (st:St) (ρ:Rho) (W:World) (a:Act) (r:Ex × Env × St) (Q:Exit->Act->World->Prop):Prop :=
 ∀ a' ρ' W',Goes W0 B0 st ρ W r.2.2 ρ' W'->EnvR (cx r.2.2 ρ' W' r.2.2.A.length) r.2.1 a'.tmps->a'.tmps.size=a.tmps.size->a'.defers=a.defers->Q r.1.exit a' W'
theorem CodeEnd.after {st1:St} {ρ1:Rho} {W1:World} {a1:Act} {r:Ex × Env × St} {Q:Exit->Act->World->Prop} (h:CodeEnd W0 B0 st ρ W a r Q) (g:Goes W0 B0 st ρ W st1 ρ1 W1) (hs:a1.tmps.size=a.tmps.size) (hd:a1.defers=a.defers) :
 CodeEnd W0 B0 st1 ρ1 W1 a1 r Q:=fun a' ρ' W' g' h1 h2 h3=>h a' ρ' W' (g.trans g') h1 (h2.trans hs) (h3.trans hd)
theorem keepEnv_look (t:Nat):∀ (ks:List Nat) (e:Env),look (Xm ks e) t=look e t\/look (Xm ks e) t=.any
 | [],e=>.inr rfl
 | k::ks,e=>by
  simp only [Xm,look]
  split
  ·rename_i h;subst h;exact .inl rfl
  ·exact keepEnv_look t ks e
theorem EnvR.keep {C:Cx} {tmps:Array Value} (h:EnvR C e tmps) (ks:List Nat):EnvR C (Xm ks e) tmps:=by
 intro t
 rcases keepEnv_look t ks e with q|q
 ·rw [q];exact h t
 ·rw [q];exact .any _
def Znl (ro:Option Nat) (P:Program) (O:Orc) (nt:Nat) (W0:World) (B0:Bse) (c:Code) (F:Run):Prop :=
 ∀ (e:Env) (st:St) (ρ:Rho) (W:World) (a:Act) (r:Ex × Env × St) (Q:Exit->Act->World->Prop),F e st=some r->Rel W0 B0 st ρ W->EnvR (cx st ρ W st.A.length) e a.tmps->nt<=a.tmps.size->CodeEnd W0 B0 st ρ W a r Q->c.wpIn (fen ro) 0 P Q a W
theorem Zd0 {c:Code} {F:Run} (hF:Znl ro P O nt W0 B0 c F):∀ (n:Nat) (e:Env) (st:St) (ρ:Rho) (W:World) (a:Act) (r:Ex × Env × St) (Q:Exit->Act->World->Prop),ZAj F n e st=some r->Rel W0 B0 st ρ W ->
 EnvR (cx st ρ W st.A.length) e a.tmps->nt<=a.tmps.size->CodeEnd W0 B0 st ρ W a r Q->Code.roundsIn (fen ro) 0 P c Q n a W
 | 0,e,st,ρ,W,a,r,Q,h,_,_,_,_=>by simp [ZAj] at h
 | n+1,e,st,ρ,W,a,r,Q,h,hr,he,hs,hQ=>by
  simp only [ZAj,oB] at h;obtain ⟨⟨x,e1,st1⟩,h1,h2⟩:=h;rw [roundsIn_succ];refine hF e st ρ W a (x,e1,st1) _ h1 hr he hs ?_;intro a' ρ' W' g he' hs' hd'
  cases x with
  | norm=>exact Zd0 hF n e1 st1 ρ' W' a' r Q h2 g.rel he' (by omega) (hQ.after g hs' hd')
  | ex id=>simp only [ZBX,oJ] at h2;subst h2;exact hQ a' ρ' W' g he' hs' hd'
  | ret=>simp only [ZBX,oJ] at h2;subst h2;exact hQ a' ρ' W' g he' hs' hd'
theorem X9 {P:Program} {b:Frame} {a:Act} {k:List Item} {cs:List Frame} {w:World} {c:Code}:step P (lone (b.atR a (.code (.scope c)::k)) cs w)=.next (lone (b.atR a (.code c::.inScope c::k)) cs w) :=
 step_lone_go (by simp [stepG,stepG.exec,Frame.atR])
theorem ZbD {P:Program} {b:Frame} {a:Act} {k:List Item} {cs:List Frame} {w:World} {c:Code}:step P (lone (b.atR a (.inScope c::k)) cs w)=.next (lone (b.atR a k) cs w) :=
 step_lone_go (by simp [stepG,stepG.exec,Frame.atR])
theorem ZjD {F:Fence} {n:Nat} {P:Program} {Q:Exit->Act->World->Prop} {a:Act} {w:World} {c:Code} (h:c.wpIn F n P (Exit.noGoto Q) a w):(Code.scope c).wpIn F n P Q a w:=by
 intro b k cs hro hb hr;have h0:(lone (b.atR a (.code (.scope c)::k)) cs w).fenced P F:=fenced_calm hb hr rfl;obtain ⟨e,a₁,w₁,hq,harr⟩:=h b (.inScope c::k) cs hro hb hr
 cases e with
 | normal=>exact ⟨.normal,a₁,w₁,hq,.head h0 X9 (StepsIn.trans harr (.one (fenced_calm hb hr rfl) ZbD))⟩
 | exit id =>
  have hx:exitTo id (.inScope c::k)=exitTo id k:=by simp [exitTo]
  exact ⟨.exit id,a₁,w₁,hq,fun k' hk=>.head h0 X9 (harr.1 k' (by rw [hx];exact hk)),
   fun hr' hk=>let ⟨k₁,h1,h2⟩:=harr.2 hr' (by rw [hx];exact hk);⟨k₁,h1,.head h0 X9 h2⟩⟩
 | goto l=>exact hq.elim
 | ret=>exact ⟨_,a₁,w₁,hq,.of_steps (.one h0 X9) ⟨harr.1,harr.2⟩⟩
 | panic ch=>exact ⟨_,a₁,w₁,hq,.of_steps (.one h0 X9) harr⟩
 | outgrown=>exact ⟨_,a₁,w₁,hq,.of_steps (.one h0 X9) harr⟩
theorem exec_ok (hO:OSound P KW O) (hKW:KW W0 B0) (hm:P.follows .mixedOrders=true) (n:Nat):∀ (c:Code) (hs hs':List Hint) (pc:PC),comp P nt hs c=some (pc,hs')->Znl ro P O nt W0 B0 c (exec O (fun F=>ZAj F n) pc):=by
 intro c
 induction c with
 | skip =>
  intro hs hs' pc hc e st ρ W a r Q h hr he hsz hQ
  cases hs<;>simp only [comp,oJ,jP] at hc<;>obtain ⟨rfl,_⟩:=hc<;>simp only [exec,oJ] at h<;>subst h<;>exact wpIn_skip (hQ a ρ W (.refl hr) he rfl rfl)
 | ret =>
  intro hs hs' pc hc e st ρ W a r Q h hr he hsz hQ
  cases hs<;>simp only [comp,oJ,jP] at hc<;>obtain ⟨rfl,_⟩:=hc<;>simp only [exec,oJ] at h<;>subst h<;>exact wpIn_ret (hQ a ρ W (.refl hr) he rfl rfl)
 | exit id =>
  intro hs hs' pc hc e st ρ W a r Q h hr he hsz hQ
  cases hs<;>simp only [comp,oJ,jP] at hc<;>obtain ⟨rfl,_⟩:=hc<;>simp only [exec,oJ] at h<;>subst h<;>exact wpIn_exit (hQ a ρ W (.refl hr) he rfl rfl)
 | seq x y ihx ihy =>
  intro hs hs' pc hc e st ρ W a r Q h hr he hsz hQ
  have hc':(comp P nt hs x).bind (fun r=>(comp P nt r.2 y).map fun q=>(PC.seq r.1 q.1,q.2))=some (pc,hs'):=by cases hs<;>exact hc
  simp only [oB,oM,jP] at hc';obtain ⟨⟨p1,h1⟩,hx,⟨p2,h2⟩,hy,rfl,rfl⟩:=hc';simp only [exec,oB] at h;obtain ⟨⟨xx,e1,st1⟩,hx1,hx2⟩:=h;refine wpIn_seq (ihx hs h1 p1 hx e st ρ W a (xx,e1,st1) _ hx1 hr he hsz ?_);intro a' ρ' W' g he' hs' hd'
  cases xx with
  | norm=>exact ihy h1 h2 p2 hy e1 st1 ρ' W' a' r Q hx2 g.rel he' (by omega) (hQ.after g hs' hd')
  | ex id=>simp only [ZBX,oJ] at hx2;subst hx2;exact hQ a' ρ' W' g he' hs' hd'
  | ret=>simp only [ZBX,oJ] at hx2;subst hx2;exact hQ a' ρ' W' g he' hs' hd'
 | cond c x y ihx ihy =>
  intro hs hs' pc hc e st ρ W a r Q h hr he hsz hQ
  have hc':(opd c).bind (fun c=>(comp P nt hs x).bind fun r=>(comp P nt r.2 y).map fun q=>(PC.ite c r.1 q.1,q.2))=some (pc,hs'):=by cases hs<;>exact hc
  simp only [oB,oM,jP] at hc';obtain ⟨co,hco,⟨p1,h1⟩,hx,⟨p2,h2⟩,hy,rfl,rfl⟩:=hc';simp only [exec] at h;have hcv:=Z3 hco he;unfold Zgu at h
  split at h
  ·rename_i hb
   rw [hb] at hcv;exact wpIn_cond_true (YV hcv) (ihx hs h1 p1 hx e st ρ W a r Q h hr he hsz hQ)
  ·rename_i hb
   rw [hb] at hcv;exact wpIn_cond_false (YV hcv) (ihy h1 h2 p2 hy e st ρ W a r Q h hr he hsz hQ)
  ·simp at h
 | block id x ih =>
  intro hs hs' pc hc e st ρ W a r Q h hr he hsz hQ
  have hc':(comp P nt hs x).map (fun r=>(PC.block id r.1,r.2))=some (pc,hs'):=by cases hs<;>exact hc
  simp only [oM,jP] at hc';obtain ⟨⟨p1,h1⟩,hx,rfl,rfl⟩:=hc';simp only [exec,oB] at h;obtain ⟨⟨xx,e1,st1⟩,hx1,hx2⟩:=h;refine wpIn_block (ih hs h1 p1 hx e st ρ W a (xx,e1,st1) _ hx1 hr he hsz ?_);intro a' ρ' W' g he' hs' hd'
  cases xx with
  | norm=>simp only [ZC2,oJ] at hx2;subst hx2;exact hQ a' ρ' W' g he' hs' hd'
  | ex id' =>
   simp only [ZC2] at hx2;simp only [Ex.exit,Exit.inBlock]
   split at hx2
   ·rename_i hid
    rw [if_pos hid];simp only [oJ] at hx2;subst hx2;exact hQ a' ρ' W' g he' hs' hd'
   ·rename_i hid
    rw [if_neg hid];simp only [oJ] at hx2;subst hx2;exact hQ a' ρ' W' g he' hs' hd'
  | ret=>simp only [ZC2,oJ] at hx2;subst hx2;exact hQ a' ρ' W' g he' hs' hd'
 | loop x ih =>
  intro hs hs' pc hc e st ρ W a r Q h hr he hsz hQ
  have hc':(comp P nt hs x).map (fun r=>(PC.loop r.1,r.2))=some (pc,hs'):=by cases hs<;>exact hc
  simp only [oM,jP] at hc';obtain ⟨⟨p1,h1⟩,hx,rfl,rfl⟩:=hc';simp only [exec] at h;exact wpIn_loop_rounds n (Zd0 (ro:=ro) (O:=O) (ih hs h1 p1 hx) n e st ρ W a r Q h hr he hsz hQ)
 | region id ops draw =>
  intro hs hs' pc hc e st ρ W a r Q h hr he hsz hQ
  cases hs with
  | nil=>simp [comp] at hc
  | cons h0 hs =>
   simp only [comp,oM,jP] at hc;obtain ⟨is,his,rfl,_⟩:=hc;unfold Zra at h
   split at h
   ·simp only [exec,oB,ZTq,oJ] at h
    obtain ⟨⟨e1,st1⟩,h1,rfl⟩:=h;refine Zdz hO hKW hm his h1 hr he hsz ?_;intro a' ρ' W' g he' hs' hd';exact hQ a' ρ' W' g (he'.keep _) hs' hd'
   ·simp only [exec,oB,ZTq,oJ,Ziv] at h
    obtain ⟨s1,hp,⟨e1,st1⟩,h1,rfl⟩:=h
    split at hp
    ·simp at hp
    ·rename_i hro
     simp only [oJ] at hp;subst hp
     have hget:∀ lv ix,St.get { st with L:=st.L++h0.js.map Blk.hole } lv ix=st.get lv ix:=by
      intro lv ix;simp only [St.get]
      split
      ·by_cases hi:ix<st.L.length
       ·rw [jL hi]
       ·rw [List.getElem?_append_right (by omega),List.getElem?_eq_none (l:=st.L) (by omega),jG]
        cases h0.js[ix-st.L.length]?<;>rfl
      ·rfl
     have hs1:Sub st.A.length st { st with L:=st.L++h0.js.map Blk.hole }:=Sub.same (s:=st) (t:={ st with L:=st.L++h0.js.map Blk.hole }) hget
     have hgo:Goes W0 B0 st ρ W { st with L:=st.L++h0.js.map Blk.hole } ρ W :=
      ⟨hs1.rel hr,rfl,fun m hm=>hs1.cx hm,fun _ r h=>⟨r,h,rfl,fun _=>rfl⟩,rfl,fun h=>absurd h hro,rfl⟩
     refine Zdz hO hKW hm his h1 hgo.rel (he.mono (hs1.cx (Nat.le_refl _))) hsz ?_;intro a' ρ' W' g he' hs' hd';exact hQ a' ρ' W' (hgo.trans g) (he'.keep _) hs' hd'
 | label l =>
  intro hs hs' pc hc e st ρ W a r Q h hr he hsz hQ
  cases hs<;>simp only [comp,oJ,jP] at hc<;>obtain ⟨rfl,_⟩:=hc<;>simp only [exec,oJ] at h<;>subst h<;>exact wpIn_label (hQ a ρ W (.refl hr) he rfl rfl)
 | scope x ih =>
  intro hs hs' pc hc e st ρ W a r Q h hr he hsz hQ
  have hc':comp P nt hs x=some (pc,hs'):=by cases hs<;>exact hc
  refine ZjD (ih hs hs' pc hc' e st ρ W a r _ h hr he hsz ?_);intro a' ρ' W' g he' hs' hd'
  have:=hQ a' ρ' W' g he' hs' hd'
  cases hx:r.1<;>rw [hx] at this<;>exact this
 | _=>intro hs hs' pc hc;cases hs<;>simp [comp] at hc
def ZqM (tmps:Array Value):ResultVar->Sem Value
 | .tmp t=>pure (tmps.getD t Go.undef)
 | .cell c t=>do loadVar t (<- asAddr (tmps.getD c Go.undef))
theorem ZjE (fn:Func) (tmps:Array Value):results fn tmps=(do let vs <- fn.results.mapM (ZqM tmps);pure (if h:vs.size=1 then vs[0] else .tuple vs)):=by
 unfold results
 congr 1
 first
  | done
  | (congr 1;funext rv;cases rv<;>rfl)
theorem ZjF {rv:ResultVar} {q:RV} (hq:ZFt P rv=some q) (hr:Rel W0 B0 st ρ W) (he:EnvR (cx st ρ W st.A.length) e a.tmps) {v:AV} (hv:ZBY st e q=some v) :
 ∃ x,(ZqM a.tmps rv).run P W=.ok x W/\R (cx st ρ W st.A.length) v x:=by
 cases rv with
 | tmp t =>
  simp only [ZFt,oJ] at hq;subst hq;simp only [ZBY,oJ] at hv;subst hv;exact ⟨_,rfl,he t⟩
 | cell c t =>
  simp only [ZFt,oB,oM] at hq;obtain ⟨g,hg,n,hn,rfl⟩:=hq;simp only [ZBY] at hv;obtain ⟨b,z,hb,hz,hzv⟩:=Zg3 (P:=P) hr hv (he c) hg hn;refine ⟨z,?_,hzv⟩
  simp [ZqM,hb,asAddr,hz]
end
section
variable {P:Program} {O:Orc} {W0:World} {B0:Bse} {st st':St} {ρ:Rho} {W:World} {e:Env} {a:Act} {nt:Nat}
theorem ZOJ {f:ResultVar->Sem Value}:∀ {rvs:List ResultVar} {rs:List RV} {vs:List AV},rvs.mapM (ZFt P)=some rs->ZET st e rs=some vs ->
 (∀ (rv:ResultVar) (q:RV) (v:AV),ZFt P rv=some q->ZBY st e q=some v->∃ x,(f rv).run P W=.ok x W/\R (cx st ρ W st.A.length) v x) ->
 ∃ xs:List Value,(rvs.mapM f).run P W=.ok xs W/\RL (cx st ρ W st.A.length) vs xs
 | [],rs,vs,h,hv,_=>by
  simp at h;subst h
  simp only [ZET,oJ] at hv;subst hv
  exact ⟨[],by simp,.nil _⟩
 | rv::rvs,rs,vs,h,hv,hf=>by
  simp only [List.mapM_cons,Option.pure_def,Option.bind_eq_bind,oB,oJ] at h;obtain ⟨q,hq,qs,hqs,rfl⟩:=h;simp only [ZET,oB,oM] at hv;obtain ⟨v,hv,vs',hvs,rfl⟩:=hv;obtain ⟨x,hx,hxv⟩:=hf rv q v hq hv;obtain ⟨xs,hxs,hxr⟩:=ZOJ hqs hvs hf
  exact ⟨x::xs,by simp [hx,hxs],.cons hxv hxr⟩
theorem Zd1 {fn:Func} {rs:List RV} (hc:fn.results.toList.mapM (ZFt P)=some rs) {v:AV} (hv:Q3 st e rs=some v) (hr:Rel W0 B0 st ρ W) (he:EnvR (cx st ρ W st.A.length) e a.tmps) :
 ∃ x,(results fn a.tmps).run P W=.ok x W/\R (cx st ρ W st.A.length) v x:=by
 simp only [Q3,oM] at hv;obtain ⟨vs,hvs,rfl⟩:=hv
 obtain ⟨xs,hxs,hxr⟩:=ZOJ (P:=P) (ρ:=ρ) (W:=W) hc hvs (fun rv q v hq hv=>ZjF hq hr he hv)
 have hm:(fn.results.mapM (ZqM a.tmps)).run P W=.ok xs.toArray W:=by
  rw [<- Array.toArray_toList (xs:=fn.results),List.mapM_toArray,Sem.run_map,Array.toArray_toList,hxs];rfl
 refine ⟨if h:xs.toArray.size=1 then xs.toArray[0] else .tuple xs.toArray,?_,?_⟩
 ·rw [ZjE,Sem.run_bind,hm]
  simp only [Result.andThen_ok,Sem.run_pure]
 ·match vs,xs,hxr with
  | [],xs,h=>rw [h.nil_inv];simpa [ZH4] using R.tup' (C:=cx st ρ W st.A.length) (.nil _)
  | [v],xs,h =>
   obtain ⟨x,ys,rfl,h1,h2⟩:=h.cons_inv;rw [h2.nil_inv]
   simpa [ZH4] using h1
  | v::w::vs,xs,h =>
   obtain ⟨x,ys,rfl,h1,h2⟩:=h.cons_inv;obtain ⟨y,zs,rfl,h3,h4⟩:=h2.cons_inv
   rw [dif_neg (by simp)]
   exact R.tup' (.cons h1 (.cons h3 h4))
theorem initEnv_look:∀ {vs:List AV} {xs:List Value} {n t:Nat} {C:Cx},RL C vs xs->look (YB n vs) t=.any\/(n<=t/\∃ x,xs[t-n]?=some x/\R C (look (YB n vs) t) x)
 | [],xs,n,t,C,_=>.inl rfl
 | v::vs,xs,n,t,C,h=>by
  obtain ⟨x,ys,rfl,h1,h2⟩:=h.cons_inv;simp only [YB,look]
  split
  ·rename_i hk;subst hk
   exact .inr ⟨Nat.le_refl _,x,by simp,h1⟩
  ·rcases initEnv_look (n:=n+1) (t:=t) h2 with q|⟨q,y,hy,hr⟩
   ·exact .inl q
   ·refine .inr ⟨by omega,y,?_,hr⟩
    rw [show t-n=(t-(n+1))+1 by omega]
    simpa using hy
theorem ZXM {C:Cx} {vs:List AV} {xs:List Value} (h:RL C vs xs) (k:Nat):EnvR C (YB 0 vs) (xs.toArray++Array.replicate k Go.undef):=by
 intro t
 rcases initEnv_look (n:=0) (t:=t) h with q|⟨_,x,hx,hr⟩
 ·rw [q];exact .any _
 ·have hlt:=Zv hx
  simp only [Nat.sub_zero] at hx hlt
  have:(xs.toArray++Array.replicate k Go.undef).getD t Go.undef=x:=by
   simp only [Array.getD_eq_getD_getElem?]
   rw [Array.getElem?_append_left (by simpa using hlt)]
   simp [hx]
  rw [this];exact hr
theorem ZqN {KW:World->Bse->Prop} (hO:OSound P KW O) (hKW:KW W0 B0) (hm:P.follows .mixedOrders=true) (n:Nat) {f:FuncId} {fn:Func} {keep:Bool} {hs:List Hint} {pf:PF} (hf:P.funcs[f]?=some fn) (hc:Zr P keep hs fn=some pf)
 {args:List AV} {v:AV} (h:J0 O (fun F=>ZAj F n) pf args st=some (v,st')) (hr:Rel W0 B0 st ρ W) {xs:List Value} (hx:RL (cx st ρ W st.A.length) args xs) :
 Calls P f xs.toArray W fun e W'=>∃ x ρ',e=.returned x/\Goes W0 B0 st ρ W st' ρ' W'/\R (cx st' ρ' W' st'.A.length) v x:=by
 simp only [Zr,oB,oM] at hc;obtain ⟨c,hb,⟨pc,hs'⟩,hcc,rs,hrs,rfl⟩:=hc;simp only [J0,oB] at h;obtain ⟨⟨ex,e1,st1⟩,hex,hend⟩:=h;refine calls_of_wp hf hb ((wpIn_wide (n:=0)).1 ?_)
 have hsz:fn.ntmps<=(xs.toArray++Array.replicate (fn.ntmps-xs.toArray.size) Go.undef).size:=by simp;omega
 cases keep with
 | true =>
  simp only [if_true] at hex;refine exec_ok (ro:=none) hO hKW hm n c hs hs' pc hcc (YB 0 args) st ρ W { tmps:=xs.toArray++Array.replicate (fn.ntmps-xs.toArray.size) Go.undef,defers:=[] } (ex,e1,st1) _ hex hr (ZXM hx _) hsz ?_;intro a' ρ' W' g he' _ hd'
  have key:(Q3 st1 e1 rs).bind (Ql st1)=some (v,st')->a'.defers=[]/\∃ w,(results fn a'.tmps).run P W'=.ok w W'/\∃ x ρ',Ending.returned w=.returned x/\Goes W0 B0 st ρ W st' ρ' W'/\R (cx st' ρ' W' st'.A.length) v x:=by
   intro hend;simp only [oB] at hend;obtain ⟨v0,hv,hend⟩:=hend;obtain ⟨rfl,rfl⟩:=ZOD hend;obtain ⟨x,hx,hxv⟩:=Zd1 hrs hv g.rel he';exact ⟨hd',x,hx,x,ρ',rfl,g,hxv⟩
  cases ex with
  | norm=>exact key (by simpa [YI] using hend)
  | ret=>exact key (by simpa [YI] using hend)
  | ex id=>simp [YI] at hend
 | false =>
  simp only [jB,if_false] at hex
  have hpl:st.push.A.length=st.A.length+1:=by simp [St.push]
  have hpush:=Sub.push st
  refine exec_ok (ro:=none) hO hKW hm n c hs hs' pc hcc (YB 0 args) st.push ρ W { tmps:=xs.toArray++Array.replicate (fn.ntmps-xs.toArray.size) Go.undef,defers:=[] } (ex,e1,st1) _ hex (hpush.rel hr)
   (ZXM ((hx.mono (hpush.cx (Nat.le_refl _))).mono (Zdl (by omega))) _) hsz ?_
  intro a' ρ' W' g he' _ hd'
  have key:(Q3 st1 e1 rs).bind (ZH3 st1)=some (v,st')->a'.defers=[]/\∃ w,(results fn a'.tmps).run P W'=.ok w W'/\∃ x ρ',Ending.returned w=.returned x/\Goes W0 B0 st ρ W st' ρ' W'/\R (cx st' ρ' W' st'.A.length) v x:=by
   intro hend;simp only [oB,ZH3,YU,ZbC,oJ,jP] at hend;obtain ⟨v0,hv,⟨v1,st2⟩,hseal,⟨A',r0⟩,hpop,rfl,rfl⟩:=hend;obtain ⟨x,hx,hxv⟩:=Zd1 hrs hv g.rel he'
   have hl1:st1.A.length=st.A.length+1:=by rw [g.ev.len,hpl]
   obtain ⟨g2,hv2⟩:=ZBG Qd st1.A.length st1 v0 x v1 st2 g.rel (by omega) hxv hseal
   obtain ⟨g3,hle⟩:=ZWv g2.rel (g.ev.trans g2.ev) hpop;refine ⟨hd',x,hx,x,ρ',rfl,g3,?_⟩;rw [hl1] at hv2;have hl3:(⟨A',r0.1,r0.2⟩:St).A.length=st.A.length:=g3.ev.len;rw [hl3]
   exact R.mono (show R (cx st2 ρ' W' st.A.length) v1 x from hv2) hle
  cases ex with
  | norm=>exact key (by simpa [YI] using hend)
  | ret=>exact key (by simpa [YI] using hend)
  | ex id=>simp [YI] at hend
def Bse.of (W:World):Bse:=⟨W.heap.size,fun _=>(0,[])⟩
def KG (P : Program) (W0 : World) (B0 : Bse) : Prop := ∀ g, P.globalNamed "internal/bytealg.MaxLen" = some g -> ∃ m, W0.cell? ⟨g, 0, none⟩ = some (.int .i64 m) /\ g < B0.n
def ZXN (P:Program) (f:FuncId):Ent->Prop
 | .pf pf=>∃ fn keep hs,P.funcs[f]?=some fn/\Zr P keep hs fn=some pf
 | .base o=>(∀ args,FrP fun st=>o args st)/\∀ (args:List AV) (st:St) (v:AV) (st':St),o args st=some (v,st')->∀ (W0:World) (B0:Bse) (ρ:Rho) (W:World) (xs:List Value),KG P W0 B0->Rel W0 B0 st ρ W->RL (cx st ρ W st.A.length) args xs ->
  Calls P f xs.toArray W fun e W'=>∃ x ρ',e=.returned x/\Goes W0 B0 st ρ W st' ρ' W'/\R (cx st' ρ' W' st'.A.length) v x
def TabOk (P:Program) (T:Tab):Prop:=∀ (f:FuncId) (x:Ent),T f=some x->f<yB/\(∀ (ys:Array Value) (W:World),(callFunc f ys).run P W=.ok (.enter f ys) W)/\ZXN P f x
theorem ZjG {f:FuncId} {l:Nat} (h:f<yB) (e:f=yB+l):False:=by
 rw [e] at h;exact Nat.not_lt_of_le (Nat.le_add_right _ _) h
def Zry (P:Program) (K:World->Bse->Prop) (lv:Nat):Ent->Prop
 | .pf _=>False
 | .base o=>(∀ args,FrP fun st=>o args st)/\∀ (args:List AV) (st:St) (v:AV) (st':St),o args st=some (v,st')->∀ (W0:World) (B0:Bse) (ρ:Rho) (W:World) (xs ys:List Value),K W0 B0->KG P W0 B0->Rel W0 B0 st ρ W->RL (cx st ρ W st.A.length) args xs ->
  xs=ys++(B0.y lv).2->Zng P (B0.y lv).1 ys.toArray W fun e W'=>∃ x ρ',e=.returned x/\Goes W0 B0 st ρ W st' ρ' W'/\R (cx st' ρ' W' st'.A.length) v x
def ZjH (P:Program) (K:World->Bse->Prop) (T:Tab):Prop:=∀ (f:FuncId) (x:Ent),T f=some x->(f<yB/\(∀ (ys:Array Value) (W:World),(callFunc f ys).run P W=.ok (.enter f ys) W)/\ZXN P f x)\/∃ l,f=yB+l/\Zry P K l x
theorem TabOk.y {P:Program} {K:World->Bse->Prop} {T:Tab} (h:TabOk P T):ZjH P K T:=fun f x hx=>.inl (h f x hx)
theorem ZOK (hm:P.follows .mixedOrders=true) {K:World->Bse->Prop} {T:Tab} (hT:ZjH P K T):∀ n,OSound P (fun W B=>K W B/\KG P W B) (Qr T n)
 | 0=>⟨fun f args=>FrP.nope,fun _ h=>by simp [Qr] at h,fun h=>by simp [Qr] at h⟩
 | n+1=>by
  have ih:=ZOK hm hT n
  refine ⟨fun f args=>?_,fun {f args st r} hf h=>?_,fun {f args st v st'} h=>?_⟩
  ·show FrP fun st=>(T f).bind (entK (Qr T n) (fun F=>ZAj F n) args st)
   cases hx:T f with
   | none=>exact FrP.nope
   | some x =>
    cases x with
    | pf pf=>exact ZqF ih.frame n pf args
    | base o =>
     rcases hT f _ hx with ⟨_,_,hk⟩|⟨l,_,hk⟩
     ·exact hk.1 args
     ·exact hk.1 args
  ·simp only [Qr,oB] at h
   obtain ⟨x,hx,_⟩:=h
   rcases hT f x hx with ⟨_,he,_⟩|⟨l,hl,_⟩
   ·exact he
   ·exact (ZjG hf hl).elim
  ·intro W0 B0 ρ W xs hKW hr hxs
   simp only [Qr,oB] at h;obtain ⟨x,hx,h⟩:=h
   rcases hT f x hx with ⟨hf,_,hk⟩|⟨l,hl,hk⟩
   ·refine ⟨fun _=>?_,fun l ys hl _=>(ZjG hf hl).elim⟩
    cases x with
    | pf pf =>
     obtain ⟨fn,keep,hs,hf,hc⟩:=hk;exact ZqN ih hKW hm n hf hc h hr hxs
    | base o=>exact hk.2 args st v st' h W0 B0 ρ W xs hKW.2 hr hxs
   ·refine ⟨fun hf=>(ZjG hf hl).elim,fun l' ys hl' hys=>?_⟩
    obtain rfl:l'=l:=Nat.add_left_cancel (hl'.symm.trans hl)
    cases x with
    | pf pf=>exact hk.elim
    | base o=>exact hk.2 args st v st' h W0 B0 ρ W xs ys hKW.1 hKW.2 hr hxs hys
theorem Zss (hm:P.follows .mixedOrders=true) {K:World->Bse->Prop} {T:Tab} (hT:ZjH P K T):OSound P (fun W B=>K W B/\KG P W B) (S T):=by
 refine ⟨fun f args st r h=>?_,fun {f args st r} hf h=>?_,fun {f args st v st'} h=>?_⟩
 ·obtain ⟨n,hn⟩:=S_iff.1 h
  obtain ⟨h1,h2⟩:=(ZOK hm hT n).frame f args st r hn
  exact ⟨h1,fun M i B hh=>S_iff.2 ⟨n,h2 M i B hh⟩⟩
 ·obtain ⟨n,hn⟩:=S_iff.1 h
  exact (ZOK hm hT n).enter hf hn
 ·intro W0 B0 ρ W xs hKW hr hxs
  obtain ⟨n,hn⟩:=S_iff.1 h;exact (ZOK hm hT n).calls hn hKW hr hxs
theorem ZqO {T:Tab} (hT:TabOk P T) {f:FuncId} {args:List AV} {st:St} {r:AV × St} (h:S T f args st=some r):f<yB:=by
 obtain ⟨n,hn⟩:=S_iff.1 h
 cases n with
 | zero=>simp [Qr] at hn
 | succ n =>
  simp only [Qr,oB] at hn;obtain ⟨x,hx,_⟩:=hn;exact (hT f x hx).1
theorem ZqP (hm:P.follows .mixedOrders=true) {T:Tab} (hT:TabOk P T) {f:FuncId} {args:List AV} {st:St} {v:AV} {st':St} (h:S T f args st=some (v,st')) {W0:World} {B0:Bse} {ρ:Rho} {W:World} {xs:List Value} (hg:KG P W0 B0) (hr:Rel W0 B0 st ρ W) (hx:RL (cx st ρ W st.A.length) args xs) :
 Calls P f xs.toArray W fun e W'=>∃ x ρ',e=.returned x/\Goes W0 B0 st ρ W st' ρ' W'/\R (cx st' ρ' W' st'.A.length) v x :=
 ((Zss hm (K:=fun _ _=>True) hT.y).calls h ⟨trivial,hg⟩ hr hx).1 (ZqO hT h)
def ZOL:List (FuncId × Ent)->Tab
 | [],_=>none
 | (g,x)::l,f=>if g=f then some x else ZOL l f
def ZhQ (P:Program):List (FuncId × Ent)->Prop
 | []=>True
 | (f,x)::l=>((∀ (ys:Array Value) (W:World),(callFunc f ys).run P W=.ok (.enter f ys) W)/\ZXN P f x)/\ZhQ P l
def ZjI (l:List (FuncId × Ent)):Bool:=l.all fun p=>Nat.blt p.1 yB
theorem Zd2:∀ {l:List (FuncId × Ent)},ZhQ P l->ZjI l=true->TabOk P (ZOL l)
 | [],_,_,f,x,h=>by simp [ZOL] at h
 | (g,y)::l,⟨h1,h2⟩,hy,f,x,h=>by
  have hy2:(Nat.blt g yB && ZjI l)=true:=hy;rw [Bool.and_eq_true] at hy2;simp only [ZOL] at h
  split at h
  ·rename_i hg;subst hg
   simp only [oJ] at h;subst h;exact ⟨Nat.le_of_ble_eq_true hy2.1,h1⟩
  ·exact Zd2 h2 hy2.2 f x h
theorem Znm {l:List (FuncId × Ent)} (h:ZhQ P l) (hy:ZjI l=true:=by rfl):TabOk P (ZOL l):=Zd2 h hy
def St.empty:St:=⟨[],false,[]⟩
theorem Zlp (W:World):Rel W (.of W) .empty ⟨fun _ _=>⟨0,0,0⟩,fun _=>(0,[])⟩ W:=by
 have hget:∀ lv ix,St.empty.get lv ix=none:=by
  intro lv ix;unfold St.empty St.get
  split<;>simp [vis]
 refine ⟨.refl _ _,Nat.le_refl _,rfl,?_,?_,?_,?_⟩<;>intro lv ix
 ·intro w ver es h;rw [hget] at h;simp at h
 ·intro w ver es lv' ix' w' ver' es' h;rw [hget] at h;simp at h
 ·intro es h;rw [hget] at h;simp at h
 ·intro es lv' ix' es' h;rw [hget] at h;simp at h
theorem Znn (s:ByteArray):Value.string s=.string ⟨s.data.toList.toArray⟩:=by simp
end
section
variable {P:Program} {W0:World} {B0:Bse} {st:St} {ρ:Rho} {W W':World}
theorem ZMx (h:Below W.heap.size W W') {b o:Nat} {v:Value} (hc:Qi W b o v):Qi W' b o v:=by
 have hlt:=ZLU hc;unfold Qi at hc ⊢
 rw [h.cell (by exact hlt)];exact hc
theorem ZhR (hr:Rel W0 B0 st ρ W) (h:Below W.heap.size W W'):Goes W0 B0 st ρ W st ρ W':=by
 have hle:∀ m,(cx st ρ W m).le (cx st ρ W' m):=fun m=>⟨fun b o v q=>⟨ZMx h q.1,q.2⟩,fun _ _ _ _ _ _ q=>q,fun _ _ _ _ _ _ q=>q,fun _ _ _ q=>q,fun _ _ _ q=>q⟩
 refine ⟨⟨hr.below.trans (.of_all hr.b0 h),by have:=hr.b0;have:=h.size;omega,hr.yl,?_,hr.sep,?_,hr.msep⟩,⟨rfl,fun m _=>hle m,fun _ r h=>⟨r,h,rfl,fun _=>rfl⟩,rfl,fun _=>rfl,rfl⟩⟩
 ·intro lv ix w ver es hg
  obtain ⟨a1,a2,a3⟩:=hr.arr lv ix w ver es hg
  refine ⟨a1,fun i e he=>?_,fun j hj=>?_⟩
  ·obtain ⟨x,h1,h2,h3⟩:=a2 i e he
   exact ⟨x,h1.mono (hle lv),h2,h3.mono fun _ _ _=>ZMx h⟩
  ·obtain ⟨m1,m2,m3⟩:=a3 j hj
   obtain ⟨u,hu⟩:=Option.isSome_iff_exists.1 m2;have hc:Qi W' _ _ u:=ZMx h hu;have hlt:=ZLU (W:=W) hu;unfold Qi at hc
   exact ⟨m1,by rw [hc];rfl,by rw [h.frozen (by exact hlt)];exact m3⟩
 ·intro lv ix es hg
  obtain ⟨m1,en,clock,m2,m3,m4⟩:=hr.map lv ix es hg;have hlt:(ρ lv ix).b<W.heap.size:=YE m2
  refine ⟨m1,en,clock,by rw [h.block _ hlt];exact m2,m3,fun i k v hk=>?_⟩
  obtain ⟨n1,x,n2,n3,n4⟩:=m4 i k v hk;exact ⟨n1,x,n2,n3.mono (hle lv),n4.mono (hle lv)⟩
def plain:AV->Bool
 | .bool _=>true
 | .int _ _=>true
 | .str _=>true
 | _=>false
open Classical in
noncomputable def Zst (T:Tab) (f:FuncId):Ent:=.base fun args st =>
 if h:∃ v st',S T f args .empty=some (v,st')/\args.all plain=true/\plain v=true then some (h.choose,st) else none
end
structure Rng where
 g:Opd
 ps:List Nat
 assign:PC
 body:PC
structure RF where
 nt:Nat
 pre:PC
 rng:Rng
 post:PC
 res:List RV
section
variable {P:Program} {W0:World} {B0:Bse} {st st':St} {ρ:Rho} {W:World} {e:Env}
end
section
variable {P:Program} {T:Tab} {W0:World} {B0:Bse} {st st':St} {ρ:Rho} {W:World} {e:Env} {a:Act}
end
section
variable {P:Program} {T:Tab} {W0:World} {B0:Bse} {st st':St} {ρ:Rho} {W:World} {e:Env} {a:Act}
end
section
variable {P:Program} {W0:World} {B0:Bse} {st:St} {ρ:Rho} {W W':World}
def ZMy:List AV->Option (List (List UInt8))
 | []=>some []
 | .str s::vs=>(ZMy vs).map (s::·)
 | _::_=>none
def ZC8 (st:St):AV->Option (List AV)
 | .str _=>none
 | v=>elems st v
theorem Zlq {st:St} {v:AV} {es:List AV} (h:ZC8 st v=some es):elems st v=some es/\∀ t,elems t v=some es->ZC8 t v=some es:=by
 cases v with
 | str s=>simp [ZC8] at h
 | _=>exact ⟨h,fun t q=>q⟩
theorem Zd3:∀ {es:List AV} {ss:List (List UInt8)},ZMy es=some ss->es=ss.map .str
 | [],ss,h=>by simp only [ZMy,oJ] at h;subst h;rfl
 | v::vs,ss,h=>by
  cases v<;>simp only [ZMy,oM,reduceCtorEq] at h
  obtain ⟨r,hr,rfl⟩:=h;rw [Zd3 hr];rfl
theorem ZqQ (hr:Rel W0 B0 st ρ W) {v:AV} {es:List AV} {ss:List (List UInt8)} (he:ZC8 st v=some es) (hs:ZMy es=some ss) {x:Value} (hx:R (cx st ρ W st.A.length) v x) :
 ∃ a c,x=.slice a ss.length c/\(ss=[]\/∃ b o,a=some ⟨b,o,none⟩/\ss.length<=c/\∀ (j:Nat) (s:List UInt8),ss[j]?=some s->Qi W b (o+j) (.string ⟨s.toArray⟩)):=by
 have hes:=Zd3 hs
 have hone:∀ (s:List UInt8),(Value.string ⟨s.toArray⟩).cells.size=1:=fun _=>rfl
 cases v with
 | str s=>simp [ZC8] at he
 | nils =>
  simp only [ZC8,elems,oJ] at he;subst he;simp only [ZMy,oJ] at hs;subst hs
  cases hx with
  | nils a=>exact ⟨a,0,rfl,.inl rfl⟩
 | lit es' =>
  simp only [ZC8,elems,oJ] at he;subst he;obtain ⟨a,c,rfl,hc,h⟩:=ZEA hx
  have hlen:es'.length=ss.length:=by rw [hes];simp
  refine ⟨a,c,by rw [hlen],?_⟩
  rcases h with h|⟨b,o,w,xs,rfl,h1,h2⟩
  ·left;rw [h] at hlen;exact List.length_eq_zero_iff.1 hlen.symm
  ·right
   refine ⟨b,o,rfl,by omega,fun j s hj=>?_⟩
   have hlt:=Zv hj
   have hje:es'[j]?=some (.str s):=by rw [hes,jG,hj];rfl
   have hv:=YL (h1 j _ hje)
   obtain ⟨hw,hl⟩:=h2 j (by omega)
   rw [hv] at hw hl;rw [hone] at hw;subst hw
   have:=hl 0 (.string ⟨s.toArray⟩) rfl
   rw [Nat.mul_one,Nat.add_zero] at this;exact this.1
 | ref lv ix ver s n =>
  simp only [ZC8,elems] at he;unfold ZBV at he
  split at he
  ·rename_i w ver' es0 hg
   split at he
   ·rename_i hc
    obtain ⟨rfl,hsn⟩:=hc;simp only [oJ] at he
    cases hx with
    | ref hp =>
     obtain ⟨_,_,_,a,c,rfl,hp⟩:=hp;obtain ⟨p1,p2,p3⟩:=hp w es0 hg
     have hlen:ss.length=n:=by
      have:es.length=ss.length:=by rw [hes];simp
      rw [<- this,<- he];simp;omega
     refine ⟨a,c,by rw [hlen],?_⟩
     by_cases hn:n=0
     ·left;exact List.length_eq_zero_iff.1 (by omega)
     ·right
      have ho:=hr.arr lv ix w ver es0 hg;have hle:=ho.len
      have hw1:w=1:=by
       have h0:(0:Nat)<ss.length:=by omega
       have hj0:es[0]?=some (.str ss[0]):=by rw [hes,jG,jE h0];rfl
       rw [<- he,List.getElem?_take,if_pos (by omega),List.getElem?_drop] at hj0
       obtain ⟨y,q1,q2,_⟩:=ho.el _ _ hj0;rw [YL q1,hone] at q2;exact q2.symm
      subst hw1
      refine ⟨(ρ lv ix).b,(ρ lv ix).o+s*1,p3 (by omega),by omega,fun j t hj=>?_⟩
      have hlt:=Zv hj
      have hje:es[j]?=some (.str t):=by rw [hes,jG,hj];rfl
      rw [<- he,List.getElem?_take,if_pos (by omega),List.getElem?_drop] at hje
      obtain ⟨y,q1,q2,q3⟩:=ho.el _ _ hje;rw [YL q1] at q3
      have:=q3 0 (.string ⟨t.toArray⟩) rfl
      rw [show (ρ lv ix).o+s*1+j=(ρ lv ix).o+(s+j)*1+0 by omega]
      exact this
   ·simp at he
  ·simp at he
 | _=>simp [ZC8,elems] at he
def Zkd:List AV->St->Option (AV × St)
 | [v,.str sep],st=>(ZC8 st v).bind fun es=>(ZMy es).bind fun ss =>
  if ss.length<=140737488355328/\(sep.intercalate ss).length<=140737488355328 then some (.str (sep.intercalate ss),st) else none
 | _,_=>none
theorem ZqR {f:FuncId}
 (h0:∀ (a:Option Addr) (c:Nat) (sep:ByteArray) (w:World),Calls P f #[.slice a 0 c,.string sep] w fun e w'=>e=.returned (.string ⟨#[]⟩)/\w'=w)
 (h1:∀ (bk o c:Nat) (xs:List ByteArray) (sep:ByteArray) (w:World),(∀ (j:Nat) x,xs[j]?=some x->w.cell? ⟨bk,o+j,none⟩=some (.string x))->bk<w.heap.size->xs.length<=140737488355328->xs.length<=c ->
  (sep.data.toList.intercalate (xs.map (·.data.toList))).length<=140737488355328 ->
  Calls P f #[.slice (some ⟨bk,o,none⟩) xs.length c,.string sep] w fun e w'=>e=.returned (.string ⟨(sep.data.toList.intercalate (xs.map (·.data.toList))).toArray⟩)/\Below w.heap.size w w') :
 ZXN P f (.base Zkd):=by
 refine ⟨fun args st r hr=>?_,?_⟩
 ·unfold Zkd at hr ⊢
  simp only at hr ⊢
  split at hr
  ·rename_i v0 sep
   simp only [oB] at hr;obtain ⟨es,he,ss,hs,h⟩:=hr
   split at h
   ·rename_i hb
    simp only [oJ] at h;subst h
    refine ⟨rfl,fun M i B hh=>?_⟩
    have he':ZC8 (st.fillA M i B) v0=some es:=by
     obtain ⟨k1,k2⟩:=Zlq he;exact k2 _ ((Jv hh).elems k1)
    simp only [he',hs,oS,if_pos hb]
   ·simp at h
  ·simp at hr
 intro args st v st' h W0 B0 ρ W xs _ hr hx;unfold Zkd at h
 split at h
 ·rename_i v0 sep
  simp only [oB] at h;obtain ⟨es,he,ss,hs,h⟩:=h
  split at h
  ·rename_i hb
   simp only [oJ,jP] at h;obtain ⟨rfl,rfl⟩:=h;obtain ⟨x,ys,rfl,hx1,hx2⟩:=hx.cons_inv;obtain ⟨y,zs,rfl,hy1,hy2⟩:=hx2.cons_inv;obtain rfl:=hy2.nil_inv;have hy:=YL hy1;subst hy;obtain ⟨a,c,rfl,hat⟩:=ZqQ hr he hs hx1
   rcases hat with rfl|⟨b,o,rfl,hc,hcell⟩
   ·refine (h0 a c ⟨sep.toArray⟩ W).mono ?_
    rintro e' W' ⟨rfl,rfl⟩
    refine ⟨_,ρ,rfl,.refl hr,?_⟩
    have:sep.intercalate ([]:List (List UInt8))=[]:=rfl
    rw [this];exact .str []
   ·have e1 : (ss.map fun s => ByteArray.mk s.toArray).map (·.data.toList) = ss := by
     rw [List.map_map];simp [Function.comp_def]
    by_cases hss:ss=[]
    ·subst hss
     refine (h0 _ c ⟨sep.toArray⟩ W).mono ?_
     rintro e' W' ⟨rfl,rfl⟩
     refine ⟨_,ρ,rfl,.refl hr,?_⟩
     have:sep.intercalate ([]:List (List UInt8))=[]:=rfl
     rw [this];exact .str []
    ·have hpos:=List.length_pos_iff.2 hss
     have hcell0:=hcell 0 ss[0] (jE hpos)
     have:=h1 b o c (ss.map fun s=>ByteArray.mk s.toArray) ⟨sep.toArray⟩ W ?_ (ZLU hcell0) (by simpa using hb.1) (by simpa using hc) (by rw [e1];exact hb.2)
     ·rw [List.length_map] at this
      refine this.mono ?_
      rintro e' W' ⟨rfl,hbel⟩
      have gq:=ZhR hr hbel;refine ⟨_,ρ,rfl,gq,?_⟩;rw [e1];exact .str _
     ·intro j x hj
      rw [jG,oM] at hj;obtain ⟨s,hs',rfl⟩:=hj;exact hcell j s hs'
  ·simp at h
 ·simp at h
end
section
open Go.Shelf Go.RowKit Go.Lib Go.Proofs
variable {P:Program} {ρ:Ren}
set_option maxHeartbeats 2000000 in
set_option maxRecDepth 100000 in
theorem Zlr (L:SlLaysE0.n41 P ρ) (i0:TypeInfo) (z:Value) (size bytes:Nat) (hi:P.info? (ρ.t 23)=some i0) (hz0:i0.zero=some z) (hz1:i0.size=size) (hz2:i0.bytes=bytes) (hzs:z.cells.size=size) (hsz:0<size)
 (z23:∀ w,(Go.sizeOf (ρ.t 23)).run P w=.ok size w) (ad:Addr) (n c:Nat) (news:List Value) (w:World) (hl:news.length=n*size) (hn:n<=maxLen) (hbig:n*bytes<=140737488355328)
 (hc:∀ j u,news[j]?=some u->w.cell? (ad.add j)=some u) (h1:∀ u∈news,u.oneCell'=true) :
 Calls P (ρ.f 41) #[.slice (some ad) n c] w fun e w'=>∃ v',e=.returned v'/\w'.ownsRow w.heap.size (ρ.t 23) size v' n news/\Below w.heap.size w w':=by
 have mixed:=L.mixed;have t4:=L.t4;have a4:=L.a4;have z4:=L.z4;have v4:=L.v4;have t22:=L.t22;have a22:=L.a22;have z22:=L.z22;have v22:=L.v22
 have q22:∀ (w:World) (a:Option Addr) (n c n' c':Nat),(binOp .eql (ρ.t 22) (.slice a n c) (.slice none n' c')).run P w=.ok (.bool a.isNone) w:=fun w a n c n' c'=>Lib.run_eql_slice_nil w _ _ a n c n' c' L.t22
 have u22:∀ w,Sem.run P (underlying (ρ.t 22)) w=.ok (TypeDesc.slice (ρ.t 23)) w:=run_underlying t22;have A:Aside (∀ j u,news[j]?=some u->w.cell? (ad.add j)=some u):=hc;clear hc;obtain ⟨_,_,FG⟩:=L.f41
 go_enter FG,SlBodyN.n41_ntmps ρ
 go_wp2_with (at_builtin;refine wpList_append_own _ rfl _ _ (ρ.t 22) rfl w.heap.size (ρ.t 23) i0 z size bytes t22 hi hz0 hz1 hz2 hzs hsz _ _ _ rfl (World.ownsRow_made w #[] 0 (Nat.le_refl _) (Nat.zero_le _) (by simp)) ad n c news rfl ?qc1 ?qc2 ?qc3 ?qc4 ?qc5 ?qc6 ?_)
 case qc1=>exact hl
 case qc2 =>
  intro j u hj;exact Lib.cell?_alloc_some _ (A.out j u hj)
 case qc3=>exact h1
 case qc4=>rw [Nat.zero_add];exact hn
 case qc5=>rw [Nat.zero_add];exact hbig
 case qc6=>simp
 intro v' w1 hown hgrow hnil
 go_wp2
 go_ret
 refine ⟨v',rfl,by simpa using hown,?_⟩
 exact ((Below.refl _ w).alloc (Nat.le_refl _) _).grown hgrow (by simp) (by intro k hk;simp [Value.ownBlock] at hk;omega)
end
def ZMz (w:Nat):List AV->St->Option (AV × St)
 | [.lit es],st=>if JH w es=true/\es.length<=65536 then some (.lit es,st) else none
 | [.ref lv ix ver s n],st=>(ZBV ver s n (st.get lv ix)).bind fun es=>if (JH w es=true/\es.length<=65536)/\es.all (imm 6)=true then some (.lit es,st) else none
 | _,_=>none
section
variable {P:Program} {W0:World} {B0:Bse} {st:St} {ρ:Rho} {W W':World}
theorem ZqS {w:Nat} {xs:List Value} (hw:∀ x∈xs,x.cells.size=w) {bb oo:Nat} (hlies:∀ i x,xs[i]?=some x->Lies (Qi W) bb (oo+i*w) x) {j:Nat} {v:Value} (hv:(Z4 xs)[j]?=some v) :
 W.cell? ⟨bb,oo+j,none⟩=some v:=by
 have hj:=Zv hv;rw [XG hw] at hj
 have hw0 : 0 < w := by rcases Nat.eq_zero_or_pos w with h0 | h0; · subst h0; omega
                        ·exact h0
 have hi:j / w<xs.length:=Nat.div_lt_of_lt_mul (by rw [Nat.mul_comm];exact hj)
 have hx:=jE hi;have hxw:=hw _ (List.getElem_mem hi)
 have hjm:j % w<(xs[j / w]).cells.size:=by rw [hxw];exact Nat.mod_lt _ hw0
 have hget:=ZCt hw hx (j:=j % w) (v:=(xs[j / w]).cells[j % w]) (Array.getElem?_eq_getElem hjm)
 have hdm:j / w*w+j % w=j:=by rw [Nat.mul_comm];exact Nat.div_add_mod j w
 rw [hdm,hv] at hget;simp only [oJ] at hget
 have:=hlies _ _ hx (j % w) _ (Array.getElem?_eq_getElem hjm)
 rw [<- hget] at this;unfold Qi at this
 rw [show oo+j=oo+j / w*w+j % w by omega]
 exact this
theorem Zd4 {f:FuncId} {w:Nat} {T:TypeId}
 (h1:∀ (ad:Addr) (n c:Nat) (news:List Value) (W:World),news.length=n*w->n<=65536->(∀ j u,news[j]?=some u->W.cell? (ad.add j)=some u)->(∀ u∈news,u.oneCell'=true) ->
  Calls P f #[.slice (some ad) n c] W fun e W'=>∃ v',e=.returned v'/\W'.ownsRow W.heap.size T w v' n news/\Below W.heap.size W W')
 (hr:Rel W0 B0 st ρ W) {es:List AV} {b o c:Nat} {xs:List Value} (hsw:JH w es=true) (hn:es.length<=65536) (hpos:0<es.length) (hv:RL (cx st ρ W st.A.length).pure es xs)
 (hl:∀ i x,xs[i]?=some x->Lies (Qi W) b (o+i*w) x) :
 Calls P f #[.slice (some ⟨b,o,none⟩) es.length c] W fun e W'=>∃ x ρ',e=.returned x/\Goes W0 B0 st ρ W st ρ' W'/\R (cx st ρ' W' st.A.length) (.lit es) x:=by
 have hwide:∀ (i:Nat) (x:Value),xs[i]?=some x->x.cells.size=w/\∀ y∈x.cells.toList,y.oneCell'=true:=by
  intro i x hx;have hi:=Zv hx;rw [<- hv.1] at hi;exact (hv.2 i _ x (jE hi) hx).wide (ZC5 _) (ZCu hsw (List.getElem_mem hi))
 have hsz:∀ x∈xs,x.cells.size=w:=by
  intro x hx;obtain ⟨i,hi⟩:=List.getElem?_of_mem hx;exact (hwide i x hi).1
 have hcells:∀ j u,(Z4 xs)[j]?=some u->W.cell? ((⟨b,o,none⟩:Addr).add j)=some u:=by
  intro j u hj;rw [ZAp];exact ZqS hsz hl hj
 have hone:∀ u∈Z4 xs,u.oneCell'=true:=by
  intro u hu;simp only [Z4,List.mem_flatMap] at hu;obtain ⟨y,hy,hyu⟩:=hu;obtain ⟨i,hi⟩:=List.getElem?_of_mem hy;exact (hwide i y hi).2 u hyu
 refine (h1 _ es.length c (Z4 xs) W (by rw [XG hsz,hv.1]) hn hcells hone).mono ?_
 rintro e W' ⟨v',rfl,hown,hbel⟩
 refine ⟨_,ρ,rfl,ZhR hr hbel,?_⟩
 rcases hown.2 with ⟨_,hz⟩|⟨g,cap,cur,rfl,hg,hrow,hcap,_,hcs,htake⟩
 ·omega
 ·have hq:=ZhR hr hbel
  have:=Zep (C:=cx st ρ W' st.A.length) (es:=es) (xs:=xs) (b:=g) (o:=0) (w:=w) (c:=cap) (a:=some ⟨g,0,none⟩) (hv.mono (hq.ev.le _ (Nat.le_refl _)).pure) ?_ hcap (fun _=>rfl)
  ·exact this
  ·intro i x hx
   refine ⟨hsz x (jM hx),fun j u hu=>?_⟩
   have hfl:=ZCt hsz hx hu;have hcell:=hown.cells (g:=g) rfl _ _ hfl;rw [ZAp] at hcell
   refine ⟨by rw [show 0+i*w+j=0+(i*w+j) by omega];exact hcell,?_⟩
   rintro ⟨lv',ix',w2,ver',es',hg',h2,h3,h4⟩
   have hm:=(hr.arr _ _ _ _ _ hg').mem (0+i*w+j-(ρ lv' ix').o) (by omega)
   obtain ⟨y,hy⟩:=Option.isSome_iff_exists.1 hm.2.1
   have:=ZLU (W:=W) (b:=(ρ lv' ix').b) hy
   omega
theorem Zd5 {f:FuncId} {w:Nat} {T:TypeId}
 (h0:∀ (n c:Nat) (W:World),Calls P f #[.slice none n c] W fun e W'=>e=.returned (.slice none 0 0)/\W'=W)
 (h1:∀ (ad:Addr) (n c:Nat) (news:List Value) (W:World),news.length=n*w->n<=65536->(∀ j u,news[j]?=some u->W.cell? (ad.add j)=some u)->(∀ u∈news,u.oneCell'=true) ->
  Calls P f #[.slice (some ad) n c] W fun e W'=>∃ v',e=.returned v'/\W'.ownsRow W.heap.size T w v' n news/\Below W.heap.size W W')
 (hr:Rel W0 B0 st ρ W) (a:Option Addr) (c:Nat) :
 Calls P f #[.slice a 0 c] W fun e W'=>∃ x ρ',e=.returned x/\Goes W0 B0 st ρ W st ρ' W'/\R (cx st ρ' W' st.A.length) (.lit []) x:=by
 cases a with
 | none =>
  refine (h0 0 c W).mono ?_
  rintro e W' ⟨rfl,rfl⟩
  exact ⟨_,ρ,rfl,.refl hr,.lit0 _ _⟩
 | some ad =>
  refine (h1 ad 0 c [] W (by simp) (by omega) (by simp) (by simp)).mono ?_
  rintro e W' ⟨v',rfl,hown,hbel⟩
  refine ⟨_,ρ,rfl,ZhR hr hbel,?_⟩
  rcases hown.2 with ⟨rfl,_⟩|⟨g,cap,cur,rfl,_⟩
  ·exact .lit0 _ _
  ·exact .lit0 _ _
theorem Zno {f:FuncId} {w:Nat} {T:TypeId}
 (h0:∀ (n c:Nat) (W:World),Calls P f #[.slice none n c] W fun e W'=>e=.returned (.slice none 0 0)/\W'=W)
 (h1:∀ (ad:Addr) (n c:Nat) (news:List Value) (W:World),news.length=n*w->n<=65536->(∀ j u,news[j]?=some u->W.cell? (ad.add j)=some u)->(∀ u∈news,u.oneCell'=true) ->
  Calls P f #[.slice (some ad) n c] W fun e W'=>∃ v',e=.returned v'/\W'.ownsRow W.heap.size T w v' n news/\Below W.heap.size W W') :
 ZXN P f (.base (ZMz w)):=by
 refine ⟨fun args st r hr=>?_,?_⟩
 ·unfold ZMz at hr ⊢
  simp only at hr ⊢
  split at hr
  ·split at hr
   ·rename_i hc
    simp only [oJ] at hr;subst hr
    exact ⟨rfl,fun M i B hh=>by rw [if_pos hc]⟩
   ·simp at hr
  ·rename_i lv ix ver s n
   simp only [oB] at hr;obtain ⟨es,he,hr⟩:=hr
   split at hr
   ·rename_i hc
    simp only [oJ] at hr;subst hr
    refine ⟨rfl,fun M i B hh=>?_⟩
    have he':elems (st.fillA M i B) (.ref lv ix ver s n)=some es:=(Jv hh).elems (x:=.ref lv ix ver s n) he;simp only [elems] at he';rw [he',oS,if_pos hc]
   ·simp at hr
  ·simp at hr
 intro args st v st' h W0 B0 ρ W xs _ hr hx;unfold ZMz at h
 split at h
 ·rename_i es
  split at h
  ·rename_i hc
   obtain ⟨hsw,hn⟩:=hc;simp only [oJ,jP] at h;obtain ⟨rfl,rfl⟩:=h;obtain ⟨x,ys,rfl,hx1,hx2⟩:=hx.cons_inv;obtain rfl:=hx2.nil_inv;obtain ⟨a,c,rfl,hlc,hk⟩:=ZEA hx1
   rcases Nat.eq_zero_or_pos es.length with hz|hpos
   ·have:es=[]:=List.length_eq_zero_iff.1 hz
    subst this;exact Zd5 h0 h1 hr a c
   ·rcases hk with rfl|⟨b,o,w',vs,rfl,hv,hl⟩
    ·simp at hpos
    have hww:w'=w:=by
     have:=(hl 0 hpos).1
     rw [((hv 0 _ (jE hpos)).wide (ZC5 _) (ZCu hsw (List.getElem_mem hpos))).1] at this;exact this.symm
    subst hww
    refine Zd4 h1 hr (xs:=(List.range es.length).map vs) hsw hn hpos ⟨by simp,fun i e x he hx=>?_⟩ fun i x hx=>?_
    ·have hi:=Zv he
     rw [jG,List.getElem?_range hi] at hx;simp only [Option.map_some,oJ] at hx;subst hx;exact hv i e he
    ·have hi:=Zv hx
     rw [List.length_map,List.length_range] at hi;rw [jG,List.getElem?_range hi] at hx;simp only [Option.map_some,oJ] at hx;subst hx
     exact (hl i hi).2.mono fun _ _ _ q=>q.1
  ·simp at h
 ·rename_i lv ix ver s n
  simp only [oB] at h;obtain ⟨es,he,h⟩:=h
  split at h
  ·rename_i hc
   obtain ⟨⟨hsw,hn⟩,him⟩:=hc;simp only [oJ,jP] at h;obtain ⟨rfl,rfl⟩:=h;obtain ⟨x,ys,rfl,hx1,hx2⟩:=hx.cons_inv;obtain rfl:=hx2.nil_inv
   cases hx1 with
   | ref hp =>
    obtain ⟨_,_,_,a,c,rfl,hp⟩:=hp;unfold ZBV at he
    split at he
    ·rename_i w2 ver' es0 hg
     split at he
     ·rename_i hc
      obtain ⟨rfl,hsn⟩:=hc;simp only [oJ] at he;obtain ⟨p1,p2,p3⟩:=hp w2 es0 hg
      have hlen:es.length=n:=by rw [<- he];simp;omega
      rcases Nat.eq_zero_or_pos n with hz|hpos
      ·subst hz
       have:es=[]:=List.length_eq_zero_iff.1 hlen
       subst this;exact Zd5 h0 h1 hr a c
      ·have aok:=hr.arr _ _ _ _ _ hg
       have hle:=aok.len;obtain ⟨vs,hvs,hlies⟩:=aok.vals
       have hRL:RL (cx st ρ W lv) es ((vs.drop s).take n):=by rw [<- he];exact (hvs.drop s).take n
       have hxs:∀ (i:Nat) (x:Value),((vs.drop s).take n)[i]?=some x->vs[s+i]?=some x:=by
        intro i x hx;rw [List.getElem?_take] at hx
        split at hx
        ·rw [List.getElem?_drop] at hx;exact hx
        ·simp at hx
       have hpos':0<es.length:=by omega
       have hww:w2=w:=by
        obtain ⟨x,hx,hR⟩:=hRL.get (jE hpos');have q1:=(hR.wide (Yy _ _ _ _) (ZCu hsw (List.getElem_mem hpos'))).1;have q2:=(hlies _ _ (hxs 0 x hx)).1;rw [q1] at q2;exact q2.symm
       subst hww
       have ha:=p3 (by omega)
       subst ha;rw [<- hlen]
       refine Zd4 h1 hr (xs:=(vs.drop s).take n) hsw hn hpos' ⟨hRL.1,fun i e x he hx=>?_⟩ fun i x hx=>?_
       ·exact ZhM (List.all_eq_true.1 him e (jM he)) (hRL.2 i e x he hx) fun _ _ _ q=>q
       ·have:=(hlies _ _ (hxs i x hx)).2
        rwa [show (ρ lv ix).o+s*w2+i*w2=(ρ lv ix).o+(s+i)*w2 by rw [Nat.add_mul];omega]
     ·simp at he
    ·simp at he
  ·simp at h
 ·simp at h
end
end Go.QAbs
namespace Go.QAbs
def J4:Env->Nat->Option AV
 | [],_=>none
 | (k,v)::e,t=>match Nat.beq k t with
  | true=>some v
  | false=>J4 e t
def Zj (e:Env):Opd->Option AV
 | .s t=>J4 e t
 | .v a=>some a
def ZJm (e:Env):List Opd->Option (List AV)
 | []=>some []
 | o::os=>match Zj e o with
  | some v=>match ZJm e os with
   | some r=>some (v::r)
   | none=>none
  | none=>none
def Zd6:List Nat->Env->Option Env
 | [],_=>some []
 | k::ks,e=>match J4 e k with
  | some v=>match Zd6 ks e with
   | some r=>some ((k,v)::r)
   | none=>none
  | none=>match Zd6 ks e with
   | some r=>some ((k,.any)::r)
   | none=>none
def ZZ:List AV->Option (List AV)
 | []=>some []
 | v::vs=>match ZZ vs with
  | some r=>some (v::r)
  | none=>none
def YM:List Blk->Option (List Blk)
 | []=>some []
 | v::vs=>match YM vs with
  | some r=>some (v::r)
  | none=>none
theorem QV:∀ {e:Env} {t:Nat} {v:AV},J4 e t=some v->look e t=v
 | [],_,_,h=>by simp [J4] at h
 | (k,w)::e,t,v,h=>by
  simp only [J4] at h
  split at h
  ·rename_i hb
   simp only [oJ] at h;rw [look,if_pos (Nat.eq_of_beq_eq_true hb)];exact h
  ·rename_i hb
   have hn:k≠t:=fun q=>by subst q;simp at hb
   rw [look,if_neg hn];exact QV h
theorem ZXO:∀ {e:Env} {t:Nat},J4 e t=none->look e t=.any
 | [],_,_=>rfl
 | (k,w)::e,t,h=>by
  simp only [J4] at h
  split at h
  ·simp at h
  ·rename_i hb
   have hn:k≠t:=fun q=>by subst q;simp at hb
   rw [look,if_neg hn];exact ZXO h
theorem ZI {e:Env} {o:Opd} {v:AV} (h:Zj e o=some v):o.get e=v:=by
 cases o with
 | s t=>exact QV h
 | v a=>simp only [Zj,oJ] at h;exact h
theorem Xw:∀ {e:Env} {os:List Opd} {vs:List AV},ZJm e os=some vs->Xu e os=vs
 | _,[],vs,h=>by simp only [ZJm,oJ] at h;rw [<- h];rfl
 | e,o::os,vs,h=>by
  simp only [ZJm] at h
  split at h
  ·rename_i v hv
   split at h
   ·rename_i r hr
    simp only [oJ] at h;rw [<- h,Xu,ZI hv,Xw hr]
   ·simp at h
  ·simp at h
theorem ZM0:∀ {ks:List Nat} {e r:Env},Zd6 ks e=some r->Xm ks e=r
 | [],_,_,h=>by simp only [Zd6,oJ] at h;rw [<- h];rfl
 | k::ks,e,r,h=>by
  simp only [Zd6] at h
  split at h
  ·rename_i v hv
   split at h
   ·rename_i q hq
    simp only [oJ] at h;rw [<- h,Xm,QV hv,ZM0 hq]
   ·simp at h
  ·rename_i hv
   split at h
   ·rename_i q hq
    simp only [oJ] at h;rw [<- h,Xm,ZXO hv,ZM0 hq]
   ·simp at h
theorem Ji:∀ {l r:List AV},ZZ l=some r->l=r
 | [],r,h=>by simpa [ZZ] using h
 | v::vs,r,h=>by
  simp only [ZZ] at h
  split at h
  ·rename_i q hq
   simp only [oJ] at h;rw [<- h,Ji hq]
  ·simp at h
theorem JO:∀ {l r:List Blk},YM l=some r->l=r
 | [],r,h=>by simpa [YM] using h
 | v::vs,r,h=>by
  simp only [YM] at h
  split at h
  ·rename_i q hq
   simp only [oJ] at h;rw [<- h,JO hq]
  ·simp at h
inductive Fr where
 | seq (b:PC)
 | blk (id:Nat)
 | inv (P:Env->St->Prop)
abbrev JV:=Ex->Env->St->Prop
def RkD (O:Orc):List Fr->JV->Ex->Env->St->Prop
 | [],Q,x,e,st=>Q x e st
 | .seq b::k,Q,.norm,e,st=>∃ x e' st',exec O itS b e st=some (x,e',st')/\RkD O k Q x e' st'
 | .seq _::k,Q,x,e,st=>RkD O k Q x e st
 | .blk id::k,Q,.ex id',e,st=>if id'=id then RkD O k Q .norm e st else RkD O k Q (.ex id') e st
 | .blk _::k,Q,x,e,st=>RkD O k Q x e st
 | .inv P::_,_,.norm,e,st=>P e st
 | .inv _::k,Q,x,e,st=>RkD O k Q x e st
structure Rk (O:Orc) (k:List Fr) (Q:JV) (x:Ex) (e:Env) (st:St):Prop where
 h:RkD O k Q x e st
structure Ru (O:Orc) (c:PC) (k:List Fr) (Q:JV) (e:Env) (st:St):Prop where
 h:∃ x e' st',exec O itS c e st=some (x,e',st')/\RkD O k Q x e' st'
structure Is (O:Orc) (is:List PI) (keep:List Nat) (k:List Fr) (Q:JV) (e:Env) (st:St):Prop where
 h:∃ e' st',JT O is e st=some (e',st')/\RkD O k Q .norm (Xm keep e') st'
def Sp (T:Tab) (f:FuncId) (args:List AV) (st:St) (Q:AV->St->Prop):Prop:=∃ v st',S T f args st=some (v,st')/\Q v st'
section
variable {O:Orc} {k:List Fr} {Q:JV} {e:Env} {st:St}
theorem ZE {a b:PC} (h:Ru O a (.seq b::k) Q e st):Ru O (.seq a b) k Q e st:=by
 obtain ⟨⟨x,e',st',h1,h2⟩⟩:=h
 cases x with
 | norm =>
  obtain ⟨x,e2,st2,h3,h4⟩:=h2
  exact ⟨⟨x,e2,st2,by rw [ZWr,h1,oS,ZQh];exact h3,h4⟩⟩
 | ex id=>exact ⟨⟨.ex id,e',st',by rw [ZWr,h1];rfl,h2⟩⟩
 | ret=>exact ⟨⟨.ret,e',st',by rw [ZWr,h1];rfl,h2⟩⟩
theorem ZH (h:Rk O k Q .norm e st):Ru O .skip k Q e st:=⟨⟨_,_,_,rfl,h.h⟩⟩
theorem ZO (h:Rk O k Q .ret e st):Ru O .ret k Q e st:=⟨⟨_,_,_,rfl,h.h⟩⟩
theorem Zu {id:Nat} (h:Rk O k Q (.ex id) e st):Ru O (.exit id) k Q e st:=⟨⟨_,_,_,rfl,h.h⟩⟩
theorem ZP {id:Nat} {b:PC} (h:Ru O b (.blk id::k) Q e st):Ru O (.block id b) k Q e st:=by
 obtain ⟨⟨x,e',st',h1,h2⟩⟩:=h
 cases x with
 | norm=>exact ⟨⟨.norm,e',st',by rw [ZFv,h1];rfl,h2⟩⟩
 | ex id' =>
  simp only [RkD] at h2
  by_cases hid:id'=id
  ·rw [if_pos hid] at h2
   exact ⟨⟨.norm,e',st',by rw [ZFv,h1];simp [ZC2,hid],h2⟩⟩
  ·rw [if_neg hid] at h2
   exact ⟨⟨.ex id',e',st',by rw [ZFv,h1];simp [ZC2,hid],h2⟩⟩
 | ret=>exact ⟨⟨.ret,e',st',by rw [ZFv,h1];rfl,h2⟩⟩
theorem ZS {c:Opd} {a b:PC} (hc:Zj e c=some (.bool true)) (h:Ru O a k Q e st):Ru O (.ite c a b) k Q e st:=by
 obtain ⟨⟨x,e',st',h1,h2⟩⟩:=h
 exact ⟨⟨x,e',st',by rw [Zgz,ZI hc,ZlT];exact h1,h2⟩⟩
theorem ZF {c:Opd} {a b:PC} (hc:Zj e c=some (.bool false)) (h:Ru O b k Q e st):Ru O (.ite c a b) k Q e st:=by
 obtain ⟨⟨x,e',st',h1,h2⟩⟩:=h
 exact ⟨⟨x,e',st',by rw [Zgz,ZI hc,Ziz];exact h1,h2⟩⟩
theorem ZD {keep:List Nat} {is:List PI} (h:Is O is keep k Q e st):Ru O (.reg keep is) k Q e st:=by
 obtain ⟨⟨e',st',h1,h2⟩⟩:=h
 exact ⟨⟨.norm,Xm keep e',st',by rw [Zm9,h1];rfl,h2⟩⟩
theorem Zke {b:PC} (P:Nat->Env->St->Prop) (n:Nat) (h0:P n e st)
 (step:∀ n e st,P n e st->Ru O b (.inv (fun e st=>∃ m,m<n/\P m e st)::k) Q e st):Ru O (.loop b) k Q e st:=by
 have key:∀ n e st,P n e st->Ru O (.loop b) k Q e st:=by
  intro n
  induction n using Nat.strongRecOn with
  | ind n ih =>
   intro e st h;obtain ⟨⟨x,e',st',h1,h2⟩⟩:=step n e st h
   cases x with
   | norm =>
    obtain ⟨m,hm,hp⟩:=h2;obtain ⟨⟨x,e2,st2,h3,h4⟩⟩:=ih m hm e' st' hp
    exact ⟨⟨x,e2,st2,by rw [ZCs,ZEo,h1,oS,ZQh];exact h3,h4⟩⟩
   | ex id=>exact ⟨⟨.ex id,e',st',by rw [ZCs,ZEo,h1];rfl,h2⟩⟩
   | ret=>exact ⟨⟨.ret,e',st',by rw [ZCs,ZEo,h1];rfl,h2⟩⟩
 exact key n e st h0
theorem Z0 {α:Type} {b:PC} (E:α->Env) (X:α->St) (P:α->Prop) (m:α->Nat) (a:α) (he:e=E a) (hs:st=X a) (h0:P a)
 (step:∀ a,P a->Ru O b (.inv (fun e st=>∃ c,(e=E c/\st=X c)/\(P c/\m c<m a))::k) Q (E a) (X a)):Ru O (.loop b) k Q e st:=by
 refine Zke (fun n e st=>∃ a,(e=E a/\st=X a)/\(P a/\m a=n)) (m a) ⟨a,⟨he,hs⟩,h0,rfl⟩ ?_
 rintro n e st ⟨a,⟨rfl,rfl⟩,hp,hm⟩
 obtain ⟨⟨x,e',st',h1,h2⟩⟩:=step a hp;refine ⟨⟨x,e',st',h1,?_⟩⟩
 cases x with
 | norm =>
  obtain ⟨c,hc,hp,hl⟩:=h2
  exact ⟨m c,by omega,c,hc,hp,rfl⟩
 | ex id=>exact h2
 | ret=>exact h2
theorem ZL {x:Ex} (h:Q x e st):Rk O [] Q x e st:=⟨h⟩
theorem ZC {b:PC} (h:Ru O b k Q e st):Rk O (.seq b::k) Q .norm e st:=⟨h.h⟩
theorem ZU {b:PC} (h:Rk O k Q .ret e st):Rk O (.seq b::k) Q .ret e st:=⟨h.h⟩
theorem Zh {b:PC} {id:Nat} (h:Rk O k Q (.ex id) e st):Rk O (.seq b::k) Q (.ex id) e st:=⟨h.h⟩
theorem Z7 {id:Nat} (h:Rk O k Q .norm e st):Rk O (.blk id::k) Q .norm e st:=⟨h.h⟩
theorem QF {id:Nat} (h:Rk O k Q .ret e st):Rk O (.blk id::k) Q .ret e st:=⟨h.h⟩
theorem Zc {id id':Nat} (hi:Nat.beq id' id=true) (h:Rk O k Q .norm e st):Rk O (.blk id::k) Q (.ex id') e st:=by
 refine ⟨?_⟩;simp only [RkD];rw [if_pos (Nat.eq_of_beq_eq_true hi)];exact h.h
theorem ZLZ {id id':Nat} (hi:Nat.beq id' id=false) (h:Rk O k Q (.ex id') e st):Rk O (.blk id::k) Q (.ex id') e st:=by
 refine ⟨?_⟩;simp only [RkD];rw [if_neg (fun q=>by subst q;simp at hi)];exact h.h
theorem QJ {P:Env->St->Prop} (h:P e st):Rk O (.inv P::k) Q .norm e st:=⟨h⟩
theorem Y0 {P:Env->St->Prop} (h:Rk O k Q .ret e st):Rk O (.inv P::k) Q .ret e st:=⟨h.h⟩
theorem Zs {P:Env->St->Prop} {id:Nat} (h:Rk O k Q (.ex id) e st):Rk O (.inv P::k) Q (.ex id) e st:=⟨h.h⟩
variable {keep:List Nat} {is:List PI}
theorem ZB {e':Env} (he:Zd6 keep e=some e') (h:Rk O k Q .norm e' st):Is O [] keep k Q e st :=
 ⟨⟨e,st,rfl,by rw [ZM0 he];exact h.h⟩⟩
variable {d:Nat} {own:Bool} {op:PO}
theorem Z2 {t:Nat} {w:Bool} {od:Option Nat} (hg:J4 e t=some (.bool w)) (h:Is O (⟨od,none,own,op⟩::is) keep k Q e st):Is O (⟨od,some (t,w),own,op⟩::is) keep k Q e st:=by
 obtain ⟨⟨e',st',h1,h2⟩⟩:=h;refine ⟨⟨e',st',?_,h2⟩⟩;rw [ZC4] at h1 ⊢
 have:wantedV e (some (t,w))=some true:=by simp [wantedV,QV hg,ZN5]
 simp only [this];exact h1
theorem Q9 {t:Nat} {w w':Bool} (hg:J4 e t=some (.bool w')) (hw:(w' == w)=false) (h:Is O is keep k Q ((d,.undef)::e) st):Is O (⟨some d,some (t,w),own,op⟩::is) keep k Q e st:=by
 obtain ⟨⟨e',st',h1,h2⟩⟩:=h;refine ⟨⟨e',st',?_,h2⟩⟩;rw [ZC4]
 have:wantedV e (some (t,w))=some false:=by simp [wantedV,QV hg,ZN5,hw]
 rw [this,oS,ZWs];exact h1
theorem Zrc {t:Nat} {w:Bool} (hg:J4 e t=some .undef) (h:Is O is keep k Q ((d,.undef)::e) st):Is O (⟨some d,some (t,w),own,op⟩::is) keep k Q e st:=by
 obtain ⟨⟨e',st',h1,h2⟩⟩:=h;refine ⟨⟨e',st',?_,h2⟩⟩;rw [ZC4]
 have:wantedV e (some (t,w))=some false:=by simp [wantedV,QV hg,ZN5]
 rw [this,oS,ZWs];exact h1
theorem Z6 {od:Option Nat} {v:AV} {st':St} (hv:Zl O e st op=some (v,st')) (h:Is O is keep k Q (ZC1 e od v) st'):Is O (⟨od,none,false,op⟩::is) keep k Q e st:=by
 obtain ⟨⟨e',st2,h1,h2⟩⟩:=h;refine ⟨⟨e',st2,?_,h2⟩⟩;rw [ZC4]
 have:wantedV e none=some true:=rfl
 simp only [this,oS,Zdi]
 have h3:Q2 O e st ⟨od,none,false,op⟩=some (v,st'):=by simp only [Q2,jB,if_false];exact hv
 rw [h3,oS,Zpq];exact h1
theorem ZG {x:Opd} {v:AV} (hx:Zj e x=some v) (h:Is O is keep k Q ((d,v)::e) st):Is O (⟨some d,none,false,.mv x⟩::is) keep k Q e st :=
 Z6 (v:=v) (st':=st) (by rw [<- ZI hx];rfl) h
theorem Zf {c a b:Opd} {t:Bool} {va vb v:AV} (hc:Zj e c=some (.bool t)) (ha:Zj e a=some va) (hb:Zj e b=some vb) (hv:(match t with|true=>some va|false=>some vb)=some v)
 (h:Is O is keep k Q ((d,v)::e) st):Is O (⟨some d,none,false,.pick c a b⟩::is) keep k Q e st :=
 Z6 (v:=v) (st':=st) (by simp only [Zl,evalPO,ZI hc,ZI ha,ZI hb,ZkI,oS,Ql];cases t<;>simp at hv<;>simp [hv]) h
theorem Zr1 {x y:Opd} {kd:IntKind} {a b:Int} (hx:Zj e x=some (.int kd a)) (hy:Zj e y=some (.int kd b)) (h:Is O is keep k Q ((d,.int kd (kd.wrap (a+b)))::e) st):Is O (⟨some d,none,false,.bin .add x y⟩::is) keep k Q e st :=
 Z6 (st':=st) (by simp only [Zl,evalPO,ZI hx,ZI hy,ZEl,Za8,if_false,if_true,ZER,jB,oS,Ql]) h
theorem Zr2 {x y:Opd} {kd:IntKind} {a b:Int} (hx:Zj e x=some (.int kd a)) (hy:Zj e y=some (.int kd b)) (h:Is O is keep k Q ((d,.int kd (kd.wrap (a-b)))::e) st):Is O (⟨some d,none,false,.bin .sub x y⟩::is) keep k Q e st :=
 Z6 (st':=st) (by simp only [Zl,evalPO,ZI hx,ZI hy,ZEl,Za8,if_false,if_true,ZER,jB,oS,Ql]) h
theorem Zr3 {x y:Opd} {kd:IntKind} {a b:Int} (hx:Zj e x=some (.int kd a)) (hy:Zj e y=some (.int kd b)) (h:Is O is keep k Q ((d,.int kd (kd.wrap (a*b)))::e) st):Is O (⟨some d,none,false,.bin .mul x y⟩::is) keep k Q e st :=
 Z6 (st':=st) (by simp only [Zl,evalPO,ZI hx,ZI hy,ZEl,Za8,if_false,if_true,ZER,jB,oS,Ql]) h
theorem ZQs {n:Int} (h0:-9223372036854775808<=n) (h1:n<9223372036854775808):IntKind.i64.wrap n=n:=by
 have e1:IntKind.i64.signed=true:=rfl;have e2:IntKind.i64.bits=64:=rfl;simp only [IntKind.wrap,e1,e2,Bool.true_and,decide_eq_true_eq]
 split<;>omega
theorem Zm {x y:Opd} {a b:Int} (hx:Zj e x=some (.int .i64 a)) (hy:Zj e y=some (.int .i64 b)) (hw:-9223372036854775808<=a+b/\a+b<9223372036854775808) (h:Is O is keep k Q ((d,.int .i64 (a+b))::e) st):Is O (⟨some d,none,false,.bin .add x y⟩::is) keep k Q e st:=by
 rw [<- ZQs hw.1 hw.2] at h;exact Zr1 hx hy h
theorem QS {x y:Opd} {a b:Int} (hx:Zj e x=some (.int .i64 a)) (hy:Zj e y=some (.int .i64 b)) (hw:-9223372036854775808<=a-b/\a-b<9223372036854775808) (h:Is O is keep k Q ((d,.int .i64 (a-b))::e) st):Is O (⟨some d,none,false,.bin .sub x y⟩::is) keep k Q e st:=by
 rw [<- ZQs hw.1 hw.2] at h;exact Zr2 hx hy h
theorem ZqT {x y:Opd} {a b:Int} (hx:Zj e x=some (.int .i64 a)) (hy:Zj e y=some (.int .i64 b)) (hw:-9223372036854775808<=a*b/\a*b<9223372036854775808) (h:Is O is keep k Q ((d,.int .i64 (a*b))::e) st):Is O (⟨some d,none,false,.bin .mul x y⟩::is) keep k Q e st:=by
 rw [<- ZQs hw.1 hw.2] at h;exact Zr3 hx hy h
theorem ZOM {x y:Opd} {a b:Int} (hx:Zj e x=some (.int .i64 a)) (hy:Zj e y=some (.int .i64 b)) (hw:0<=a/\0<b/\a<9223372036854775808) (h:Is O is keep k Q ((d,.int .i64 (a / b))::e) st):Is O (⟨some d,none,false,.bin .quo x y⟩::is) keep k Q e st:=by
 refine Z6 (st':=st) (v:=.int .i64 (a / b)) ?_ h;simp only [Zl,evalPO,ZI hx,ZI hy,ZEl,Za8,if_false,if_true,ZER,jB,oS,Ql]
 rw [if_neg (by omega),Int.tdiv_eq_ediv_of_nonneg hw.1]
 have h1:a / b<=a:=Int.ediv_le_self b hw.1
 have h2:0<=a / b:=Int.ediv_nonneg hw.1 (by omega)
 rw [ZQs (by omega) (by omega)]
 rfl
theorem Zkf {x y:Opd} {a b:Int} (hx:Zj e x=some (.int .i64 a)) (hy:Zj e y=some (.int .i64 b)) (hw:0<=a/\0<b) (h:Is O is keep k Q ((d,.int .i64 (a % b))::e) st):Is O (⟨some d,none,false,.bin .rem x y⟩::is) keep k Q e st:=by
 refine Z6 (st':=st) (v:=.int .i64 (a % b)) ?_ h;simp only [Zl,evalPO,ZI hx,ZI hy,ZEl,Za8,if_false,if_true,ZER,jB,oS,Ql]
 rw [if_neg (by omega),Int.tmod_eq_emod_of_nonneg hw.1]
 rfl
theorem ZQt {x y:Opd} {kd:IntKind} {a b:Int} {bop:BinOp} {p:Prop} [Decidable p] (hx:Zj e x=some (.int kd a)) (hy:Zj e y=some (.int kd b)) (hp:ZER bop kd a b=some (.bool (decide p))) (hs:Za8 bop=false)
 (hT:p->Is O is keep k Q ((d,.bool true)::e) st) (hF:¬ p->Is O is keep k Q ((d,.bool false)::e) st):Is O (⟨some d,none,false,.bin bop x y⟩::is) keep k Q e st:=by
 have hv:Zl O e st (.bin bop x y)=some (.bool (decide p),st):=by
  simp only [Zl,evalPO,ZI hx,ZI hy,ZEl,hs,if_false,if_true,jB,hp,oS,Ql]
 by_cases q:p
 ·rw [decide_eq_true q] at hv;exact Z6 hv (hT q)
 ·rw [decide_eq_false q] at hv;exact Z6 hv (hF q)
theorem Zg {x y:Opd} {kd:IntKind} {a b:Int} (hx:Zj e x=some (.int kd a)) (hy:Zj e y=some (.int kd b)) (hT:a<b->Is O is keep k Q ((d,.bool true)::e) st) (hF:b<=a->Is O is keep k Q ((d,.bool false)::e) st):Is O (⟨some d,none,false,.bin .lss x y⟩::is) keep k Q e st :=
 ZQt hx hy rfl rfl hT (fun q=>hF (Int.not_lt.1 q))
theorem ZAu {x y:Opd} {kd:IntKind} {a b:Int} (hx:Zj e x=some (.int kd a)) (hy:Zj e y=some (.int kd b)) (hT:a<=b->Is O is keep k Q ((d,.bool true)::e) st) (hF:b<a->Is O is keep k Q ((d,.bool false)::e) st):Is O (⟨some d,none,false,.bin .leq x y⟩::is) keep k Q e st :=
 ZQt hx hy rfl rfl hT (fun q=>hF (Int.not_le.1 q))
theorem QD {x y:Opd} {kd:IntKind} {a b:Int} (hx:Zj e x=some (.int kd a)) (hy:Zj e y=some (.int kd b)) (hT:b<a->Is O is keep k Q ((d,.bool true)::e) st) (hF:a<=b->Is O is keep k Q ((d,.bool false)::e) st):Is O (⟨some d,none,false,.bin .gtr x y⟩::is) keep k Q e st :=
 ZQt hx hy rfl rfl hT (fun q=>hF (Int.not_lt.1 q))
theorem JQ {x y:Opd} {kd:IntKind} {a b:Int} (hx:Zj e x=some (.int kd a)) (hy:Zj e y=some (.int kd b)) (hT:b<=a->Is O is keep k Q ((d,.bool true)::e) st) (hF:a<b->Is O is keep k Q ((d,.bool false)::e) st):Is O (⟨some d,none,false,.bin .geq x y⟩::is) keep k Q e st :=
 ZQt hx hy rfl rfl hT (fun q=>hF (Int.not_le.1 q))
theorem Zi {x y:Opd} {kd:IntKind} {a b:Int} (hx:Zj e x=some (.int kd a)) (hy:Zj e y=some (.int kd b)) (hT:a=b->Is O is keep k Q ((d,.bool true)::e) st) (hF:a≠b->Is O is keep k Q ((d,.bool false)::e) st):Is O (⟨some d,none,false,.bin .eql x y⟩::is) keep k Q e st :=
 ZQt hx hy rfl rfl hT hF
theorem Ze {x y:Opd} {kd:IntKind} {a b:Int} (hx:Zj e x=some (.int kd a)) (hy:Zj e y=some (.int kd b)) (hT:a≠b->Is O is keep k Q ((d,.bool true)::e) st) (hF:a=b->Is O is keep k Q ((d,.bool false)::e) st):Is O (⟨some d,none,false,.bin .neq x y⟩::is) keep k Q e st :=
 ZQt hx hy rfl rfl hT (fun q=>hF (Decidable.byContradiction q))
theorem YY {x y:Opd} {a b:List UInt8} (hx:Zj e x=some (.str a)) (hy:Zj e y=some (.str b)) (hT:a=b->Is O is keep k Q ((d,.bool true)::e) st) (hF:a≠b->Is O is keep k Q ((d,.bool false)::e) st):Is O (⟨some d,none,false,.bin .eql x y⟩::is) keep k Q e st:=by
 have hv:Zl O e st (.bin .eql x y)=some (.bool (decide (a=b)),st):=by
  simp only [Zl,evalPO,ZI hx,ZI hy,ZEl,ZQf,oS,Ql]
 by_cases q:a=b
 ·rw [decide_eq_true q] at hv;exact Z6 hv (hT q)
 ·rw [decide_eq_false q] at hv;exact Z6 hv (hF q)
theorem ZF0 {x y:Opd} {a b:List UInt8} (hx:Zj e x=some (.str a)) (hy:Zj e y=some (.str b)) (hT:a≠b->Is O is keep k Q ((d,.bool true)::e) st) (hF:a=b->Is O is keep k Q ((d,.bool false)::e) st):Is O (⟨some d,none,false,.bin .neq x y⟩::is) keep k Q e st:=by
 have hv:Zl O e st (.bin .neq x y)=some (.bool (decide (a≠b)),st):=by
  simp only [Zl,evalPO,ZI hx,ZI hy,ZEl,ZQf,oS,Ql]
 by_cases q:a=b
 ·rw [decide_eq_false (fun h=>h q)] at hv;exact Z6 hv (hF q)
 ·rw [decide_eq_true q] at hv;exact Z6 hv (hT q)
theorem Zr4 {x y:Opd} {a b:List UInt8} (hx:Zj e x=some (.str a)) (hy:Zj e y=some (.str b)) (hl:a.length+b.length<4611686018427387904) (h:Is O is keep k Q ((d,.str (a++b))::e) st):Is O (⟨some d,none,false,.bin .add x y⟩::is) keep k Q e st :=
 Z6 (st':=st) (by simp only [Zl,evalPO,ZI hx,ZI hy,ZEl,ZQf,if_pos hl,oS,Ql]) h
theorem ZM1 {bop:BinOp} {x y:Opd} {a b v:AV} (hx:Zj e x=some a) (hy:Zj e y=some b) (hv:ZEl bop a b=some v) (h:Is O is keep k Q ((d,v)::e) st):Is O (⟨some d,none,false,.bin bop x y⟩::is) keep k Q e st :=
 Z6 (v:=v) (st':=st) (by simp only [Zl,evalPO,ZI hx,ZI hy,hv,oS,Ql]) h
theorem Q5 {neg:Bool} {kind:Nat} {ks:List (Nat × Nat)} {x y:Opd} {a b:AV} {t u:Bool} (hx:Zj e x=some a) (hy:Zj e y=some b) (hv:eqV ks kind a b=some t) (hu:(match neg with|true=>!t|false=>t)=u) (h:Is O is keep k Q ((d,.bool u)::e) st) :
 Is O (⟨some d,none,false,.eqs neg kind ks x y⟩::is) keep k Q e st :=
 Z6 (v:=.bool u) (st':=st) (by simp only [Zl,evalPO,ZI hx,ZI hy,hv,oS];subst hu;cases neg<;>simp) h
theorem ZEB {neg:Bool} {kind:Nat} {ks:List (Nat × Nat)} {x y:Opd} {a b:AV} {p:Prop} [Decidable p] (hx:Zj e x=some a) (hy:Zj e y=some b) (hv:eqV ks kind a b=some (decide p))
 (hT:p->Is O is keep k Q ((d,.bool (!neg))::e) st) (hF:¬ p->Is O is keep k Q ((d,.bool neg)::e) st) :
 Is O (⟨some d,none,false,.eqs neg kind ks x y⟩::is) keep k Q e st:=by
 by_cases q:p
 ·refine Q5 hx hy (t:=true) (u:=!neg) (by rw [hv,decide_eq_true q]) ?_ (hT q)
  cases neg<;>rfl
 ·refine Q5 hx hy (t:=false) (u:=neg) (by rw [hv,decide_eq_false q]) ?_ (hF q)
  cases neg<;>rfl
theorem YF {x:Opd} {b c:Bool} (hx:Zj e x=some (.bool b)) (hc:(match b with|true=>some false|false=>some true)=some c) (h:Is O is keep k Q ((d,.bool c)::e) st):Is O (⟨some d,none,false,.un .not x⟩::is) keep k Q e st :=
 Z6 (v:=.bool c) (st':=st) (by simp only [Zl,evalPO,ZI hx,unV,oS,Ql];cases b<;>simp at hc<;>simp [<- hc]) h
theorem Zew {x:Opd} {kd kd':IntKind} {a:Int} (hx:Zj e x=some (.int kd' a)) (h:Is O is keep k Q ((d,.int kd (kd.wrap a))::e) st):Is O (⟨some d,none,false,.cint kd x⟩::is) keep k Q e st :=
 Z6 (st':=st) (by simp only [Zl,evalPO,ZI hx,Zgr,oS,Ql]) h
theorem ZON {x:Opd} {kd kd':IntKind} {a:Int} (hx:Zj e x=some (.int kd' a)) (hw:kd.wrap a=a) (h:Is O is keep k Q ((d,.int kd a)::e) st):Is O (⟨some d,none,false,.cint kd x⟩::is) keep k Q e st :=
 Z6 (v:=.int kd a) (st':=st) (by simp only [Zl,evalPO,ZI hx,Zgr,oS,Ql,hw]) h
theorem ZXP {x:Opd} {a v:AV} (hx:Zj e x=some a) (hv:b2sV st a=some v) (h:Is O is keep k Q ((d,v)::e) st):Is O (⟨some d,none,false,.b2s x⟩::is) keep k Q e st :=
 Z6 (v:=v) (st':=st) (by simp only [Zl,evalPO,ZI hx,hv,oS,Ql]) h
theorem ZAK {fn:Fn} {f c:List Opd} {vf vc:List AV} (hf:ZJm e f=some vf) (hc:ZJm e c=some vc) (h:Is O is keep k Q ((d,.func fn vf vc)::e) st):Is O (⟨some d,none,false,.mkf fn f c⟩::is) keep k Q e st :=
 Z6 (st':=st) (by simp only [Zl,evalPO,Xw hf,Xw hc]) h
theorem Zb {x:Opd} {a v:AV} (hx:Zj e x=some a) (hv:Zec a=some v) (h:Is O is keep k Q ((d,v)::e) st):Is O (⟨some d,none,false,.nilck x⟩::is) keep k Q e st :=
 Z6 (v:=v) (st':=st) (by simp only [Zl,evalPO,ZI hx,hv,oS,Ql]) h
theorem ZQu {mx:Bool} {x y:Opd} {kd:IntKind} {a b:Int} (hx:Zj e x=some (.int kd a)) (hy:Zj e y=some (.int kd b)) (h:Is O is keep k Q ((d,.int kd (if mx=true then max a b else min a b))::e) st):Is O (⟨some d,none,false,.mnx mx x y⟩::is) keep k Q e st:=by
 refine Z6 (v:=.int kd (if mx=true then max a b else min a b)) (st':=st) ?_ h
 simp only [Zl,evalPO,ZI hx,ZI hy,Zpm,if_true,oS,Ql]
 cases mx
 ·have:(if b<a then b else a)=min a b:=by rw [Int.min_def];split<;>split<;>omega
  simp [this]
 ·have:(if a<b then b else a)=max a b:=by rw [Int.max_def];split<;>split<;>omega
  simp [this]
theorem Zp {x:Opd} {i:Nat} {vs:List AV} {v:AV} (hx:Zj e x=some (.tup vs)) (hv:vs[i]?=some v) (h:Is O is keep k Q ((d,v)::e) st):Is O (⟨some d,none,false,.ext x i⟩::is) keep k Q e st :=
 Z6 (v:=v) (st':=st) (by simp only [Zl,evalPO,ZI hx,Zpn,hv,oS,Ql]) h
theorem Qg {x:Opd} {a:List UInt8} (hx:Zj e x=some (.str a)) (h:Is O is keep k Q ((d,.int .i64 a.length)::e) st):Is O (⟨some d,none,false,.len 0 x⟩::is) keep k Q e st :=
 Z6 (st':=st) (by simp only [Zl,evalPO,ZI hx,lenOf,oS]) h
theorem Zex {x:Opd} {a:List AV} (hx:Zj e x=some (.lit a)) (h:Is O is keep k Q ((d,.int .i64 a.length)::e) st):Is O (⟨some d,none,false,.len 1 x⟩::is) keep k Q e st :=
 Z6 (st':=st) (by simp only [Zl,evalPO,ZI hx,lenOf,oS]) h
theorem Qb {α:Type} {f:α->AV} {l:List α} {x:Opd} (hx:Zj e x=some (.lit (l.map f))) (h:Is O is keep k Q ((d,.int .i64 l.length)::e) st):Is O (⟨some d,none,false,.len 1 x⟩::is) keep k Q e st :=
 Zex hx (by rw [List.length_map];exact h)
theorem YC {x:Opd} (hx:Zj e x=some .nils) (h:Is O is keep k Q ((d,.int .i64 0)::e) st):Is O (⟨some d,none,false,.len 1 x⟩::is) keep k Q e st :=
 Z6 (st':=st) (by simp only [Zl,evalPO,ZI hx,lenOf,oS];rfl) h
theorem Qj {x:Opd} {lv ix ver s n:Nat} (hx:Zj e x=some (.ref lv ix ver s n)) (h:Is O is keep k Q ((d,.int .i64 n)::e) st):Is O (⟨some d,none,false,.len 1 x⟩::is) keep k Q e st :=
 Z6 (st':=st) (by simp only [Zl,evalPO,ZI hx,lenOf,oS]) h
theorem ZXQ {agg:Bool} {off n:Nat} {x:Opd} {cs:List AV} {v:AV} (hx:Zj e x=some (.agg cs)) (hv:cs[off]?=some v) (h:Is O is keep k Q ((d,v)::e) st):Is O (⟨some d,none,false,.fld false off n x⟩::is) keep k Q e st :=
 Z6 (v:=v) (st':=st) (by simp only [Zl,evalPO,ZI hx,Zpk,Jq,AV.isAny,if_false,jB,AV.cells,hv,oS,Ql]) h
theorem Znp {z:List AV} {ps:List (Nat × Nat × Opd)} {qs:List (Nat × Nat × AV)} {cs vs:List AV} (hq:XV e ps=qs) (hf:fillV z qs=some cs) (hv:ZZ cs=some vs) (h:Is O is keep k Q ((d,.agg vs)::e) st):Is O (⟨some d,none,false,.build z ps⟩::is) keep k Q e st :=
 Z6 (v:=.agg vs) (st':=st) (by simp only [Zl,evalPO,hq,hf,Ji hv,oS]) h
theorem Zey {x:Opd} {lo hi:Option Opd} {s:List UInt8} {l r:Nat} (hx:Zj e x=some (.str s)) (hh:JW s.length s.length (ZCT e hi)=some r) (hl:JW r 0 (ZCT e lo)=some l) (h:Is O is keep k Q ((d,.str ((s.drop l).take (r-l)))::e) st):Is O (⟨some d,none,false,.slcS x lo hi⟩::is) keep k Q e st :=
 Z6 (st':=st) (by simp only [Zl,evalPO,ZI hx,ZkJ,hh,hl,oS,Ql]) h
theorem ZF1 {x y:Opd} {s:List UInt8} {n:Int} (hx:Zj e x=some (.str s)) (hy:Zj e y=some (.int .i64 n)) (hn:0<=n/\n<=s.length) (h:Is O is keep k Q ((d,.str (s.take n.toNat))::e) st):Is O (⟨some d,none,false,.slcS x none (some y)⟩::is) keep k Q e st:=by
 refine Zey (r:=n.toNat) (l:=0) hx ?_ rfl (by simpa using h)
 simp only [ZCT,ZI hy,JW,if_pos hn]
theorem ZF2 {x y:Opd} {s:List UInt8} {n:Int} (hx:Zj e x=some (.str s)) (hy:Zj e y=some (.int .i64 n)) (hn:0<=n/\n<=s.length) (h:Is O is keep k Q ((d,.str (s.drop n.toNat))::e) st):Is O (⟨some d,none,false,.slcS x (some y) none⟩::is) keep k Q e st:=by
 refine Zey (r:=s.length) (l:=n.toNat) hx rfl ?_ ?_
 ·simp only [ZCT,ZI hy,JW,if_pos hn]
 ·rw [List.take_of_length_le (by simp)];exact h
theorem ZjJ {x y z:Opd} {s:List UInt8} {n m:Int} (hx:Zj e x=some (.str s)) (hy:Zj e y=some (.int .i64 n)) (hz:Zj e z=some (.int .i64 m)) (hn:0<=n/\n<=m/\m<=s.length) (h:Is O is keep k Q ((d,.str ((s.drop n.toNat).take (m-n).toNat))::e) st):Is O (⟨some d,none,false,.slcS x (some y) (some z)⟩::is) keep k Q e st:=by
 refine Zey (r:=m.toNat) (l:=n.toNat) hx ?_ ?_ ?_
 ·simp only [ZCT,ZI hz,JW,if_pos (show 0<=m/\m<=s.length by omega)]
 ·simp only [ZCT,ZI hy,JW,if_pos (show 0<=n/\n<=(m.toNat:Int) by omega)]
 ·rw [show m.toNat-n.toNat=(m-n).toNat by omega];exact h
theorem Yl {x i:Opd} {s:List UInt8} {n:Int} {b:UInt8} (hx:Zj e x=some (.str s)) (hi:Zj e i=some (.int .i64 n)) (hn:0<=n/\n<s.length) (hb:s[n.toNat]?=some b) (h:Is O is keep k Q ((d,.int .u8 b.toNat)::e) st):Is O (⟨some d,none,false,.ixStr x i⟩::is) keep k Q e st :=
 Z6 (st':=st) (by simp only [Zl,evalPO,ZI hx,ZI hi,Zed,Xk,if_pos hn,hb,oS,Ql]) h
theorem Zr5 {w:Nat} {x i:Opd} {es:List AV} {n:Int} {v:AV} (hx:Zj e x=some (.lit es)) (hi:Zj e i=some (.int .i64 n)) (hn:0<=n/\n<es.length) (hv:es[n.toNat]?=some v) (hw:v.wide=some w) (h:Is O is keep k Q ((d,.lptr v 0)::e) st):Is O (⟨some d,none,false,.ixS w x i⟩::is) keep k Q e st :=
 Z6 (st':=st) (by simp only [Zl,evalPO,ZI hx,ZI hi,ixSV,Xk,if_pos hn,hv,if_pos hw,oS,Ql]) h
theorem Qx {n:Nat} {a:Opd} {x:AV} {o:Nat} {v:AV} {agg:Bool} (ha:Zj e a=some (.lptr x o)) (hv:Jq x agg o n=some v) (h:Is O is keep k Q ((d,v)::e) st):Is O (⟨some d,none,false,.ld agg n a⟩::is) keep k Q e st :=
 Z6 (v:=v) (st':=st) (by simp only [Zl,evalPO,ZI ha,loadP,hv,oS,Ql]) h
theorem ZJ {off:Nat} {x:Opd} {a v:AV} (hx:Zj e x=some a) (hv:ZkK off a=some v) (h:Is O is keep k Q ((d,v)::e) st):Is O (⟨some d,none,false,.fadr off x⟩::is) keep k Q e st :=
 Z6 (v:=v) (st':=st) (by simp only [Zl,evalPO,ZI hx,hv,oS,Ql]) h
theorem ZjK {len w:Nat} {x i:Opd} {a b v:AV} (hx:Zj e x=some a) (hi:Zj e i=some b) (hv:Zpl len w b a=some v) (h:Is O is keep k Q ((d,v)::e) st):Is O (⟨some d,none,false,.ixA len w x i⟩::is) keep k Q e st :=
 Z6 (v:=v) (st':=st) (by simp only [Zl,evalPO,ZI hx,ZI hi,hv,oS,Ql]) h
theorem Zez {w:Nat} {x:Opd} {lo hi:Option Opd} {es:List AV} {l r:Nat} (hx:Zj e x=some (.lit es)) (hh:JW es.length es.length (ZCT e hi)=some r) (hl:JW r 0 (ZCT e lo)=some l) (hw:JH w es=true) (h:Is O is keep k Q ((d,.lit ((es.drop l).take (r-l)))::e) st):Is O (⟨some d,none,false,.slc w x lo hi⟩::is) keep k Q e st :=
 Z6 (st':=st) (by simp only [Zl,evalPO,ZI hx,slcV,hh,hl,if_pos hw,oS,Ql]) h
theorem ZC9 {w:Nat} {x y:Opd} {es:List AV} {n:Int} (hx:Zj e x=some (.lit es)) (hy:Zj e y=some (.int .i64 n)) (hn:0<=n/\n<=es.length) (hw:JH w es=true) (h:Is O is keep k Q ((d,.lit (es.take n.toNat))::e) st):Is O (⟨some d,none,false,.slc w x none (some y)⟩::is) keep k Q e st:=by
 refine Zez (r:=n.toNat) (l:=0) hx ?_ rfl hw (by simpa using h)
 simp only [ZCT,ZI hy,JW,if_pos hn]
theorem ZM2 {w:Nat} {x y:Opd} {es:List AV} {n:Int} (hx:Zj e x=some (.lit es)) (hy:Zj e y=some (.int .i64 n)) (hn:0<=n/\n<=es.length) (hw:JH w es=true) (h:Is O is keep k Q ((d,.lit (es.drop n.toNat))::e) st):Is O (⟨some d,none,false,.slc w x (some y) none⟩::is) keep k Q e st:=by
 refine Zez (r:=es.length) (l:=n.toNat) hx rfl ?_ hw ?_
 ·simp only [ZCT,ZI hy,JW,if_pos hn]
 ·rw [List.take_of_length_le (by simp)];exact h
theorem ZF3 {w:Nat} {x y:Opd} {lv ix ver s m:Nat} {n:Int} (hx:Zj e x=some (.ref lv ix ver s m)) (hy:Zj e y=some (.int .i64 n)) (hn:0<=n/\n<=m) (hw:wIs w ver (st.get lv ix)=true) (h:Is O is keep k Q ((d,.ref lv ix ver s n.toNat)::e) st):Is O (⟨some d,none,false,.slc w x none (some y)⟩::is) keep k Q e st :=
 Z6 (st':=st) (by simp only [Zl,evalPO,ZI hx,slcV,ZCT,ZI hy,JW,if_pos hn,if_pos hw,oS,Ql];simp) h
theorem ZM3 {w:Nat} {x y:Opd} {lv ix ver s m:Nat} {n:Int} (hx:Zj e x=some (.ref lv ix ver s m)) (hy:Zj e y=some (.int .i64 n)) (hn:0<=n/\n<=m) (hw:wIs w ver (st.get lv ix)=true) (h:Is O is keep k Q ((d,.ref lv ix ver (s+n.toNat) (m-n.toNat))::e) st):Is O (⟨some d,none,false,.slc w x (some y) none⟩::is) keep k Q e st :=
 Z6 (st':=st) (by simp only [Zl,evalPO,ZI hx,slcV,ZCT,ZI hy,JW,if_pos hn,if_pos hw,oS,Ql]) h
theorem Ze0 {w:Nat} {z:List AV} {ps:List (Nat × Opd)} {qs:List (Nat × AV)} {es:List AV} {r:AV × St} (hq:Jk e ps=qs) (hf:fillE w z qs=some es) (hb:ZbA false w st es=some r) (h:Is O is keep k Q ((d,r.1)::e) r.2):Is O (⟨some d,none,false,.bslice false w z ps⟩::is) keep k Q e st :=
 Z6 (v:=r.1) (st':=r.2) (by simp only [Zl,evalPO,hq,hf,oS];exact hb) h
end
def YN:AV->Option AV
 | .agg cs=>match ZZ cs with
  | some r=>some (.agg r)
  | none=>none
 | v=>some v
theorem Y1 {v r:AV} (h:YN v=some r):v=r:=by
 unfold YN at h
 split at h
 ·split at h
  ·rename_i q hq
   simp only [oJ] at h;rw [<- h,Ji hq]
  ·simp at h
 ·simpa using h
section
variable {O:Orc} {k:List Fr} {Q:JV} {e:Env} {A:List (Bool × List Blk)} {L L':List Blk} {keep:List Nat} {is:List PI} {d:Nat}
theorem Zk {x:Opd} {v:AV} {w:Nat} (hx:Zj e x=some v) (hw:v.wide=some w) (hL:YM (L++[Blk.arr w 0 [v]])=some L') (h:Is O is keep k Q ((d,.ptr A.length L.length 0 0 0)::e) ⟨A,false,L'⟩):Is O (⟨some d,none,false,.box x⟩::is) keep k Q e ⟨A,false,L⟩:=by
 rw [<- JO hL] at h
 exact Z6 (v:=.ptr A.length L.length 0 0 0) (st':=⟨A,false,L++[Blk.arr w 0 [v]]⟩) (by simp only [Zl,evalPO,ZI hx,hw,oS,St.new_cur,Xl]) h
theorem ZCv {w:Nat} (hL:YM (L++[Blk.arr w 0 []]++[Blk.arr 1 0 [.ref A.length L.length 0 0 0]])=some L') (h:Is O is keep k Q ((d,.ptr A.length (L.length+1) 0 0 0)::e) ⟨A,false,L'⟩):Is O (⟨some d,none,false,.boxnil w⟩::is) keep k Q e ⟨A,false,L⟩:=by
 rw [<- JO hL] at h;refine Z6 (v:=.ptr A.length (L.length+1) 0 0 0) (st':=⟨A,false,L++[Blk.arr w 0 []]++[Blk.arr 1 0 [.ref A.length L.length 0 0 0]]⟩) ?_ h;simp only [Zl,evalPO,oS,St.new_cur,Xl,ZLT];simp
theorem ZA6 {w:Nat} (hL:YM (L++[Blk.arr w 0 []])=some L') (h:Is O is keep k Q ((d,.ref A.length L.length 0 0 0)::e) ⟨A,false,L'⟩):Is O (⟨some d,none,false,.onil w⟩::is) keep k Q e ⟨A,false,L⟩:=by
 rw [<- JO hL] at h
 exact Z6 (v:=.ref A.length L.length 0 0 0) (st':=⟨A,false,L++[Blk.arr w 0 []]⟩) (by simp only [Zl,evalPO,oS,St.new_cur,Js]) h
theorem ZF4 {w bytes:Nat} {z:AV} {l c:Opd} {n:Int} (hl:Zj e l=some (.int .i64 n)) (hc:Zj e c=some (.int .i64 n)) (hn:0<=n/\n<4294967296) (hb:bytes<=4096) (hL:YM (L++[Blk.arr w 0 (List.replicate n.toNat z)])=some L') (h:Is O is keep k Q ((d,.ref A.length L.length 0 0 n.toNat)::e) ⟨A,false,L'⟩):Is O (⟨some d,none,false,.mkslice w bytes z l c⟩::is) keep k Q e ⟨A,false,L⟩:=by
 rw [<- JO hL] at h
 exact Z6 (v:=.ref A.length L.length 0 0 n.toNat) (st':=⟨A,false,L++[Blk.arr w 0 (List.replicate n.toNat z)]⟩) (by simp only [Zl,evalPO,ZI hl,ZI hc,Zdd,if_pos (show 0<=n/\n<=n/\n<4294967296/\bytes<=4096 by omega),St.new_cur,oS,Js]) h
theorem ZqU {w:Nat} {z:List AV} {ps:List (Nat × Opd)} {qs:List (Nat × AV)} {es es':List AV} (hq:Jk e ps=qs) (hf:fillE w z qs=some es) (he:ZZ es=some es') (hL:YM (L++[Blk.arr w 0 es'])=some L') (h:Is O is keep k Q ((d,.ref A.length L.length 0 0 es'.length)::e) ⟨A,false,L'⟩):Is O (⟨some d,none,false,.bslice true w z ps⟩::is) keep k Q e ⟨A,false,L⟩:=by
 rw [<- JO hL] at h;rw [<- Ji he] at h
 exact Z6 (v:=.ref A.length L.length 0 0 es.length) (st':=⟨A,false,L++[Blk.arr w 0 es]⟩) (by simp only [Zl,evalPO,hq,hf,oS,ZbA,if_true,St.new_cur,Js]) h
theorem Zz {st:St} {agg:Bool} {n:Nat} {a:Opd} {lv ix ver i o w:Nat} {es:List AV} {x v:AV} (ha:Zj e a=some (.ptr lv ix ver i o)) (hg:st.get lv ix=some (Blk.arr w ver es)) (hx:es[i]?=some x) (hv:Jq x agg o n=some v)
 (h:Is O is keep k Q ((d,v)::e) st):Is O (⟨some d,none,false,.ld agg n a⟩::is) keep k Q e st :=
 Z6 (v:=v) (st':=st) (by simp only [Zl,evalPO,ZI ha,loadP,hg,ZH2,if_true,hx,hv,oS,Ql]) h
theorem ZV {agg:Bool} {n:Nat} {a:Opd} {ix ver i o w:Nat} {es:List AV} {x v:AV} (ha:Zj e a=some (.ptr A.length ix ver i o)) (hg:L[ix]?=some (Blk.arr w ver es)) (hx:es[i]?=some x) (hv:Jq x agg o n=some v)
 (h:Is O is keep k Q ((d,v)::e) ⟨A,false,L⟩):Is O (⟨some d,none,false,.ld agg n a⟩::is) keep k Q e ⟨A,false,L⟩ :=
 Zz ha (by rw [St.get_cur,hg];rfl) hx hv h
theorem XW {st:St} {w:Nat} {x i:Opd} {lv ix ver s m:Nat} {n:Int} (hx:Zj e x=some (.ref lv ix ver s m)) (hi:Zj e i=some (.int .i64 n)) (hn:0<=n/\n<m) (hw:wIs w ver (st.get lv ix)=true) (h:Is O is keep k Q ((d,.ptr lv ix ver (s+n.toNat) 0)::e) st):Is O (⟨some d,none,false,.ixS w x i⟩::is) keep k Q e st :=
 Z6 (st':=st) (by simp only [Zl,evalPO,ZI hx,ZI hi,ixSV,Xk,if_pos hn,if_pos hw,oS,Ql]) h
theorem ZCW {w:Nat} {x i:Opd} {ix ver s m:Nat} {n:Int} {es:List AV} (hx:Zj e x=some (.ref A.length ix ver s m)) (hi:Zj e i=some (.int .i64 n)) (hn:0<=n/\n<m) (hg:L[ix]?=some (Blk.arr w ver es)) (h:Is O is keep k Q ((d,.ptr A.length ix ver (s+n.toNat) 0)::e) ⟨A,false,L⟩):Is O (⟨some d,none,false,.ixS w x i⟩::is) keep k Q e ⟨A,false,L⟩ :=
 XW hx hi hn (by rw [St.get_cur,hg];simp [wIs,vis]) h
theorem Znq {n:Nat} {a x:Opd} {ix ver i o w:Nat} {es:List AV} {v v' y:AV} (ha:Zj e a=some (.ptr A.length ix ver i o)) (hx:Zj e x=some v) (hg:L[ix]?=some (Blk.arr w ver es)) (hy:es[i]?=some y)
 (hs:Zd Qd (A.length+1) ⟨A,false,L⟩ v=some (v,⟨A,false,L⟩)) (hv:(JR w y o n v).bind YN=some v') (hL:YM (L.set ix (Blk.arr w ver (es.set i v')))=some L') (h:Is O is keep k Q e ⟨A,false,L'⟩):Is O (⟨none,none,false,.st n a x⟩::is) keep k Q e ⟨A,false,L⟩:=by
 have hlt:ix<L.length:=by
  rw [List.getElem?_eq_some_iff] at hg;exact hg.1
 rw [<- JO hL] at h
 have hv':JR w y o n v=some v':=by
  simp only [oB] at hv;obtain ⟨u,h1,h2⟩:=hv;rw [h1,Y1 h2]
 refine Z6 (od:=none) (v:=.undef) (st':=⟨A,false,L.set ix (Blk.arr w ver (es.set i v'))⟩) ?_ h;simp only [Zl,evalPO,ZI ha,ZI hx,ZBW,hs,oS,ZFr,St.get_cur,hg,vis,Xt,if_true,hy,hv',St.put,if_false,jB,if_pos hlt,ZDm]
theorem JD {n:Nat} {a x:Opd} {ix ver i o w:Nat} {es:List AV} {v v' y:AV} (hg:L[ix]?=some (Blk.arr w ver es)) (ha:Zj e a=some (.ptr A.length ix ver i o)) (hx:Zj e x=some v) (hy:es[i]?=some y)
 (hs:Zd Qd (A.length+1) ⟨A,false,L⟩ v=some (v,⟨A,false,L⟩)) (hv:(JR w y o n v).bind YN=some v') (h:Is O is keep k Q e ⟨A,false,L.set ix (Blk.arr w ver (es.set i v'))⟩):Is O (⟨none,none,false,.st n a x⟩::is) keep k Q e ⟨A,false,L⟩:=by
 have hlt:ix<L.length:=by
  rw [List.getElem?_eq_some_iff] at hg;exact hg.1
 have hv':JR w y o n v=some v':=by
  simp only [oB] at hv;obtain ⟨u,h1,h2⟩:=hv;rw [h1,Y1 h2]
 refine Z6 (od:=none) (v:=.undef) (st':=⟨A,false,L.set ix (Blk.arr w ver (es.set i v'))⟩) ?_ h;simp only [Zl,evalPO,ZI ha,ZI hx,ZBW,hs,oS,ZFr,St.get_cur,hg,vis,Xt,if_true,hy,hv',St.put,if_false,jB,if_pos hlt,ZDm]
theorem QE {n:Nat} {a x:Opd} {ix ver o w:Nat} {v v' y:AV} (ha:Zj e a=some (.ptr A.length ix ver 0 o)) (hx:Zj e x=some v) (hg:L[ix]?=some (Blk.arr w ver [y]))
 (hs:Zd Qd (A.length+1) ⟨A,false,L⟩ v=some (v,⟨A,false,L⟩)) (hv:(JR w y o n v).bind YN=some v') (hL:YM (L.set ix (Blk.arr w ver [v']))=some L') (h:Is O is keep k Q e ⟨A,false,L'⟩):Is O (⟨none,none,false,.st n a x⟩::is) keep k Q e ⟨A,false,L⟩ :=
 Znq ha hx hg rfl hs hv hL h
theorem Ze1 {w bytes:Nat} {s x:Opd} {ix ver n:Nat} {es ys:List AV} {vx:AV} (hs:Zj e s=some (.ref A.length ix ver 0 n)) (hx:Zj e x=some vx) (hg:L[ix]?=some (Blk.arr w ver es)) (hy:elems ⟨A,false,L⟩ vx=some ys) (hb:n=es.length)
 (hl:es.length+ys.length<4294967296) (hw:bytes<=4096) (hsm:JH w ys=true) (hm:mapSt (Zd Qd (A.length+1)) ⟨A,false,L⟩ ys=some (ys,⟨A,false,L⟩))
 (hL:YM (L.set ix (Blk.arr w (ver+1) (es++ys)))=some L') (h:Is O is keep k Q ((d,.ref A.length ix (ver+1) 0 (n+ys.length))::e) ⟨A,false,L'⟩):Is O (⟨some d,none,false,.app w bytes s x⟩::is) keep k Q e ⟨A,false,L⟩:=by
 have hlt:ix<L.length:=by
  rw [List.getElem?_eq_some_iff] at hg;exact hg.1
 rw [<- JO hL] at h;subst hb;refine Z6 (v:=.ref A.length ix (ver+1) 0 (es.length+ys.length)) (st':=⟨A,false,L.set ix (Blk.arr w (ver+1) (es++ys))⟩) ?_ h
 simp only [Zl,evalPO,ZI hs,ZI hx,hy,oS,Jd,if_pos hsm,hm,Zea,St.get_cur,hg,vis,ZMq,true_and,if_pos (show 0+es.length<=es.length/\es.length+ys.length<4294967296/\bytes<=4096 by omega),St.put,if_true,if_false,jB,if_pos hlt,List.drop_zero,List.take_length]
theorem Ze2 {w bytes:Nat} {s x:Opd} {ix ver n:Nat} {es:List AV} {y:AV} (hs:Zj e s=some (.ref A.length ix ver 0 n)) (hx:Zj e x=some (.lit [y])) (hg:L[ix]?=some (Blk.arr w ver es)) (hb:n=es.length)
 (hl:es.length+1<4294967296) (hw:bytes<=4096) (hsm:y.wide=some w) (hm:Zd Qd (A.length+1) ⟨A,false,L⟩ y=some (y,⟨A,false,L⟩))
 (hL:YM (L.set ix (Blk.arr w (ver+1) (es++[y])))=some L') (h:Is O is keep k Q ((d,.ref A.length ix (ver+1) 0 (n+1))::e) ⟨A,false,L'⟩):Is O (⟨some d,none,false,.app w bytes s x⟩::is) keep k Q e ⟨A,false,L⟩ :=
 Ze1 (ys:=[y]) hs hx hg rfl hb hl hw (by simp [JH,hsm]) (by simp only [mapSt,hm,oS,XQ]) hL h
theorem Zkg {T:Tab} {st:St} {f:Opd} {args:List Opd} {g:FuncId} {first cap vs ws:List AV} {P:AV->St->Prop} (hf:Zj e f=some (.func (.func g) first cap)) (ha:ZJm e args=some vs) (hw:ZZ (Zn (first++vs++cap))=some ws)
 (hc:Sp T g ws st P) (h:∀ v st',P v st'->Is (S T) is keep k Q ((d,v)::e) st'):Is (S T) (⟨some d,none,false,.call .norm f args⟩::is) keep k Q e st:=by
 obtain ⟨v,st',h1,h2⟩:=hc;refine Z6 (v:=v) (st':=st') ?_ (h v st' h2);simp only [Zl,ZI hf,Xw ha,ZBF,Ji hw,Q8,h1]
theorem ZA {T:Tab} {st st':St} {f:Opd} {args:List Opd} {g:FuncId} {first cap vs ws:List AV} {v:AV} (hf:Zj e f=some (.func (.func g) first cap)) (ha:ZJm e args=some vs) (hw:ZZ (Zn (first++vs++cap))=some ws)
 (hc:S T g ws st=some (v,st')) (h:Is (S T) is keep k Q ((d,v)::e) st'):Is (S T) (⟨some d,none,false,.call .norm f args⟩::is) keep k Q e st:=by
 refine Z6 (v:=v) (st':=st') ?_ h;simp only [Zl,ZI hf,Xw ha,ZBF,Ji hw,Q8,hc]
theorem Y2 {T:Tab} {st:St} {f:Opd} {args:List Opd} {g:FuncId} {first cap vs ws:List AV} {v:AV} {st':St} (hf:Zj e f=some (.func (.func g) first cap)) (ha:ZJm e args=some vs) (hw:ZZ (Zn (first++vs++cap))=some ws)
 (hc:S T g ws st.allRo=some (v,st')) (h:Is (S T) is keep k Q ((d,v)::e) st):Is (S T) (⟨some d,none,false,.call .pure f args⟩::is) keep k Q e st:=by
 refine Z6 (v:=v) (st':=st) ?_ h;simp only [Zl,ZI hf,Xw ha,ZBF,Ji hw,Q8,hc,oS,Qa]
theorem Znr {T:Tab} {st st':St} {f:Opd} {args:List Opd} {g:FuncId} {first cap vs ws:List AV} {v:AV} (hf:Zj e f=some (.func (.func g) first cap)) (ha:ZJm e args=some vs) (hw:ZZ (Zn (first++vs++cap))=some ws)
 (hc:Q8 (S T) .inner g ws st=some (v,st')) (h:Is (S T) is keep k Q ((d,v)::e) st'):Is (S T) (⟨some d,none,false,.call .inner f args⟩::is) keep k Q e st:=by
 refine Z6 (v:=v) (st':=st') ?_ h;simp only [Zl,ZI hf,Xw ha,ZBF,Ji hw,hc]
theorem Zns {T:Tab} {g:FuncId} {ws:List AV} {st:St} {v v':AV} {L1 L2:List Blk} {ro:Bool} (hc:S T g ws ⟨st.A++[(st.ro,st.L)],false,[]⟩=some (v,⟨st.A++[(st.ro,st.L)],false,L1⟩))
 (hs:Zd Qd (st.A++[(st.ro,st.L)]).length ⟨st.A++[(st.ro,st.L)],false,L1⟩ v=some (v',⟨st.A++[(st.ro,st.L)],ro,L2⟩)):Q8 (S T) .inner g ws st=some (v',st):=by
 simp only [Q8,St.push,hc,oS,ZMs,ZH3];rw [hs];simp only [oS,YU,ZFw,ZbC]
theorem XY {T:Tab} {f:FuncId} {body:PC} {res:List RV} {args:List AV} {st st2:St} {v:AV} (hT:T f=some (.pf ⟨true,body,res⟩))
 (h:Ru (S T) body [] (fun x e st'=>YI true res (x,e,st')=some (v,st2)) (YB 0 args) st):S T f args st=some (v,st2):=by
 obtain ⟨⟨x,e',st',h1,h2⟩⟩:=h;refine Zm7 hT ?_;simp only [J0,if_true,h1,oS];exact h2
theorem ZWX {T:Tab} {f:FuncId} {body:PC} {res:List RV} {args:List AV} {st:St} {P:AV->St->Prop} (hT:T f=some (.pf ⟨true,body,res⟩))
 (h:Ru (S T) body [] (fun x e st'=>∃ v st'',YI true res (x,e,st')=some (v,st'')/\P v st'') (YB 0 args) st):Sp T f args st P:=by
 obtain ⟨⟨x,e',st',h1,v,st'',h2,h3⟩⟩:=h;refine ⟨v,st'',Zm7 hT ?_,h3⟩;simp only [J0,if_true,h1,oS];exact h2
theorem ZXR {T:Tab} {f:FuncId} {body:PC} {res:List RV} {args:List AV} {st:St} {P:AV->St->Prop} (hT:T f=some (.pf ⟨false,body,res⟩))
 (h:Ru (S T) body [] (fun x e st'=>∃ v st'',YI false res (x,e,st')=some (v,st'')/\P v st'') (YB 0 args) ⟨st.A++[(st.ro,st.L)],false,[]⟩):Sp T f args st P:=by
 obtain ⟨⟨x,e',st',h1,v,st'',h2,h3⟩⟩:=h;refine ⟨v,st'',Zm7 hT ?_,h3⟩;simp only [J0,jB,if_false,St.push,h1,oS];exact h2
theorem Z9 {T:Tab} {f:FuncId} {body:PC} {res:List RV} {args:List AV} {st:St} {v:AV} (hT:T f=some (.pf ⟨false,body,res⟩))
 (h:∀ A,A=st.A++[(st.ro,st.L)]->Ru (S T) body [] (fun x e st'=>YI false res (x,e,st')=some (v,st)) (YB 0 args) ⟨A,false,[]⟩):S T f args st=some (v,st):=by
 obtain ⟨⟨x,e',st',h1,h2⟩⟩:=h _ rfl;refine Zm7 hT ?_;simp only [J0,jB,if_false,St.push,h1,oS];exact h2
theorem ZEV {st:St} {r:Bool × List Blk} {A0:List (Bool × List Blk)} {L:List Blk} {res:List RV} {x:Ex} {v v':AV} {ro:Bool} {L':List Blk} (hA:A=A0++[r]) (hx:x=.norm\/x=.ret) (hr:Q3 ⟨A,false,L⟩ e res=some v)
 (hs:Zd Qd A.length ⟨A,false,L⟩ v=some (v',⟨A,ro,L'⟩)) (hst:st=⟨A0,r.1,r.2⟩):YI false res (x,e,⟨A,false,L⟩)=some (v',st):=by
 have:ZH3 ⟨A,false,L⟩ v=some (v',st):=by
  unfold ZH3
  rw [show (⟨A,false,L⟩:St).A.length=A.length from rfl,hs]
  simp only [oS,YU];rw [hA,ZFw,hst];rfl
 rcases hx with rfl|rfl<;>simp only [YI,hr,oS,jB,if_false,this]
end
theorem ZW {st:St} {A:List (Bool × List Blk)} {ro:Bool} {L:List Blk} (hA:A=st.A++[(st.ro,st.L)]) {lv ix:Nat} {b:Blk} (h:st.get lv ix=some b):St.get ⟨A,ro,L⟩ lv ix=some b:=by
 have:=St.get_le h
 rw [hA,St.get_push,if_neg (by omega)];exact h
theorem YO {O:Orc} {k:List Fr} {Q:JV} {e:Env} {st:St} {keep:List Nat} {is:List PI} {d:Nat} {α:Type} {f:α->AV} {l:List α} {w:Nat} {x i:Opd} {n:Int} (hx:Zj e x=some (.lit (l.map f))) (hi:Zj e i=some (.int .i64 n)) (hn:0<=n/\n<l.length) (hw:∀ a,(f a).wide=some w)
 (h:∀ a,l[n.toNat]?=some a->Is O is keep k Q ((d,.lptr (f a) 0)::e) st):Is O (⟨some d,none,false,.ixS w x i⟩::is) keep k Q e st:=by
 have hlt:n.toNat<l.length:=by omega
 refine Zr5 hx hi (by simpa using hn) (v:=f l[n.toNat]) (by simp [hlt]) (hw _) (h _ ?_)
 simp [hlt]
theorem ZXS {T:Tab} {k:List Fr} {Q:JV} {e:Env} {keep:List Nat} {is:List PI} {d:Nat} {st st':St} {f:Opd} {args:List Opd} {g:FuncId} {first cap vs ws:List AV} {p:Prop} [Decidable p] (hf:Zj e f=some (.func (.func g) first cap)) (ha:ZJm e args=some vs) (hw:ZZ (Zn (first++vs++cap))=some ws)
 (hc:S T g ws st=some (.bool (decide p),st')) (hT:p->Is (S T) is keep k Q ((d,.bool true)::e) st') (hF:¬ p->Is (S T) is keep k Q ((d,.bool false)::e) st'):Is (S T) (⟨some d,none,false,.call .norm f args⟩::is) keep k Q e st:=by
 by_cases q:p
 ·rw [decide_eq_true q] at hc;exact ZA hf ha hw hc (hT q)
 ·rw [decide_eq_false q] at hc;exact ZA hf ha hw hc (hF q)
def ZOO (st:St) (e:Env):List RV->Option (List AV)
 | []=>some []
 | .s t::rs=>match J4 e t with
  | some v=>match ZOO st e rs with
   | some r=>some (v::r)
   | none=>none
  | none=>none
 | .c t agg n::rs=>match J4 e t with
  | some a=>match loadP st agg n a with
   | some v=>match ZOO st e rs with
    | some r=>some (v::r)
    | none=>none
   | none=>none
  | none=>none
theorem ZF5 {st:St} {e:Env}:∀ {rs:List RV} {vs:List AV},ZOO st e rs=some vs->ZET st e rs=some vs
 | [],vs,h=>h
 | .s t::rs,vs,h=>by
  simp only [ZOO] at h
  split at h
  ·rename_i v hv
   split at h
   ·rename_i r hr
    simp only [oJ] at h;simp only [ZET,ZBY,oS,ZF5 hr,Option.map_some,QV hv,h]
   ·simp at h
  ·simp at h
 | .c t agg n::rs,vs,h=>by
  simp only [ZOO] at h
  split at h
  ·rename_i a ha
   split at h
   ·rename_i v hv
    split at h
    ·rename_i r hr
     simp only [oJ] at h;simp only [ZET,ZBY,QV ha,hv,oS,ZF5 hr,Option.map_some,h]
    ·simp at h
   ·simp at h
  ·simp at h
def Zls:List AV->Option AV
 | [v]=>some v
 | vs=>some (.tup vs)
theorem ZLa {vs:List AV} {v:AV} (h:Zls vs=some v):ZH4 vs=v:=by
 unfold Zls at h
 split at h
 ·simpa [ZH4] using h
 ·rename_i hn
  simp only [oJ] at h;subst h;unfold ZH4
  split
  ·rename_i u
   exact absurd rfl (hn u)
  ·rfl
def ZQv:AV->Option AV
 | .agg cs=>match ZZ cs with
  | some r=>some (.agg r)
  | none=>none
 | .tup cs=>match ZZ cs with
  | some r=>some (.tup r)
  | none=>none
 | v=>some v
theorem ZEC {v r:AV} (h:ZQv v=some r):v=r:=by
 unfold ZQv at h
 split at h
 ·split at h
  ·rename_i q hq
   simp only [oJ] at h;rw [<- h,Ji hq]
  ·simp at h
 ·split at h
  ·rename_i q hq
   simp only [oJ] at h;rw [<- h,Ji hq]
  ·simp at h
 ·simpa using h
theorem ZX {e:Env} {A:List (Bool × List Blk)} {st:St} {L:List Blk} {res:List RV} {x:Ex} {vs:List AV} {v v' w u:AV} {L':List Blk} {ro:Bool} (hA:A=st.A++[(st.ro,st.L)]) (hx:x=.norm\/x=.ret) (hr:ZOO ⟨A,false,L⟩ e res=some vs) (ht:Zls vs=some v)
 (hs:Zd Qd A.length ⟨A,false,L⟩ v=some (v',⟨A,ro,L'⟩)) (hw:ZQv v'=some w) (hu:w=u):YI false res (x,e,⟨A,false,L⟩)=some (u,st):=by
 subst hu;rw [<- ZEC hw];refine ZEV hA hx ?_ hs rfl;simp only [Q3,ZF5 hr,Option.map_some,ZLa ht]
theorem Jj {e:Env} {st:St} {res:List RV} {x:Ex} {vs:List AV} {v w u:AV} (hx:x=.norm\/x=.ret) (hr:ZOO st e res=some vs) (ht:Zls vs=some v) (hw:ZQv v=some w) (hu:w=u):YI true res (x,e,st)=some (u,st):=by
 subst hu;rw [<- ZEC hw]
 have:Q3 st e res=some v:=by simp only [Q3,ZF5 hr,Option.map_some,ZLa ht]
 rcases hx with rfl|rfl<;>simp only [YI,this,oS,if_true,Ql]
theorem ZhS {A:List (Bool × List Blk)} {L:List Blk} {m ix w ver n:Nat} {es:List AV} (hg:L[ix]?=some (.arr w ver es)) (hn:n=es.length) (he:∀ v,v∈es->imm m v=true) :
 Zd (m+1) A.length ⟨A,false,L⟩ (.ref A.length ix ver 0 n)=some (.lit es,⟨A,false,L.set ix .dead⟩):=by
 subst hn
 simp only [Zd,Nat.lt_irrefl,if_false,and_self,if_true,hg,ZBV,Nat.zero_add,Nat.le_refl,List.drop_zero,List.take_length,oS,Yz (fun u hu=>ZEr (he u hu)),ZeX]
theorem Zlt {m b:Nat} {st st1:St} {x x':AV} {ys:List AV} (hx:Zd m b st x=some (x',st1)) (hy:∀ y,y∈ys->imm m y=true):Zd (m+1) b st (.tup (x::ys))=some (.tup (x'::ys),st1):=by
 simp only [Zd,mapSt,hx,oS,Yz (fun u hu=>ZEr (hy u hu)),XQ,ZeY]
theorem ZLb {e:Env} {A:List (Bool × List Blk)} {st:St} {L:List Blk} {res:List RV} {x:Ex} {ix w ver n:Nat} {es:List AV} {u:AV} (hA:A=st.A++[(st.ro,st.L)]) (hx:x=.norm\/x=.ret) (hr:ZOO ⟨A,false,L⟩ e res=some [.ref A.length ix ver 0 n])
 (hg:L[ix]?=some (.arr w ver es)) (hn:n=es.length) (he:∀ v,v∈es->imm 5 v=true) (hu:.lit es=u):YI false res (x,e,⟨A,false,L⟩)=some (u,st) :=
 ZX hA hx hr rfl (ZhS hg hn he) rfl hu
theorem ZXT {e:Env} {A:List (Bool × List Blk)} {st:St} {L:List Blk} {res:List RV} {x:Ex} {ix w ver n:Nat} {es:List AV} {y u:AV} (hA:A=st.A++[(st.ro,st.L)]) (hx:x=.norm\/x=.ret) (hr:ZOO ⟨A,false,L⟩ e res=some [.ref A.length ix ver 0 n,y])
 (hg:L[ix]?=some (.arr w ver es)) (hn:n=es.length) (he:∀ v,v∈es->imm 4 v=true) (hy:imm 5 y=true) (hu:.tup [.lit es,y]=u):YI false res (x,e,⟨A,false,L⟩)=some (u,st) :=
 ZX hA hx hr rfl (Zlt (ZhS hg hn he) (by intro z hz;simp only [List.mem_singleton] at hz;rw [hz];exact hy)) rfl hu
theorem ZA7 {e:Env} {A:List (Bool × List Blk)} {st:St} {r:Bool × List Blk} {A0:List (Bool × List Blk)} {L:List Blk} {res:List RV} {x:Ex} {p:Prop} [Decidable p] {b:Bool} (hA:A=A0++[r]) (hx:x=.norm\/x=.ret) (hr:Q3 ⟨A,false,L⟩ e res=some (.bool b))
 (hst:st=⟨A0,r.1,r.2⟩) (hb:b=decide p):YI false res (x,e,⟨A,false,L⟩)=some (.bool (decide p),st):=by
 subst hb;exact ZEV hA hx hr rfl hst
def ZTT (L:List Blk) (e:Env):List RV->Option (List AV × List Nat)
 | []=>some ([],[])
 | .s t::rs=>match J4 e t with
  | some v=>match ZTT L e rs with
   | some r=>some (v::r.1,r.2)
   | none=>none
  | none=>none
 | .c t agg n::rs=>match J4 e t with
  | some (.ptr lv ix ver i o)=>match ZH2 agg n ver i o (vis L[ix]?) with
   | some v=>match ZTT L e rs with
    | some r=>some (v::r.1,lv::r.2)
    | none=>none
   | none=>none
  | _=>none
theorem ZF6 {A:List (Bool × List Blk)} {ro:Bool} {L:List Blk} {e:Env}:∀ {rs:List RV} {r:List AV × List Nat},ZTT L e rs=some r->(∀ l∈r.2,l=A.length)->ZET ⟨A,ro,L⟩ e rs=some r.1
 | [],r,h,_=>by simp only [ZTT,oJ] at h;subst h;rfl
 | .s t::rs,r,h,hl=>by
  simp only [ZTT] at h
  split at h
  ·rename_i v hv
   split at h
   ·rename_i q hq
    simp only [oJ] at h;subst h
    have:=ZF6 (A:=A) (ro:=ro) hq hl
    simp only [ZET,ZBY,oS,this,Option.map_some,QV hv]
   ·simp at h
  ·simp at h
 | .c t agg n::rs,r,h,hl=>by
  simp only [ZTT] at h
  split at h
  ·rename_i lv ix ver i o hv
   split at h
   ·rename_i v hb
    split at h
    ·rename_i q hq
     simp only [oJ] at h;subst h
     have h1:lv=A.length:=hl lv (by simp)
     have:=ZF6 (A:=A) (ro:=ro) hq (fun l hm=>hl l (by simp [hm]))
     subst h1;simp only [ZET,ZBY,QV hv,loadP,St.get_cur,hb,oS,this,Option.map_some]
    ·simp at h
   ·simp at h
  ·simp at h
theorem Zkh {k a:Nat} {l:List Nat} (h:l=List.replicate k a):∀ x∈l,x=a:=by
 intro x hx;rw [h] at hx;exact List.eq_of_mem_replicate hx
theorem ZAA {e:Env} {A:List (Bool × List Blk)} {st:St} {L:List Blk} {res:List RV} {x:Ex} {r:List AV × List Nat} {v v' w u:AV} {L':List Blk} {ro:Bool} (hA:A=st.A++[(st.ro,st.L)]) (hx:x=.norm\/x=.ret) (hr:ZTT L e res=some r) (hl:r.2=List.replicate r.2.length A.length) (ht:Zls r.1=some v)
 (hs:Zd Qd A.length ⟨A,false,L⟩ v=some (v',⟨A,ro,L'⟩)) (hw:ZQv v'=some w) (hu:w=u):YI false res (x,e,⟨A,false,L⟩)=some (u,st):=by
 subst hu;rw [<- ZEC hw];refine ZEV hA hx ?_ hs rfl;simp only [Q3,ZF6 hr (Zkh hl),Option.map_some,ZLa ht]
theorem Zr6 {e:Env} {A:List (Bool × List Blk)} {L:List Blk} {res:List RV} {x:Ex} {r:List AV × List Nat} {v w u:AV} (hx:x=.norm\/x=.ret) (hr:ZTT L e res=some r) (hl:r.2=List.replicate r.2.length A.length) (ht:Zls r.1=some v) (hw:ZQv v=some w) (hu:w=u):YI true res (x,e,⟨A,false,L⟩)=some (u,⟨A,false,L⟩):=by
 subst hu;rw [<- ZEC hw]
 have:Q3 ⟨A,false,L⟩ e res=some v:=by simp only [Q3,ZF6 hr (Zkh hl),Option.map_some,ZLa ht]
 rcases hx with rfl|rfl<;>simp only [YI,this,oS,if_true,Ql]
def ZbE (r:Bool × List Blk) (ix:Nat) (b:Blk):Bool × List Blk:=(r.1,r.2.set ix b)
def St.upd (st:St) (lv ix:Nat) (b:Blk):St :=
 if lv=st.A.length then ⟨st.A,st.ro,st.L.set ix b⟩ else ⟨st.A.set lv (ZbE (st.A[lv]?.getD (false,[])) ix b),st.ro,st.L⟩
def St.wr (st:St) (lv:Nat):Prop:=if lv=st.A.length then st.ro=false else ∃ r,st.A[lv]?=some (false,r)
theorem ZDA {L:List Blk} {ix:Nat} {c:Blk} (h:vis L[ix]?=some c):ix<L.length:=by
 rcases Nat.lt_or_ge ix L.length with q|q
 ·exact q
 ·rw [List.getElem?_eq_none q] at h;simp [vis] at h
theorem St.put_upd {st:St} {lv ix:Nat} {b c:Blk} (hw:st.wr lv) (hg:st.get lv ix=some c):st.put lv ix b=some (st.upd lv ix b):=by
 unfold St.wr at hw;unfold St.put St.upd
 by_cases h:lv=st.A.length
 ·rw [if_pos h] at hw ⊢
  rw [if_pos h];rw [St.get,if_pos h] at hg;have hlt:=ZDA hg
  rw [if_neg (by rw [hw];simp),if_pos hlt,hw]
 ·rw [if_neg h] at hw ⊢
  rw [if_neg h];obtain ⟨r,hr⟩:=hw;rw [St.get,if_neg h,hr] at hg;simp only [oS] at hg;have hlt:=ZDA hg;rw [hr];simp only [ZFq,if_pos hlt,Option.getD_some,ZbE]
theorem St.get_upd {st:St} {lv ix lv' ix':Nat} {b c:Blk} (hg:st.get lv ix=some c) (hb:vis (some b)=some b):(st.upd lv ix b).get lv' ix'=if lv'=lv/\ix'=ix then some b else st.get lv' ix':=by
 unfold St.upd
 by_cases h:lv=st.A.length
 ·rw [if_pos h]
  rw [St.get,if_pos h] at hg;have hlt:=ZDA hg
  by_cases h':lv'=st.A.length
  ·simp only [St.get,if_pos h']
   rw [List.getElem?_set]
   by_cases hi:ix=ix'
   ·subst hi;rw [if_pos rfl,if_pos hlt,if_pos ⟨h'.trans h.symm,rfl⟩];exact hb
   ·rw [if_neg hi,if_neg (fun q=>hi q.2.symm)]
  ·simp only [St.get,if_neg h']
   rw [if_neg (fun q=>h' (q.1.trans h))]
 ·rw [if_neg h]
  rw [St.get,if_neg h] at hg
  by_cases h':lv'=st.A.length
  ·simp only [St.get,List.length_set,if_pos h']
   rw [if_neg (fun q=>h (q.1.symm.trans h'))]
  ·simp only [St.get,List.length_set,if_neg h',List.getElem?_set]
   cases hr:st.A[lv]? with
   | none=>rw [hr] at hg;simp at hg
   | some r =>
    have hll:=(List.getElem?_eq_some_iff.1 hr).1;rw [hr] at hg;simp only [oS] at hg;have hlt:=ZDA hg
    by_cases hl:lv=lv'
    ·subst hl
     simp only [if_true,if_pos hll,Option.getD_some,oS,ZbE,List.getElem?_set,true_and,hr]
     by_cases hi:ix=ix'
     ·subst hi;simp [hlt,hb]
     ·simp only [if_neg hi,if_neg (show ¬ (ix'=ix) from fun q=>hi q.symm)]
    ·rw [if_neg (show ¬ (lv'=lv/\ix'=ix) from fun q=>hl q.1.symm),if_neg hl]
theorem St.upd_A {st:St} {lv ix:Nat} {b:Blk}:(st.upd lv ix b).A.length=st.A.length:=by
 unfold St.upd;split<;>simp
theorem St.wr_upd {st:St} {lv ix lv':Nat} {b:Blk} (hw:st.wr lv) (h:st.wr lv'):(st.upd lv ix b).wr lv':=by
 unfold St.wr at *
 rw [St.upd_A];unfold St.upd
 by_cases h1:lv=st.A.length
 ·simp only [if_pos h1];exact h
 ·simp only [if_neg h1]
  by_cases h':lv'=st.A.length
  ·simp only [if_pos h'] at h ⊢;exact h
  ·rw [if_neg h'] at h ⊢
   rw [if_neg h1] at hw;obtain ⟨r,hr⟩:=h;obtain ⟨r2,hr2⟩:=hw;rw [List.getElem?_set]
   by_cases hl:lv=lv'
   ·subst hl
    rw [if_pos rfl,if_pos (List.getElem?_eq_some_iff.1 hr).1,hr];exact ⟨_,rfl⟩
   ·rw [if_neg hl];exact ⟨r,hr⟩
theorem Xe {st:St} {A:List (Bool × List Blk)} {ro:Bool} {L:List Blk} (hA:A=st.A++[(st.ro,st.L)]) {lv ix:Nat} {b:Blk} (hl:lv<=st.A.length) :
 St.upd ⟨A,ro,L⟩ lv ix b=⟨(st.upd lv ix b).A++[((st.upd lv ix b).ro,(st.upd lv ix b).L)],ro,L⟩:=by
 subst hA;unfold St.upd;simp only [lL,List.length_singleton]
 rw [if_neg (by omega)]
 by_cases h:lv=st.A.length
 ·rw [if_pos h]
  subst h;simp only [St.mk.injEq,and_true];rw [List.getElem?_append_right (Nat.le_refl _)]
  simp [ZbE]
 ·rw [if_neg h]
  simp only [St.mk.injEq,and_true]
  rw [jL (by omega),List.set_append_left _ _ (by omega)]
theorem XI {st:St} {A:List (Bool × List Blk)} {ro:Bool} {L:List Blk} (hA:A=st.A++[(st.ro,st.L)]) {lv:Nat} (hl:lv<=st.A.length) (h:st.wr lv):St.wr ⟨A,ro,L⟩ lv:=by
 subst hA
 unfold St.wr at *
 simp only [lL,List.length_singleton]
 rw [if_neg (by omega)]
 by_cases q:lv=st.A.length
 ·rw [if_pos q] at h
  subst q
  exact ⟨st.L,by simp [h]⟩
 ·rw [if_neg q] at h
  obtain ⟨r,hr⟩:=h
  exact ⟨r,by rw [jL (by omega)];exact hr⟩
def ZM4 (f:AV->Option AV):List AV->Option (List AV)
 | []=>some []
 | v::vs=>match f v with
  | some u=>match ZM4 f vs with
   | some r=>some (u::r)
   | none=>none
  | none=>none
def fcV:Nat->AV->Option AV
 | 0,v=>some v
 | n+1,v=>match v with
  | .agg cs=>match ZM4 (fcV n) cs with
   | some r=>some (.agg r)
   | none=>none
  | .tup cs=>match ZM4 (fcV n) cs with
   | some r=>some (.tup r)
   | none=>none
  | .lit cs=>match ZM4 (fcV n) cs with
   | some r=>some (.lit r)
   | none=>none
  | v=>some v
theorem ZED {f:AV->Option AV} (hf:∀ v r,f v=some r->v=r):∀ {l r:List AV},ZM4 f l=some r->l=r
 | [],r,h=>by simpa [ZM4] using h
 | v::vs,r,h=>by
  simp only [ZM4] at h
  split at h
  ·rename_i u hu
   split at h
   ·rename_i q hq
    simp only [oJ] at h;rw [<- h,<- hf v u hu,ZED hf hq]
   ·simp at h
  ·simp at h
theorem ZOP:∀ {n:Nat} {v r:AV},fcV n v=some r->v=r
 | 0,v,r,h=>by simpa [fcV] using h
 | n+1,v,r,h=>by
  cases v<;>simp only [fcV] at h
  case agg cs =>
   split at h
   ·rename_i q hq
    simp only [oJ] at h
    rw [<- h,ZED (fun v r h=>ZOP h) hq]
   ·simp at h
  case tup cs =>
   split at h
   ·rename_i q hq
    simp only [oJ] at h
    rw [<- h,ZED (fun v r h=>ZOP h) hq]
   ·simp at h
  case lit cs =>
   split at h
   ·rename_i q hq
    simp only [oJ] at h
    rw [<- h,ZED (fun v r h=>ZOP h) hq]
   ·simp at h
  all_goals simpa using h
def ZOQ (e:Env):List (Nat × Nat × Opd)->Option (List (Nat × Nat × AV))
 | []=>some []
 | (a,b,o)::ps=>match Zj e o with
  | some v=>match ZOQ e ps with
   | some r=>some ((a,b,v)::r)
   | none=>none
  | none=>none
def ZF7 (e:Env):List (Nat × Opd)->Option (List (Nat × AV))
 | []=>some []
 | (a,o)::ps=>match Zj e o with
  | some v=>match ZF7 e ps with
   | some r=>some ((a,v)::r)
   | none=>none
  | none=>none
theorem ZOR {e:Env}:∀ {ps:List (Nat × Nat × Opd)} {r:List (Nat × Nat × AV)},ZOQ e ps=some r->XV e ps=r
 | [],r,h=>by simp only [ZOQ,oJ] at h;rw [<- h];rfl
 | (a,b,o)::ps,r,h=>by
  simp only [ZOQ] at h
  split at h
  ·rename_i v hv
   split at h
   ·rename_i q hq
    simp only [oJ] at h;rw [<- h,XV,ZI hv,ZOR hq]
   ·simp at h
  ·simp at h
theorem ZF8 {e:Env}:∀ {ps:List (Nat × Opd)} {r:List (Nat × AV)},ZF7 e ps=some r->Jk e ps=r
 | [],r,h=>by simp only [ZF7,oJ] at h;rw [<- h];rfl
 | (a,o)::ps,r,h=>by
  simp only [ZF7] at h
  split at h
  ·rename_i v hv
   split at h
   ·rename_i q hq
    simp only [oJ] at h;rw [<- h,Jk,ZI hv,ZF8 hq]
   ·simp at h
  ·simp at h
theorem JN {b lv ix ver s n:Nat} (st:St) (h:lv<b):Zd Qd b st (.ref lv ix ver s n)=some (.ref lv ix ver s n,st):=by
 simp only [Zd,Qd,if_pos h]
theorem ZLc {n:Nat} {A:List (Bool × List Blk)} {L:List Blk} {ix ver w s m:Nat} {es es':List AV} (hg:L[ix]?=some (.arr w ver es)) (hm:s+m<=es.length) (he:mapSt (Zd n 0) ⟨A,false,L.set ix .dead⟩ ((es.drop s).take m)=some (es',⟨A,false,L.set ix .dead⟩)) :
 Zd (n+1) A.length ⟨A,false,L⟩ (.ref A.length ix ver s m)=some (.lit es',⟨A,false,L.set ix .dead⟩):=by
 simp only [Zd,Nat.lt_irrefl,if_false,and_self,if_true,hg,ZBV,true_and,if_pos hm,oS,he,ZeX]
section
variable {O:Orc} {k:List Fr} {Q:JV} {e:Env} {A:List (Bool × List Blk)} {L L':List Blk} {keep:List Nat} {is:List PI} {d:Nat}
theorem Znt {st:St} {n:Nat} {a x:Opd} {lv ix ver i o w:Nat} {es:List AV} {v v' y:AV} (ha:Zj e a=some (.ptr lv ix ver i o)) (hx:Zj e x=some v) (hw:st.wr lv) (hg:st.get lv ix=some (Blk.arr w ver es)) (hy:es[i]?=some y)
 (hs:Zd Qd (lv+1) st v=some (v,st)) (hv:(JR w y o n v).bind YN=some v') (h:Is O is keep k Q e (st.upd lv ix (Blk.arr w ver (es.set i v')))):Is O (⟨none,none,false,.st n a x⟩::is) keep k Q e st:=by
 have hv':JR w y o n v=some v':=by
  simp only [oB] at hv;obtain ⟨u,h1,h2⟩:=hv;rw [h1,Y1 h2]
 refine Z6 (od:=none) (v:=.undef) (st':=st.upd lv ix (Blk.arr w ver (es.set i v'))) ?_ h;simp only [Zl,evalPO,ZI ha,ZI hx,ZBW,hs,oS,ZFr,hg,Xt,if_true,hy,hv',St.put_upd hw hg,ZDm]
theorem ZJn {st:St} {n:Nat} {a x:Opd} {lv ix ver i o w:Nat} {es:List AV} {v v' y:AV} (hA:A=st.A++[(st.ro,st.L)]) (ha:Zj e a=some (.ptr lv ix ver i o)) (hx:Zj e x=some v) (hw:st.wr lv) (hg:st.get lv ix=some (Blk.arr w ver es)) (hy:es[i]?=some y)
 (hs:Zd Qd (lv+1) ⟨A,false,L⟩ v=some (v,⟨A,false,L⟩)) (hv:(JR w y o n v).bind YN=some v')
 (h:∀ A',A'=(st.upd lv ix (Blk.arr w ver (es.set i v'))).A++[((st.upd lv ix (Blk.arr w ver (es.set i v'))).ro,(st.upd lv ix (Blk.arr w ver (es.set i v'))).L)]->Is O is keep k Q e ⟨A',false,L⟩):Is O (⟨none,none,false,.st n a x⟩::is) keep k Q e ⟨A,false,L⟩:=by
 have hl:=St.get_le hg;refine Znt ha hx (XI hA hl hw) (ZW hA hg) hy hs hv ?_;rw [Xe hA hl];exact h _ rfl
theorem ZhT {st:St} {agg:Bool} {len w:Nat} {x i:Opd} {a b v:AV} (hx:Zj e x=some a) (hi:Zj e i=some b) (hv:Zee agg len w b a=some v) (h:Is O is keep k Q ((d,v)::e) st):Is O (⟨some d,none,false,.ixArr agg len w x i⟩::is) keep k Q e st :=
 Z6 (v:=v) (st':=st) (by simp only [Zl,evalPO,ZI hx,ZI hi,hv,oS,Ql]) h
theorem Zki {st:St} {kk:Nat} {z:AV} {ok:Bool} {x i:Opd} {a b v:AV} (hx:Zj e x=some a) (hi:Zj e i=some b) (hv:lookV st kk z ok b a=some v) (h:Is O is keep k Q ((d,v)::e) st):Is O (⟨some d,none,false,.look kk z ok x i⟩::is) keep k Q e st :=
 Z6 (v:=v) (st':=st) (by simp only [Zl,evalPO,ZI hx,ZI hi,hv,oS,Ql]) h
theorem YP {st:St} {b:PC} (h:Ru O b (.seq (.loop b)::k) Q e st):Ru O (.loop b) k Q e st:=by
 obtain ⟨⟨x,e',st',h1,h2⟩⟩:=h
 cases x with
 | norm =>
  obtain ⟨x,e2,st2,h3,h4⟩:=h2
  exact ⟨⟨x,e2,st2,by rw [ZCs,ZEo,h1,oS,ZQh];exact h3,h4⟩⟩
 | ex id=>exact ⟨⟨.ex id,e',st',by rw [ZCs,ZEo,h1];rfl,h2⟩⟩
 | ret=>exact ⟨⟨.ret,e',st',by rw [ZCs,ZEo,h1];rfl,h2⟩⟩
def ZbF {α:Type}:List α->Option Nat
 | []=>some 0
 | _::l=>match ZbF l with
  | some n=>some (n+1)
  | none=>none
theorem ZAv {α:Type}:∀ {l:List α} {n:Nat},ZbF l=some n->l.length=n
 | [],n,h=>by simp only [ZbF,oJ] at h;subst h;rfl
 | a::l,n,h=>by
  simp only [ZbF] at h
  split at h
  ·rename_i m hm
   simp only [oJ] at h;subst h;rw [List.length_cons,ZAv hm]
  ·simp at h
theorem ZF9 {st:St} {x:Opd} {a:List AV} {n:Nat} (hx:Zj e x=some (.lit a)) (hn:ZbF a=some n) (h:Is O is keep k Q ((d,.int .i64 (n:Nat))::e) st):Is O (⟨some d,none,false,.len 1 x⟩::is) keep k Q e st :=
 Zex hx (by rw [ZAv hn];exact h)
theorem Znu {st:St} {x:Opd} {a:List UInt8} {n:Nat} (hx:Zj e x=some (.str a)) (hn:ZbF a=some n) (h:Is O is keep k Q ((d,.int .i64 (n:Nat))::e) st):Is O (⟨some d,none,false,.len 0 x⟩::is) keep k Q e st :=
 Qg hx (by rw [ZAv hn];exact h)
theorem Zy {x:Opd} {v v':AV} {w:Nat} (hx:Zj e x=some v) (hw:v.wide=some w) (hv:YN v=some v') (h:Is O is keep k Q ((d,.ptr A.length L.length 0 0 0)::e) ⟨A,false,L++[Blk.arr w 0 [v']]⟩):Is O (⟨some d,none,false,.box x⟩::is) keep k Q e ⟨A,false,L⟩:=by
 rw [<- Y1 hv] at h
 exact Z6 (v:=.ptr A.length L.length 0 0 0) (st':=⟨A,false,L++[Blk.arr w 0 [v]]⟩) (by simp only [Zl,evalPO,ZI hx,hw,oS,St.new_cur,Xl]) h
theorem Qf {agg:Bool} {n:Nat} {a:Opd} {ver i o w:Nat} {es:List AV} {x v:AV} (ha:Zj e a=some (.ptr A.length L.length ver i o)) (hx:es[i]?=some x) (hv:Jq x agg o n=some v)
 (h:Is O is keep k Q ((d,v)::e) ⟨A,false,L++[Blk.arr w ver es]⟩):Is O (⟨some d,none,false,.ld agg n a⟩::is) keep k Q e ⟨A,false,L++[Blk.arr w ver es]⟩ :=
 ZV (w:=w) ha (by rw [List.getElem?_append_right (Nat.le_refl _)];simp) hx hv h
theorem JE {n:Nat} {a x:Opd} {ver i o w:Nat} {es:List AV} {v v' y:AV} (ha:Zj e a=some (.ptr A.length L.length ver i o)) (hx:Zj e x=some v) (hy:es[i]?=some y)
 (hs:Zd Qd (A.length+1) ⟨A,false,L++[Blk.arr w ver es]⟩ v=some (v,⟨A,false,L++[Blk.arr w ver es]⟩)) (hv:(JR w y o n v).bind YN=some v') {es':List AV} (he:ZZ (es.set i v')=some es') (h:Is O is keep k Q e ⟨A,false,L++[Blk.arr w ver es']⟩):Is O (⟨none,none,false,.st n a x⟩::is) keep k Q e ⟨A,false,L++[Blk.arr w ver es]⟩:=by
 refine JD (w:=w) (es:=es) (y:=y) (by rw [List.getElem?_append_right (Nat.le_refl _)];simp) ha hx hy hs hv ?_
 rw [<- Ji he] at h;rw [List.set_append_right _ _ (Nat.le_refl _)]
 simpa using h
theorem ZXU {w bytes:Nat} {s x:Opd} {ix ver n:Nat} {es:List AV} {y:AV} (hs:Zj e s=some (.ref A.length ix ver 0 n)) (hx:Zj e x=some (.lit [y])) (hg:L[ix]?=some (Blk.arr w ver es)) (hb:n=es.length)
 (hl:es.length+1<4294967296) (hw:bytes<=4096) (hsm:y.wide=some w) (hm:Zd Qd (A.length+1) ⟨A,false,L⟩ y=some (y,⟨A,false,L⟩))
 (h:Is O is keep k Q ((d,.ref A.length ix (ver+1) 0 (n+1))::e) ⟨A,false,L.set ix (Blk.arr w (ver+1) (es++[y]))⟩):Is O (⟨some d,none,false,.app w bytes s x⟩::is) keep k Q e ⟨A,false,L⟩:=by
 have hlt:ix<L.length:=by
  rw [List.getElem?_eq_some_iff] at hg;exact hg.1
 subst hb;refine Z6 (v:=.ref A.length ix (ver+1) 0 (es.length+1)) (st':=⟨A,false,L.set ix (Blk.arr w (ver+1) (es++[y]))⟩) ?_ h
 have hm2:mapSt (Zd Qd (A.length+1)) ⟨A,false,L⟩ [y]=some ([y],⟨A,false,L⟩):=by simp only [mapSt,hm,oS,XQ]
 have hw2:JH w [y]=true:=by simp [JH,hsm]
 simp only [Zl,evalPO,ZI hs,ZI hx,elems,oS,Jd,if_pos hw2,hm2,Zea,St.get_cur,hg,vis,ZMq,true_and,List.length_singleton,if_pos (show 0+es.length<=es.length/\es.length+1<4294967296/\bytes<=4096 by omega),St.put,if_true,if_false,jB,if_pos hlt,List.drop_zero,List.take_length]
theorem Zt {st:St} {z:List AV} {ps:List (Nat × Nat × Opd)} {qs:List (Nat × Nat × AV)} {cs vs:List AV} (hq:ZOQ e ps=some qs) (hf:fillV z qs=some cs) (hv:ZZ cs=some vs) (h:Is O is keep k Q ((d,.agg vs)::e) st):Is O (⟨some d,none,false,.build z ps⟩::is) keep k Q e st :=
 Znp (ZOR hq) hf hv h
theorem JJ {st st':St} {w:Nat} {z:List AV} {ps:List (Nat × Opd)} {qs:List (Nat × AV)} {es:List AV} {v u:AV} (hq:ZF7 e ps=some qs) (hf:fillE w z qs=some es) (hb:ZbA false w st es=some (v,st')) (hv:fcV 3 v=some u) (h:Is O is keep k Q ((d,u)::e) st'):Is O (⟨some d,none,false,.bslice false w z ps⟩::is) keep k Q e st:=by
 rw [<- ZOP hv] at h;exact Ze0 (ZF8 hq) hf hb h
theorem Znv {w:Nat} {z:List AV} {ps:List (Nat × Opd)} {qs:List (Nat × AV)} {es es':List AV} (hq:ZF7 e ps=some qs) (hf:fillE w z qs=some es) (he:ZZ es=some es') (hL:YM (L++[Blk.arr w 0 es'])=some L') (h:Is O is keep k Q ((d,.ref A.length L.length 0 0 es'.length)::e) ⟨A,false,L'⟩):Is O (⟨some d,none,false,.bslice true w z ps⟩::is) keep k Q e ⟨A,false,L⟩ :=
 ZqU (ZF8 hq) hf he hL h
end
section
variable {O:Orc} {k:List Fr} {Q:JV} {e:Env} {A:List (Bool × List Blk)} {L L':List Blk} {keep:List Nat} {is:List PI} {d:Nat}
theorem ZqV {n:Nat} {a x:Opd} {ix ver i o w:Nat} {es:List AV} {v u v' y:AV} (hg:L[ix]?=some (Blk.arr w ver es)) (ha:Zj e a=some (.ptr A.length ix ver i o)) (hx:Zj e x=some v) (hy:es[i]?=some y)
 (hs:Zd Qd (A.length+1) ⟨A,false,L⟩ v=some (u,⟨A,false,L⟩)) (hv:(JR w y o n u).bind YN=some v') (h:Is O is keep k Q e ⟨A,false,L.set ix (Blk.arr w ver (es.set i v'))⟩):Is O (⟨none,none,false,.st n a x⟩::is) keep k Q e ⟨A,false,L⟩:=by
 have hlt:ix<L.length:=by
  rw [List.getElem?_eq_some_iff] at hg;exact hg.1
 have hv':JR w y o n u=some v':=by
  simp only [oB] at hv;obtain ⟨u,h1,h2⟩:=hv;rw [h1,Y1 h2]
 refine Z6 (od:=none) (v:=.undef) (st':=⟨A,false,L.set ix (Blk.arr w ver (es.set i v'))⟩) ?_ h;simp only [Zl,evalPO,ZI ha,ZI hx,ZBW,hs,oS,ZFr,St.get_cur,hg,vis,Xt,if_true,hy,hv',St.put,if_false,jB,if_pos hlt,ZDm]
theorem ZhU {n:Nat} {a x:Opd} {ix ver i o w:Nat} {es:List AV} {v' y:AV} (ha:Zj e a=some (.ptr A.length ix ver i o)) (hx:Zj e x=some .nils) (hg:L[ix]?=some (Blk.arr w ver es)) (hy:es[i]?=some y)
 (hv:(JR w y o n (.lit [])).bind YN=some v') (h:Is O is keep k Q e ⟨A,false,L.set ix (Blk.arr w ver (es.set i v'))⟩):Is O (⟨none,none,false,.st n a x⟩::is) keep k Q e ⟨A,false,L⟩ :=
 ZqV hg ha hx hy rfl hv h
end
end Go.QAbs
