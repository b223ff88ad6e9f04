/- A part of the proof. No condition. -/
import Derived.Orders
import Derived.OrdersIn
import Derived.RangeFuncIn
import Derived.LoopN
import Derived.LoopNIn
import Derived.Scope
import Derived.RangeFuncRecord
import Derived.Shelf.SlicesE.Clone
import Derived.Test.YtcdebbidfgmieaaGreatReT2
set_option linter.unusedVariables false
set_option linter.unusedSimpArgs false
namespace Go.QAbs
variable {u v v':AV}{agg ro:Bool}{B0:Bse}{cm:CM}{asg bd:Code}{e:Env}{fn:Func}{f g:FuncId}{a:Int}{A:List (Bool × List Blk)}{args cap cs es es' first vs ws z:LV}{L':List Blk}{xs:List Value}{i id ix k l n nt o s t ver w:Nat}{o':Obj}{c x:Opd}{body:PC}{p:Prop}{st st' st1:St}
section
variable {P:Program}{O:Orc}{W0:World}{B0:Bse}{st st':St}{ρ:Rho}{W:World}{e:Env}{a:Act}
theorem box_inv{own:Bool}{o:Oper}(h:Qt P own cm o=some (.box x)):(∃el z,o.op=.alloc el/\An P el=some z/\x=.v z)\/(∃el y,o.op=.box el y/\opd y=some x):=by
 cases hop:o.op with
 | alloc el =>
  left;simp only[Qt,hop]at h
  repeat' first
   | (exfalso;simp at h;done)
   | (exfalso;simp only[oB]at h;obtain⟨_,_,h⟩:=h;repeat' split at h<;>simp at h;done)
   | split at h
  all_goals
   simp only[oM,PO.box.injEq]at h;obtain⟨z,hz,rfl⟩:=h;exact⟨el,z,rfl,hz,rfl⟩
 | box el y =>
  right;simp only[Qt,hop]at h;split at h
  ·exfalso
   repeat' first
    | (simp at h;done)
    | split at h
    | (simp only[oB]at h;obtain⟨_,_,h⟩:=h)
  ·simp only[oM,PO.box.injEq]at h
   obtain⟨z,hz,rfl⟩:=h;exact⟨el,_,rfl,hz⟩
 | call c =>
  exfalso;simp only[Qt,hop]at h;split at h
  ·unfold XP at h
   repeat' split at h
   all_goals simp[oB,oM]at h
   all_goals (split at h<;>simp at h)
  ·simp[oB,oM]at h
  ·simp at h
 | makeMap t r=>exfalso;cases r<;>simp[Qt,hop]at h
 | slice t x lo hi mx =>
  exfalso;cases mx<;>simp only[Qt,hop]at h
  all_goals repeat' first
   | (exfalso;simp at h;done)
   | split at h
   | (simp only[oB]at h;obtain⟨_,_,h⟩:=h)
 | _ =>
  exfalso;simp only[Qt,hop]at h
  repeat' first
   | (exfalso;simp at h;done)
   | split at h
   | (simp only[oB]at h;obtain⟨_,_,h⟩:=h)
   | (simp only[oM]at h;obtain⟨_,_,h⟩:=h)
   | unfold BQ at h
theorem no_w{own:Bool}{o:Oper}{k:WK}{q:PO}(h:Qt P own cm o=some (.w k q)):False:=by
 cases hop:o.op with
 | call c =>
  simp only[Qt,hop]at h;split at h
  ·unfold XP at h
   repeat' split at h
   all_goals simp[oB,oM]at h
   all_goals (split at h<;>simp at h)
  ·simp[oB,oM]at h
  ·simp at h
 | makeMap t r=>cases r<;>simp[Qt,hop]at h
 | slice t x lo hi mx =>
  cases mx<;>simp only[Qt,hop]at h
  all_goals repeat' first
   | (exfalso;simp at h;done)
   | split at h
   | (simp only[oB]at h;obtain⟨_,_,h⟩:=h)
 | _ =>
  simp only[Qt,hop]at h
  repeat' first
   | (exfalso;simp at h;done)
   | split at h
   | (simp only[oB]at h;obtain⟨_,_,h⟩:=h)
   | (simp only[oM]at h;obtain⟨_,_,h⟩:=h)
   | unfold BQ at h
theorem bQ{own:Bool}{o:Oper}{bytes:Nat}{z:AV}{l:Opd}(h:Qt P own cm o=some (.mkslice w bytes z l c)):
 ∃t l' c' el i,o.op=.makeSlice t l' c'/\P.underlying t=some (.slice el)/\P.info? el=some i/\i.size≠0/\An P el=some z/\z.wide=some i.size/\opd l'=some l/\opd c'=some c/\i.size=w/\i.bytes=bytes:=by
 cases hop:o.op with
 | makeSlice t l' c' =>
  simp only[Qt,hop]at h;split at h
  ·rename_i el hu
   simp only[oB]at h;obtain⟨i,hi,h⟩:=h;split at h
   ·simp at h
   ·rename_i hw0
    simp only[oB]at h;obtain⟨z',hz,h⟩:=h;split at h
    ·rename_i hzw
     simp only[oB,oM,PO.mkslice.injEq]at h;obtain⟨l2,hl,c2,hc,rfl,rfl,rfl,rfl,rfl⟩:=h;exact⟨t,l',c',el,i,rfl,hu,hi,hw0,hz,hzw,hl,hc,rfl,rfl⟩
    ·simp at h
  ·simp at h
 | call c =>
  exfalso;simp only[Qt,hop]at h;split at h
  ·unfold XP at h
   repeat' split at h
   all_goals simp[oB,oM]at h
   all_goals (split at h<;>simp at h)
  ·simp[oB,oM]at h
  ·simp at h
 | makeMap t r=>exfalso;cases r<;>simp[Qt,hop]at h
 | slice t x lo hi mx =>
  exfalso;cases mx<;>simp only[Qt,hop]at h
  all_goals repeat' first
   | (exfalso;simp at h;done)
   | split at h
   | (simp only[oB]at h;obtain⟨_,_,h⟩:=h)
 | _ =>
  exfalso;simp only[Qt,hop]at h
  repeat' first
   | (exfalso;simp at h;done)
   | split at h
   | (simp only[oB]at h;obtain⟨_,_,h⟩:=h)
   | (simp only[oM]at h;obtain⟨_,_,h⟩:=h)
   | unfold BQ at h
theorem bR(hr:Rel W0 B0 st ρ W)(he:EnvR (cx st ρ W st.A.length) e a.tmps){o:Oper}{own:Bool}{po:PO}{j:Nat}(hc:Qt P own cm o=some po)
 (h:Zt e st po (.here j)=some (v,st')):Fin W0 B0 st ρ W ((execOp a.eval o).run P W) v st':=by
 obtain⟨⟨blk,mk⟩,k,hb,hro,him,hk,rfl,rfl⟩:=DD h;simp only at him ⊢;have hvis:vis (some blk)=some blk:=by
  cases blk<;>first|rfl|simp[C0]at him
 have hn:News st blk k { st with L:=st.L.set k blk }:=.of_fill hro (Yh hk) hvis;unfold newOf at hb;split at hb
 ·rename_i x
  simp only[oB,oJ,jP]at hb;obtain⟨w,hw,rfl,rfl⟩:=hb
  have boxN:∀ {s:Sem Value} {t:TypeId} {y:Value},R (cx st ρ W st.A.length) (x.get e) y->(∀r W',(newVar t y).run P W=.ok r W'->s.run P W=.ok (.pointer (some r)) W') ->
   (execOp a.eval o).run P W=(do pure (Next.value (<- s)):Sem Next).run P W->Fin W0 B0 st ρ W ((execOp a.eval o).run P W) (.ptr st.A.length k 0 0 0) { st with L:=st.L.set k (.arr w 0 [x.get e]) }:=by
   intro s t y hx hs hrun;obtain⟨ρ',W',e1,g,hv⟩:=KR (P:=P) (t:=t) hr hx hw hn;exact⟨_,_,_,_,by rw[hrun];exact Xs (hs _ _ e1),.inl Y,g,hv⟩
  rcases box_inv hc with⟨el,z,hop,hz,rfl⟩|⟨el,y,hop,hy⟩
  ·obtain⟨zv,hzr,hzc,_⟩:=D5 (W:=W) hz
   exact boxN (s:=Instr.alloc el true (.tuple #[])) (t:=el) (hzc _) (fun r W' hn=>by simp[Instr.alloc,hzr,hn]) (by simp[execOp,hop])
  ·exact boxN (s:=Instr.box el (a.eval y)) (t:=el) (Zl hy he) (fun r W' hn=>by simp[Instr.box,hn]) (by simp[execOp,hop])
 ·rename_i w bytes z l c
  simp only[oB,oJ,jP]at hb;obtain⟨⟨b,n⟩,hb,rfl,rfl⟩:=hb;obtain⟨t,l',c',el,i,hop,hu,hi,hw0,hz,hzw,hl,hc',rfl,rfl⟩:=bQ hc;obtain⟨x,ρ',W',hx,g,hv⟩:=PU (P:=P) hr hb hn (Zl hl he) (Zl hc' he) hu hi rfl rfl hw0 hz hzw;exact⟨_,_,_,_,by simp only[execOp,hop];exact Xs hx,.inl Y,g,hv⟩
 ·simp at hb
theorem bS(hr:Rel W0 B0 st ρ W)(he:EnvR (cx st ρ W st.A.length) e a.tmps){o:Oper}{own:Bool}{po:PO}{k:WK}(hc:Qt P own cm o=some po)
 (h:Zt e st po k=some (v,st')):Fin W0 B0 st ρ W ((execOp a.eval o).run P W) v st':=by
 have nc:∀ {po:PO} {r:AV × St},Qt P own cm o=some po->evalPO e st po=some r->Fin W0 B0 st ρ W ((execOp a.eval o).run P W) r.1 r.2:=by
  intro po r hc h;exact Po hr he hc (fun m f l q=>by subst q;simp[evalPO]at h) h
 cases k with
 | blind =>
  simp only[Zt]at h;split at h
  ·rename_i hrd
   simp only[oB,QF,oJ,jP]at h;obtain⟨⟨q1,q2⟩,hq,rfl,rfl⟩:=h;exact nc hc (Qm hrd (.blank st) hq).1
  ·simp at h
 | hide _ =>
  simp only[Zt]at h;split at h
  ·rename_i hrd
   simp only[oB,QF,oJ,jP]at h;obtain⟨⟨q1,q2⟩,hq,rfl,rfl⟩:=h;exact nc hc (Qm hrd (.hide _ st) hq).1
  ·simp at h
 | only b =>
  simp only[Zt]at h;split at h
  ·rename_i hrd
   simp only[oB,QF,oJ,jP]at h;obtain⟨⟨q1,q2⟩,hq,rfl,rfl⟩:=h;exact nc hc (Qm hrd (.hide _ st) hq).1
  ·simp at h
 | imm =>
  simp only[Zt]at h;unfold C1 at h;split at h
  ·rename_i w z ps
   simp only[oB,Ba]at h;obtain⟨es,hes,h⟩:=h;split at h
   ·rename_i hi
    simp only[oJ,jP]at h;obtain⟨rfl,rfl⟩:=h;refine nc (r:=(if es.isEmpty=true then .nils else .lit es,st)) hc ?_;simp only[evalPO,hes,oS,BZ,jB,if_false];by_cases he':es.isEmpty=true
    ·simp[he']
    ·rw[if_neg he',if_neg he']
     have:=XT (f:=ZI Zs 0) (st:=st) (es:=es) fun v hv=>EA (List.all_eq_true.1 hi v hv)
     rw[this];rfl
   ·simp at h
  ·simp at h
 | app0 =>
  simp only[Zt]at h;unfold Do at h;split at h
  ·split at h
   ·exact nc hc h
   ·simp at h
  ·simp at h
 | off b =>
  simp only[Zt]at h;unfold E_ at h;split at h
  ·split at h
   ·exact nc hc h
   ·simp at h
  ·simp at h
 | plain b =>
  simp only[Zt]at h;unfold Dp at h;split at h
  ·split at h
   ·exact nc hc h
   ·simp at h
  ·simp at h
 | here j=>exact bR hr he hc h
 | grow b =>
  simp only[Zt]at h;unfold Dq at h;split at h
  ·split at h
   ·exact nc hc h
   ·simp at h
  ·simp at h
end
end Go.QAbs
namespace Go.QAbs
open Go.RowKit (Below)
variable {u v v':AV}{agg ro:Bool}{B0:Bse}{cm:CM}{asg bd:Code}{e:Env}{fn:Func}{f g:FuncId}{a:Int}{A:List (Bool × List Blk)}{args cap cs es es' first vs ws z:LV}{L':List Blk}{xs:List Value}{i id ix k l n nt o s t ver w:Nat}{o':Obj}{c x:Opd}{body:PC}{p:Prop}{st st' st1:St}
section
variable {P:Program}{O:Orc}{W0:World}{B0:Bse}{st s:St}{ρ ρ2:Rho}{W W2:World}
theorem FS:∀ {n:Nat} {C D:Cx} {v:AV} {x:Value},imm n v=true->R C v x->(∀b o u,C.im b o u->D.im b o u)->R D v x
 | 0,C,D,v,x,h,_,_=>by simp[imm]at h
 | n+1,C,D,v,x,h,hR,hm=>by
  have hp:C.pure.le D.pure:=⟨hm,fun _ _ _ _ _ _ q=>q,fun _ _ _ _ _ _ q=>q,fun _ _ _ q=>q,fun _ _ _ q=>q⟩
  cases hR with
  | any=>exact .any _
  | undef=>exact .undef
  | bool b=>exact .bool b
  | int k n=>exact .int k n
  | str s=>exact .str s
  | nilptr=>exact .nilptr
  | lptr h1 h2=>exact .lptr (h1.mono hp) (h2.mono hm)
  | nils a=>simp[imm]at h
  | lit0 a c=>exact .lit0 a c
  | lit xs h1 h2 h3=>exact .lit xs (fun i e he=>(h1 i e he).mono hp) (fun i hi=>⟨(h2 i hi).1,(h2 i hi).2.mono hm⟩) h3
  | nilmap=>exact .nilmap
  | nilfunc=>exact .nilfunc
  | niliface=>exact .niliface
  | agg hl h1 =>
   simp only[imm,List.all_eq_true]at h;refine .agg hl fun i v x hv hx=>?_
   have h2:=h v (jM hv);have h3:=h1 i v x hv hx;cases v with
   | nils=>cases h3 with|nils a=>exact .nils a
   | _=>exact FS (by simpa [Al] using h2) h3 hm
  | tup hl h1 =>
   simp only[imm,List.all_eq_true]at h;exact .tup hl fun i v x hv hx=>FS (h v (jM hv)) (h1 i v x hv hx) hm
  | ptr _=>simp[imm]at h
  | ref _=>simp[imm]at h
  | map _=>simp[imm]at h
  | func _ _ _ _ _=>simp[imm]at h
  | yld _ _ _=>simp[imm]at h
  | iface _ _=>simp[imm]at h
theorem bT(hr:Rel W0 B0 s ρ2 W2)(he:Ev st.push ρ W s ρ2 W2){A':List (Bool × List Blk)}{r:Bool × List Blk}(hp:pop s.A=some (A',r))(hro:r.1=false){b:Nat}{es0:LV}
 (hL:s.L[ix]?=some (.arr w ver es0)) (hbn:b+n<=es0.length) (him:((es0.drop b).take n).all (imm 6)=true) {x:Value} (hx:(cx s ρ2 W2 s.A.length).ref s.A.length ix ver b n x) :
 ∃ρ4,Goes W0 B0 st ρ W ⟨A',r.1,r.2++[.arr w 0 ((es0.drop b).take n)]⟩ ρ4 W2/\(∀m,m<=st.A.length->(cx s ρ2 W2 m).le (cx ⟨A',r.1,r.2++[.arr w 0 ((es0.drop b).take n)]⟩ ρ4 W2 m)) /\
  R (cx ⟨A',r.1,r.2++[.arr w 0 ((es0.drop b).take n)]⟩ ρ4 W2 A'.length) (.ref A'.length r.2.length 0 0 n) x:=by
 have hA:=Gs hp;have hlen:A'.length=st.A.length:=by have:=he.len;rw[hA]at this;simp[St.push]at this;exact this
 have hsA:s.A.length=A'.length+1:=by rw[hA];simp
 have hst2:s=⟨A'++[(r.1,r.2)],s.ro,s.L⟩:=by rw[<- hA]
 have hget0:s.get s.A.length ix=some (.arr w ver es0):=by simp[St.get,hL,vis]
 have hold:∀lv' ix',lv'<=A'.length->s.get lv' ix'=St.get ⟨A',r.1,r.2⟩ lv' ix':=by
  intro lv' ix' h;rw[hst2,St.get_push,if_neg (by omega)]
 generalize hes:(es0.drop b).take n=es at *;have hesl:es.length=n:=by rw[<- hes];simp;omega
 let l0:=ρ2 s.A.length ix
 let ρ4:=upd ρ2 A'.length r.2.length ⟨l0.b,l0.o+b*w,l0.c-b⟩
 have hg0:St.get ⟨A',r.1,r.2++[.arr w 0 es]⟩ A'.length r.2.length=some (.arr w 0 es):=by simp[St.get,vis]
 have hg1:∀lv' ix',¬ (lv'=A'.length/\ix'=r.2.length)->St.get ⟨A',r.1,r.2++[.arr w 0 es]⟩ lv' ix'=St.get ⟨A',r.1,r.2⟩ lv' ix':=by
  intro lv' ix' hne;simp only[St.get];split
  ·rename_i h1
   by_cases h3:ix'<r.2.length
   ·rw[jL h3]
   ·have:¬ ix'=r.2.length:=fun he=>hne ⟨h1,he⟩
    rw[List.getElem?_eq_none (by simp;omega),List.getElem?_eq_none (by omega)]
  ·rfl
 have hnone:St.get ⟨A',r.1,r.2⟩ A'.length r.2.length=none:=by simp[St.get,vis]
 have hr4:∀lv' ix',¬ (lv'=A'.length/\ix'=r.2.length)->ρ4 lv' ix'=ρ2 lv' ix':=fun lv' ix' h=>Dz _ _ _ _ h
 have hr0:ρ4 A'.length r.2.length=⟨l0.b,l0.o+b*w,l0.c-b⟩:=upd_same _ _ _ _;have aok:=hr.arr _ _ _ _ _ hget0;have hclen:=aok.len;have hback:∀lv' ix' blk,St.get ⟨A',r.1,r.2++[.arr w 0 es]⟩ lv' ix'=some blk->¬ (lv'=A'.length/\ix'=r.2.length)->s.get lv' ix'=some blk/\lv'<=A'.length:=by
  intro lv' ix' blk h hne;have hl:=St.get_le h;rw[hg1 _ _ hne,<- hold _ _ hl]at h;exact⟨h,hl⟩
 have hfwd:∀lv' ix',lv'<=A'.length->(s.get lv' ix').isSome=true->¬ (lv'=A'.length/\ix'=r.2.length):=by
  rintro lv' ix' h1 h2 ⟨rfl,rfl⟩;rw[hold _ _ h1,hnone]at h2;simp at h2
 have heq:∀lv' ix',lv'<=A'.length->¬ (lv'=A'.length/\ix'=r.2.length)->St.get ⟨A',r.1,r.2++[.arr w 0 es]⟩ lv' ix'=s.get lv' ix':=by
  intro lv' ix' h1 h2;rw[hg1 _ _ h2,hold _ _ h1]
 have hmul:∀j,j<(l0.c-b)*w->b*w+j<l0.c*w:=by
  intro j hj;have:(l0.c-b)*w+b*w=l0.c*w:=by rw[<- Nat.add_mul];congr 1;show (ρ2 s.A.length ix).c-b+b=(ρ2 s.A.length ix).c;omega
  omega
 have hle:∀m,m<=A'.length->(cx s ρ2 W2 m).le (cx ⟨A',r.1,r.2++[.arr w 0 es]⟩ ρ4 W2 m):=by
  intro m hm;refine⟨?_,?_,?_,?_,fun _ _ _ q=>q⟩
  ·rintro b' o' v ⟨h1,h2⟩
   refine⟨h1,fun hmut=>h2 ?_⟩;obtain⟨lv',ix',w',ver',es',hg,hr1,hr2,hr3⟩:=hmut;by_cases hne:lv'=A'.length/\ix'=r.2.length
   ·obtain⟨rfl,rfl⟩:=hne
    rw[hg0]at hg;simp only[oJ,Blk.arr.injEq]at hg;obtain⟨rfl,_,_⟩:=hg;rw[hr0]at hr1 hr2 hr3;simp only at hr1 hr2 hr3;refine⟨s.A.length,ix,w,ver,es0,hget0,hr1,by show l0.o<=o';omega,?_⟩;have:=hmul (o'-(l0.o+b*w)) (by omega);show o'<l0.o+l0.c*w
    omega
   ·rw[hr4 _ _ hne]at hr1 hr2 hr3
    exact⟨lv',ix',w',ver',es',(hback _ _ _ hg hne).1,hr1,hr2,hr3⟩
  ·rintro lv' ix' ver' i o' v ⟨h1,h2,h3,h4,h5⟩
   have hne:=hfwd lv' ix' (by omega) h2;have e:=heq lv' ix' (by omega) hne;exact⟨h1,by rw[e];exact h2,h3,fun w u es hg=>h4 w u es (by rw[<- e];exact hg),fun w es hg=>by rw[hr4 _ _ hne];exact h5 w es (by rw[<- e];exact hg)⟩
  ·rintro lv' ix' ver' i o' v ⟨h1,h2,h3,a,c,h4,h5⟩
   have hne:=hfwd lv' ix' (by omega) h2;have e:=heq lv' ix' (by omega) hne;exact⟨h1,by rw[e];exact h2,fun w u es hg=>h3 w u es (by rw[<- e];exact hg),a,c,h4,fun w es hg=>by rw[hr4 _ _ hne];exact h5 w es (by rw[<- e];exact hg)⟩
  ·rintro lv' ix' v ⟨h1,h2,r',h3,h5⟩
   have hne:=hfwd lv' ix' (by omega) h2;have e:=heq lv' ix' (by omega) hne;exact⟨h1,by rw[e];exact h2,r',h3,fun es hg=>by rw[hr4 _ _ hne];exact h5 es (by rw[<- e];exact hg)⟩
 have hrel:Rel W0 B0 ⟨A',r.1,r.2++[.arr w 0 es]⟩ ρ4 W2:=by
  have selfNe:∀lv' ix',lv'<=A'.length->¬ (lv'=s.A.length/\ix'=ix):=by rintro lv' ix' h ⟨rfl,_⟩;omega
  refine⟨hr.below,hr.b0,hr.yl,?_,?_,?_,?_⟩
  ·intro lv' ix' w' ver' es' hg
   by_cases hne:lv'=A'.length/\ix'=r.2.length
   ·obtain⟨rfl,rfl⟩:=hne
    rw[hg0]at hg;simp only[oJ,Blk.arr.injEq]at hg;obtain⟨rfl,_,rfl⟩:=hg;rw[hr0];refine⟨by show es.length<=l0.c-b;have:es0.length<=l0.c:=hclen;omega,fun i e hi=>?_,fun j hj=>?_⟩
    ·have hi':=Zc hi
     rw[<- hes,List.getElem?_take]at hi;split at hi
     ·rw[List.getElem?_drop]at hi
      obtain⟨y,q1,q2,q3⟩:=aok.el _ _ hi;have himm:imm 6 e=true:=List.all_eq_true.1 him e (by rw[<- hes];rw[<- hes]at hi';exact jM (i:=i) (by rw[List.getElem?_take,if_pos (by omega),List.getElem?_drop];exact hi));refine⟨y,FS himm q1 ?_,q2,?_⟩
      ·exact (hle A'.length (Nat.le_refl _)).im
      ·show Lies _ l0.b (l0.o+b*w+i*w) y
       have e1:l0.o+b*w+i*w=l0.o+(b+i)*w:=by rw[Nat.add_mul];omega
       rw[e1];exact q3
     ·simp at hi
    ·have:=aok.mem (b*w+j) (hmul j hj)
     have e1:(ρ2 s.A.length ix).o+(b*w+j)=l0.o+b*w+j:=by show l0.o+(b*w+j)=_;omega
     rw[e1]at this;exact this
   ·obtain⟨h1,h2⟩:=hback _ _ _ hg hne
    obtain⟨a1,a2,a3⟩:=hr.arr _ _ _ _ _ h1;rw[hr4 _ _ hne];refine⟨a1,fun i e he=>?_,a3⟩;obtain⟨y,q1,q2⟩:=a2 i e he;exact⟨y,q1.mono (hle lv' h2),q2⟩
  ·intro lv1 ix1 w1 ver1 es1 lv2 ix2 w2 ver2 es2 hg1' hg2' hne12 j1 j2 hj1 hj2
   by_cases hn1:lv1=A'.length/\ix1=r.2.length
   ·obtain⟨rfl,rfl⟩:=hn1
    have hn2:¬ (lv2=A'.length/\ix2=r.2.length):=fun q=>hne12 ⟨q.1.symm,q.2.symm⟩
    obtain⟨k1,k2⟩:=hback _ _ _ hg2' hn2;rw[hg0]at hg1';simp only[oJ,Blk.arr.injEq]at hg1';obtain⟨rfl,_,_⟩:=hg1';rw[hr0]at hj1;rw[hr0,hr4 _ _ hn2];rw[hr4 _ _ hn2]at hj2;have:=hr.sep _ _ _ _ _ _ _ _ _ _ hget0 k1 (fun q=>selfNe _ _ k2 ⟨q.1.symm,q.2.symm⟩) (b*w+j1) j2 (hmul j1 hj1) hj2;rintro⟨p1,p2⟩;exact this ⟨p1,by simp only at p2;show l0.o+(b*w+j1)=_;omega⟩
   ·obtain⟨k1,k2⟩:=hback _ _ _ hg1' hn1
    by_cases hn2:lv2=A'.length/\ix2=r.2.length
    ·obtain⟨rfl,rfl⟩:=hn2
     rw[hg0]at hg2';simp only[oJ,Blk.arr.injEq]at hg2';obtain⟨rfl,_,_⟩:=hg2';rw[hr0]at hj2;rw[hr0,hr4 _ _ hn1];rw[hr4 _ _ hn1]at hj1;have:=hr.sep _ _ _ _ _ _ _ _ _ _ k1 hget0 (selfNe _ _ k2) j1 (b*w+j2) hj1 (hmul j2 hj2);rintro⟨p1,p2⟩;exact this ⟨p1,by simp only at p2;show _=l0.o+(b*w+j2);omega⟩
    ·obtain⟨m1,m2⟩:=hback _ _ _ hg2' hn2
     rw[hr4 _ _ hn1]at hj1;rw[hr4 _ _ hn2]at hj2;rw[hr4 _ _ hn1,hr4 _ _ hn2];exact hr.sep _ _ _ _ _ _ _ _ _ _ k1 m1 hne12 j1 j2 hj1 hj2
  ·intro lv' ix' es' hg
   have hne:¬ (lv'=A'.length/\ix'=r.2.length):=by rintro⟨rfl,rfl⟩;rw[hg0]at hg;simp at hg
   obtain⟨h1,h2⟩:=hback _ _ _ hg hne;obtain⟨m1,en,clock,m2,m3,m4⟩:=hr.map _ _ _ h1;rw[hr4 _ _ hne];refine⟨m1,en,clock,m2,m3,fun i k v hk=>?_⟩;obtain⟨n1,x,n2,n3,n4⟩:=m4 i k v hk;exact⟨n1,x,n2,n3.mono (hle _ h2),n4.mono (hle _ h2)⟩
  ·intro lv1 ix1 es1 lv2 ix2 es2 hg1' hg2' hne12
   have hn1:¬ (lv1=A'.length/\ix1=r.2.length):=by rintro⟨rfl,rfl⟩;rw[hg0]at hg1';simp at hg1'
   have hn2:¬ (lv2=A'.length/\ix2=r.2.length):=by rintro⟨rfl,rfl⟩;rw[hg0]at hg2';simp at hg2'
   rw[hr4 _ _ hn1,hr4 _ _ hn2];exact hr.msep _ _ _ _ _ _ (hback _ _ _ hg1' hn1).1 (hback _ _ _ hg2' hn2).1 hne12
 have hA0:st.push.A[st.A.length]?=some (st.ro,st.L):=by simp[St.push]
 obtain⟨r',h1,h2,h3⟩:=he.old _ _ hA0;have hr':r'=r:=by
  rw[hA,<- hlen]at h1;simpa using h1.symm
 subst hr';refine⟨ρ4,⟨hrel,hlen,?_,?_,h2,fun hro'=>?_,he.yl⟩,fun m hm=>hle m (by omega),?_⟩
 ·intro m hm
  exact ((Sub.push st).cx hm).trans ((he.le m (by simp[St.push];omega)).trans (hle m (by omega)))
 ·intro lv x hx
  have hlt:=Zc hx;have hx':st.push.A[lv]?=some x:=by simp only[St.push];rw[jL hlt];exact hx
  obtain⟨y,k1,k2,k3⟩:=he.old _ _ hx';refine⟨y,?_,k2,k3⟩;rw[hA,jL (by omega)]at k1;exact k1
 ·have h2':r'.1=st.ro:=h2
  rw[hro]at h2';rw[<- h2']at hro';simp at hro'
 ·obtain⟨p1,p2,p3,a,c,rfl,p4⟩:=hx
  obtain⟨q1,q2,q3⟩:=p4 w es0 hget0;refine .ref ⟨Nat.le_refl _,by rw[hg0];rfl,fun w' u es' hg=>Nat.zero_le _,a,c,rfl,fun w' es' hg=>?_⟩;rw[hg0]at hg;simp only[oJ,Blk.arr.injEq]at hg;obtain⟨rfl,_,rfl⟩:=hg;rw[hr0];refine⟨by omega,by show c+0=l0.c-b;have:c+b=l0.c:=q2;omega,fun hlt=>?_⟩;have:=q3 (by have:c+b=l0.c:=q2;have:0<l0.c-b:=hlt;show b<l0.c;omega);rw[this];simp only[oJ]
  congr 1
  show l0.o+b*w=l0.o+b*w+0*w
  omega
theorem Rg(hr:Rel W0 B0 s ρ2 W2)(he:Ev st.push ρ W s ρ2 W2){r:AV × St}(h:Ay s v=some r){x:Value}(hx:R (cx s ρ2 W2 s.A.length) v x):
 ∃ρ4,Goes W0 B0 st ρ W r.2 ρ4 W2/\(∀m,m<=st.A.length->(cx s ρ2 W2 m).le (cx r.2 ρ4 W2 m))/\R (cx r.2 ρ4 W2 r.2.A.length) r.1 x:=by
 cases v with
 | ref lv ix ver b n =>
  simp only[Ay]at h;split at h
  ·rename_i hl
   subst hl;unfold GX at h;split at h
   ·rename_i w ver' es hL
    split at h
    ·rename_i hv
     subst hv;simp only[oB]at h;obtain⟨⟨A',rr⟩,hp,h⟩:=h;unfold GW at h;split at h
     ·simp at h
     ·rename_i hc
      simp only[oJ]at h;subst h;simp only[not_or,Bool.not_eq_true,Bool.not_eq_false]at hc;cases hx with
      | ref hx=>exact bT hr he hp hc.1 hL (by omega) hc.2.2 hx
    ·simp at h
   ·simp at h
  ·simp at h
 | nils =>
  simp only[Ay,Je,oB,Ar,oJ]at h;obtain⟨⟨A',rr⟩,hp,rfl⟩:=h;obtain⟨g,hle⟩:=C9 hr he hp;have hA:=Gs hp;have hlen:A'.length=st.A.length:=g.ev.len;refine⟨ρ2,g,fun m hm=>?_,?_⟩
  ·have hsub : Sub st.A.length s ⟨A', rr.1, rr.2⟩ := by
    refine⟨fun lv ix hlv=>?_,fun lv ix b hg=>by have:=St.get_le hg;simp only[hlen]at this;exact this⟩;have hst2:s=⟨A'++[(rr.1,rr.2)],s.ro,s.L⟩:=by rw[<- hA]
    rw[hst2,St.get_push,if_neg (by omega)]
   exact hsub.cx hm
  ·cases hx with
   | nils a=>exact .nils a
 | _=>simp[Ay]at h
theorem bU(hr:Rel W0 B0 s ρ2 W2)(he:Ev st.push ρ W s ρ2 W2){r:AV × St}(h:Bb (v,s)=some r){x:Value}(hx:R (cx s ρ2 W2 s.A.length) v x):
 ∃ρ4,Goes W0 B0 st ρ W r.2 ρ4 W2/\R (cx r.2 ρ4 W2 r.2.A.length) r.1 x:=by
 unfold Bb at h;split at h
 ·rename_i v0 vs hv
  simp only at hv;subst hv;split at h
  ·rename_i hc
   simp only[oB,GY,oJ]at h;obtain⟨q,hq,rfl⟩:=h;cases hx with
   | @tup _ _ xs hl h1 =>
    obtain⟨y,ys,rfl,q1,q2⟩:=RL.cons_inv (C:=cx s ρ2 W2 s.A.length) (v:=v0) (vs:=vs) (ys:=xs) ⟨hl,h1⟩;obtain⟨ρ4,g,hle,hv⟩:=Rg hr he hq q1;refine⟨ρ4,g,R.tup' (.cons hv ⟨q2.1,fun i u z hu hz=>?_⟩)⟩;have himm:=List.all_eq_true.1 hc u (jM hu);exact FS himm (q2.2 i u z hu hz) (hle 0 (Nat.zero_le _)).im
  ·simp at h
 ·obtain⟨ρ4,g,_,hv⟩:=Rg hr he h hx
  exact⟨ρ4,g,hv⟩
end
def fen(ro:Option Nat):Fence:={ Fence.wide with round:=ro }
def Rh(P:Program)(l:Nat)(xs:Array Value)(W:World)(R:Ending->World->Prop):Prop :=
 ∃fn tmps assign body,(Instr.yield l xs).run P W=.ok (.round l fn tmps assign body) W/\RoundIn .wide 0 P l fn tmps assign body W R
def CallsY(P:Program)(B0:Bse)(f:FuncId)(xs:List Value)(W:World)(R:Ending->World->Prop):Prop :=
 (f<yB->Calls P f xs.toArray W R)/\∀lv ys,f=yB+lv->xs=ys++(B0.y lv).2->Rh P (B0.y lv).1 ys.toArray W R
theorem CallsY.mono{P:Program}{W:World}{R R':Ending->World->Prop}(h:CallsY P B0 f xs W R)(hr:∀e w',R e w'->R' e w'):CallsY P B0 f xs W R':=by
 refine⟨fun hf=>(h.1 hf).mono hr,fun lv ys hl hx=>?_⟩;obtain⟨fn,tmps,assign,body,h1,h2⟩:=h.2 lv ys hl hx;exact⟨fn,tmps,assign,body,h1,h2.mono hr⟩
structure OSound(P:Program)(K:World->Bse->Prop)(O:Orc):Prop where
 frame:FrO O
 enter:∀ {f:FuncId} {args:LV} {st:St} {r:AV × St},f<yB->O f args st=some r->∀(xs:Array Value) (W:World),(callFunc f xs).run P W=.ok (.enter f xs) W
 calls:∀ {f:FuncId} {args:LV} {st:St} {v:AV} {st':St},O f args st=some (v,st')->∀ {W0:World} {B0:Bse} {ρ:Rho} {W:World} {xs:List Value},K W0 B0->Rel W0 B0 st ρ W->RL (cx st ρ W st.A.length) args xs ->
  CallsY P B0 f xs W fun e W'=>∃x ρ',e=.returned x/\Goes W0 B0 st ρ W st' ρ' W'/\R (cx st' ρ' W' st'.A.length) v x
section
variable {P:Program}{KW:World->Bse->Prop}{O:Orc}{W0:World}{B0:Bse}{st st':St}{ρ:Rho}{W:World}{e:Env}{a:Act}
theorem bV{C:Cx}{x:Value}(h:R C v x):R C (weak v) x:=by
 unfold weak;split
 ·cases h;exact .lit0 _ _
 ·exact h
theorem HC{C:Cx}:∀ {vs:LV} {xs:List Value},RL C vs xs->RL C (ZS vs) xs
 | [],xs,h=>h
 | v::vs,xs,h=>by
  obtain⟨x,ys,rfl,h1,h2⟩:=h.cons_inv;exact .cons (bV h1) (HC h2)
theorem Ri(hO:OSound P KW O)(hKW:KW W0 B0)(h:Q5 O .inner f args st=some (v,st'))(hr:Rel W0 B0 st ρ W)(hx:RL (cx st ρ W st.A.length) args xs):
 (f<yB->∀(ys:Array Value) (W:World),(callFunc f ys).run P W=.ok (.enter f ys) W) /\
  CallsY P B0 f xs W fun e W'=>∃x ρ',e=.returned x/\Goes W0 B0 st ρ W st' ρ' W'/\R (cx st' ρ' W' st'.A.length) v x:=by
 simp only[Q5,oB,Dr,AY,Je,Ar,oJ,jP]at h;obtain⟨⟨v0,st1⟩,h0,⟨v1,st2⟩,hseal,⟨A',r0⟩,hpop,rfl,rfl⟩:=h;simp only at hseal hpop;have hpl:st.push.A.length=st.A.length+1:=by simp[St.push]
 have hpush:=Sub.push st;refine⟨fun hf=>hO.enter hf h0,(hO.calls h0 hKW (hpush.rel hr) ((hx.mono (hpush.cx (Nat.le_refl _))).mono (Bd (by omega)))).mono ?_⟩;rintro e' W' ⟨x,ρ',rfl,g,hv⟩;have hl1:st1.A.length=st.A.length+1:=by rw[g.ev.len,hpl]
 obtain⟨g2,hv2⟩:=X8 Zs st1.A.length st1 v0 x v1 st2 g.rel (by omega) hv hseal;obtain⟨g3,hle⟩:=C9 g2.rel (g.ev.trans g2.ev) hpop;refine⟨x,ρ',rfl,g3,?_⟩;rw[hl1]at hv2;have hl3:(⟨A',r0.1,r0.2⟩:St).A.length=st.A.length:=g3.ev.len;rw[hl3];exact R.mono (show R (cx st2 ρ' W' st.A.length) v1 x from hv2) hle
theorem Rj(hO:OSound P KW O)(hKW:KW W0 B0){m:CM}(h:Q5 O m f args st=some (v,st'))(hr:Rel W0 B0 st ρ W)(hx:RL (cx st ρ W st.A.length) args xs):
 (f<yB->∀(ys:Array Value) (W:World),(callFunc f ys).run P W=.ok (.enter f ys) W) /\
  CallsY P B0 f xs W fun e W'=>∃x ρ',e=.returned x/\Goes W0 B0 st ρ W st' ρ' W'/\R (cx st' ρ' W' st'.A.length) v x:=by
 cases m with
 | norm=>exact⟨fun hf=>hO.enter hf h,hO.calls h hKW hr hx⟩
 | own =>
  simp only[Q5,oB,CO]at h;obtain⟨⟨v0,st2⟩,h0,h⟩:=h;split at h
  ·simp only[oJ,jP]at h
   obtain⟨rfl,rfl⟩:=h;have hs:Sub st.A.length st { st with ro:=true }:=Sub.same (s:=st) (t:={ st with ro:=true }) (fun lv ix=>rfl);refine⟨fun hf=>hO.enter hf h0,(hO.calls h0 hKW (hs.rel hr) hx).mono ?_⟩;rintro e' W' ⟨x,ρ',rfl,g,hv⟩;obtain⟨g',hle⟩:=Wc (st:=st) g.rel g.ev;have hL:st2.L=st.L:=g.ev.cur rfl;have he:(⟨st2.A,st.ro,st.L⟩:St)={ st2 with ro:=st.ro }:=by rw[<- hL]
   rw[he];exact⟨x,ρ',rfl,g',hv.mono (hle _)⟩
  ·simp at h
 | pure =>
  simp only[Q5,oB,QF,oJ,jP]at h;obtain⟨⟨v0,st2⟩,h0,h1,rfl⟩:=h;simp only at h1;subst h1;have hl1:st.allRo.A.length=st.A.length:=by simp[St.allRo]
  have hcx:∀m,cx st.allRo ρ W m=cx st ρ W m:=by
   intro m;unfold cx Mut;simp only[Jl]
  have hs:Sub st.A.length st st.allRo:=by
   have:=Sub.same (s:=st) (t:=st.allRo) (Jl st);rw[hl1]at this;exact this
  refine⟨fun hf=>hO.enter hf h0,(hO.calls h0 hKW (hs.rel hr) (by rw[hl1,hcx];exact hx)).mono ?_⟩;rintro e' W' ⟨x,ρ',rfl,g,hv⟩;obtain⟨g',hle⟩:=O2 (st:=st) g.rel g.ev;have hl2:st2.A.length=st.A.length:=by rw[g.ev.len,hl1]
  rw[hl2]at hv;exact⟨x,ρ',rfl,g',hv.mono (hle _ (Nat.le_refl _))⟩
 | inner=>exact Ri hO hKW h hr hx
 | move =>
  simp only[Q5,oB]at h;obtain⟨⟨v0,st1⟩,h0,h⟩:=h;have hpl:st.push.A.length=st.A.length+1:=by simp[St.push]
  have hpush:=Sub.push st;refine⟨fun hf=>hO.enter hf h0,(hO.calls h0 hKW (hpush.rel hr) ((hx.mono (hpush.cx (Nat.le_refl _))).mono (Bd (by omega)))).mono ?_⟩;rintro e' W' ⟨x,ρ',rfl,g,hv⟩;obtain⟨ρ4,g4,hv4⟩:=bU g.rel g.ev h hv;exact⟨x,ρ4,rfl,g4,hv4⟩
 | pin =>
  have h':(Q5 O .inner f args st.allRo).bind (QF st)=some (v,st'):=h;clear h;simp only[oB,QF,oJ,jP]at h';obtain⟨⟨v0,st2⟩,h0,h1,rfl⟩:=h';simp only at h1;subst h1;have hl1:st.allRo.A.length=st.A.length:=by simp[St.allRo]
  have hcx:∀m,cx st.allRo ρ W m=cx st ρ W m:=by
   intro m;unfold cx Mut;simp only[Jl]
  have hs:Sub st.A.length st st.allRo:=by
   have:=Sub.same (s:=st) (t:=st.allRo) (Jl st);rw[hl1]at this;exact this
  obtain⟨e1,e2⟩:=Ri hO hKW h0 (hs.rel hr) (by rw[hl1,hcx];exact hx);refine⟨e1,e2.mono ?_⟩;rintro e' W' ⟨x,ρ',rfl,g,hv⟩;obtain⟨g',hle⟩:=O2 (st:=st) g.rel g.ev;have hl2:st2.A.length=st.A.length:=by rw[g.ev.len,hl1]
  rw[hl2]at hv;exact⟨x,ρ',rfl,g',hv.mono (hle _ (Nat.le_refl _))⟩
theorem Rl{o:Oper}{c:Call}{f:Operand}(hop:o.op=.call c)(hf:c.callee=.value f){ys:List Value}(hv:a.eval f=.func (.func g) xs.toArray ys.toArray)
 (hrun:∀(zs:Array Value) (W:World),(callFunc g zs).run P W=.ok (.enter g zs) W):(execOp a.eval o).run P W=.ok (.enter g (xs++c.args.toList.map a.eval++ys).toArray) W:=by
 have e1:(c.args.map a.eval)=(c.args.toList.map a.eval).toArray:=by rw[<- Array.toList_map,Array.toArray_toList]
 simp only[execOp,hop,resolve,hf,hv,Deferred.ofValue,invoke,Sem.run_bind,Sem.run_pure,Result.andThen_ok,hrun,e1];simp
theorem bW{o:Oper}{c:Call}{f:Operand}(hop:o.op=.call c)(hf:c.callee=.value f)(hv:a.eval f=.func (.yield l) #[] #[]):
 (execOp a.eval o).run P W=(Instr.yield l (c.args.toList.map a.eval).toArray).run P W:=by
 have e1:(c.args.map a.eval)=(c.args.toList.map a.eval).toArray:=by rw[<- Array.toList_map,Array.toArray_toList]
 simp only[execOp,hop,resolve,hf,hv,Deferred.ofValue,invoke,Sem.run_bind,Sem.run_pure,Result.andThen_ok,e1];simp
theorem bX{C:Cx}{d:Option Nat}{x:Value}(he:EnvR C e a.tmps)(hv:R C v x)(hd:I_ nt d=true)(hs:nt<=a.tmps.size):EnvR C (AJ e d v) (a.put d x).tmps:=by
 intro t;cases d with
 | none=>exact he t
 | some d =>
  simp only[I_,decide_eq_true_eq]at hd;simp only[AJ,look,Act.put];split
  ·rename_i h;subst h
   have:(a.tmps.setIfInBounds d x).getD d Go.undef=x:=by
    simp[Array.getElem?_setIfInBounds];rw[if_pos (by omega)];rfl
   rw[this];exact hv
  ·rename_i h
   have:(a.tmps.setIfInBounds d x).getD t Go.undef=a.tmps.getD t Go.undef:=by
    simp[Array.getElem?_setIfInBounds_ne h]
   rw[this];exact he t
theorem put_size{d:Option Nat}{x:Value}:(a.put d x).tmps.size=a.tmps.size/\(a.put d x).defers=a.defers:=by
 cases d with
 | none=>exact⟨rfl,rfl⟩
 | some d=>exact⟨by simp[Act.put],rfl⟩
theorem bY{ops:Array Oper}{o:Oper}{g:Option (Nat × Bool)}(hg:Gg ops o.guard=some g){C:Cx}(he:EnvR C e a.tmps){b:Bool}(hb:wantedV e g=some b):Region.wanted o (yielded ops a.tmps)=b:=by
 unfold Region.wanted;cases hgo:o.guard with
 | none =>
  rw[hgo]at hg;simp only[Gg,oJ]at hg;subst hg;simp only[wantedV,oJ]at hb;exact hb
 | some q =>
  obtain⟨j,want⟩:=q;rw[hgo]at hg;simp only[Gg,oM]at hg;obtain⟨t,ht,rfl⟩:=hg;simp only[wantedV]at hb;have het:=he t;unfold C2 at hb;unfold yielded;simp only[ht,oS];have hgd:a.tmps.getD t Go.undef=(a.tmps[t]?).getD Go.undef:=by simp
  rw[hgd]at het;split at hb
  ·rename_i b' hb'
   rw[hb']at het;simp only[oJ]at hb;subst hb;have:=J1 het;cases hx:a.tmps[t]? with
   | none=>rw[hx]at this;simp[Go.undef]at this
   | some x=>rw[hx]at this;simp only[Option.getD_some]at this;subst this;rfl
  ·rename_i hb'
   rw[hb']at het;simp only[oJ]at hb;subst hb;cases hx:a.tmps[t]? with
   | none=>rfl
   | some x =>
    rw[hx]at het;simp only[Option.getD_some]at het;cases het;rfl
  ·simp at hb
theorem Rm{own:Bool}{m:CM}{o:Oper}{f:Opd}{l:List Opd}(h:Qt P own cm o=some (.call m f l)):∃c fo,o.op=.call c/\c.callee=.value fo/\opd fo=some f/\CS c.args.toList=some l:=by
 cases hop:o.op with
 | call c =>
  simp only[Qt,hop]at h;split at h
  ·exfalso
   unfold XP at h;repeat' split at h
   all_goals simp[oB,oM]at h
   all_goals (split at h<;>simp at h)
  ·rename_i fo hfo
   simp only[oB,oM]at h;obtain⟨f',hf,l',hl,h⟩:=h;simp only[PO.call.injEq]at h;obtain⟨_,rfl,rfl⟩:=h;exact⟨c,fo,rfl,hfo,hf,hl⟩
  ·simp at h
 | makeMap t r=>exfalso;cases r<;>simp[Qt,hop]at h
 | slice t x lo hi mx =>
  exfalso;cases mx<;>simp only[Qt,hop]at h
  all_goals repeat' first
   | (exfalso;simp at h;done)
   | split at h
   | (simp only[oB]at h;obtain⟨_,_,h⟩:=h)
 | _ =>
  exfalso;simp only[Qt,hop]at h
  repeat' first
   | (exfalso;simp at h;done)
   | split at h
   | (simp only[oB]at h;obtain⟨_,_,h⟩:=h)
   | (simp only[oM]at h;obtain⟨_,_,h⟩:=h)
   | unfold BQ at h
theorem wkOf_cases(o:PO)(i:Nat):∀l:List (Nat × WK),Dt l i o=o\/∃k,Dt l i o=.w k o
 | []=>.inl rfl
 | (j,k)::l=>by
  simp only[Dt];split
  ·exact .inr ⟨k,rfl⟩
  ·exact wkOf_cases o i l
theorem Rn{ro:Option Nat}(hO:OSound P KW O)(hKW:KW W0 B0){ops:Array Oper}{h:Hint}{o:Oper}{p:PI}(ho:ops[i]?=some o)(hc:C6 P nt ops h i o=some p){Q:Exit->Act->World->Prop}{K:Act->World->Prop}
 (hr:Rel W0 B0 st ρ W) (he:EnvR (cx st ρ W st.A.length) e a.tmps) (hs:nt<=a.tmps.size) {v:AV} (hv:XN O p e st=some (v,st'))
 (hK:∀a' ρ' W',Goes W0 B0 st ρ W st' ρ' W'->EnvR (cx st' ρ' W' st'.A.length) (AJ e p.dst v) a'.tmps->a'.tmps.size=a.tmps.size->a'.defers=a.defers->K a' W'):wpOpIn (fen ro) 0 P ops Q i K a W:=by
 unfold C6 at hc;split at hc
 case isFalse=>simp at hc
 rename_i hd;simp only[oB,oM]at hc;obtain⟨po0,hpo,g,hg,rfl⟩:=hc;generalize hpe:Dt h.wk i po0=po at *;simp only[XN,oB]at hv;obtain⟨b,hb,hv⟩:=hv;have hw:=bY hg he hb;unfold wpOpIn;simp only[ho,hw];have putK:∀x ρ' W',Goes W0 B0 st ρ W st' ρ' W'->R (cx st' ρ' W' st'.A.length) v x->K (a.put o.dst x) W':=by
  intro x ρ' W' gs hx;have hlen:=gs.ev.len;exact hK _ ρ' W' gs (bX (he.mono (by rw[hlen];exact gs.ev.le _ (Nat.le_refl _))) hx hd hs) put_size.1 put_size.2
 cases b with
 | false =>
  simp only[BF,oJ,jP]at hv;obtain⟨rfl,rfl⟩:=hv;simp only[jB,if_false];exact⟨fun _ _=>trivial,putK _ ρ W (.refl hr) .undef⟩
 | true =>
  simp only[if_true];have hnd:∀c,o.op≠.defer c:=by
   intro c hop;simp only[Qt,hop]at hpo;simp at hpo
  simp only[BF]at hv;have fin:Fin W0 B0 st ρ W ((execOp a.eval o).run P W) v st'->o.wpIn (fen ro) 0 P a W K Q:=by
   rintro⟨nx,x,ρ',W',hrun,hnx,gs,hx⟩;refine⟨fun _ _=>trivial,?_⟩;rw[Oper.semAt_eq _ _ _ hnd,hrun];rcases hnx with rfl|⟨rfl,rfl⟩
   ·exact putK x ρ' W' gs hx
   ·exact putK _ ρ' W' gs hx
  rcases wkOf_cases po0 i h.wk with hw0|⟨kk,hw0⟩
  case inr =>
   rw[hpe]at hw0;subst hw0;unfold Ql at hv;simp only[PO.reads,jB,if_false]at hv;split at hv
   ·simp at hv
   ·exact fin (bS hr he hpo hv)
  rw[hpe]at hw0;subst hw0;have plain:(∀m f l,po≠.call m f l)->evalPO e st po=some (v,st')->o.wpIn (fen ro) 0 P a W K Q:=fun hn hev=>fin (Po hr he hpo hn hev)
  unfold Ql at hv;simp only at hv;split at hv
  ·split at hv
   ·rename_i hrd
    simp only[oB,QF,oJ,jP]at hv;obtain⟨⟨v0,s0⟩,h0,h1,rfl⟩:=hv;simp only at h1;subst h1;exact plain (fun m f l q=>by rw[q]at hrd;simp[PO.reads]at hrd) (Qm hrd (.mask st) h0).1
   ·simp at hv
  ·by_cases hcall:∃m f l,po=.call m f l
   ·obtain⟨m,f,l,rfl⟩:=hcall
    simp only[ZW]at hv;unfold AZ at hv;split at hv
    ·rename_i g' first cap hfe
     obtain⟨c,fo,hop,hcal,hfo,hl⟩:∃c fo,o.op=.call c/\c.callee=.value fo/\opd fo=some f/\CS c.args.toList=some l:=Rm hpo;have hfv:=Zl hfo he;rw[hfe]at hfv;generalize hu:a.eval fo=u at hfv;cases hfv with
     | @func _ _ hn _ _ xs ys hf hc rf rc =>
      have hargs:RL (cx st ρ W st.A.length) (first++Xh e l++cap) (xs++c.args.toList.map a.eval++ys):=(RL.append ⟨hf,rf⟩ (Gt hl he)).append ⟨hc,rc⟩;obtain⟨h1,h2⟩:=Rj hO hKW hv hr (HC hargs);have hg':g'<yB:=of_decide_eq_true hn;refine⟨fun _ _=>trivial,?_⟩;rw[Oper.semAt_eq _ _ _ hnd,Rl hop hcal hu (h1 hg')];refine⟨fun h=>absurd h (by simp[fen,Fence.wide]),?_⟩;refine (callsIn_wide (n:=0)).2 ((h2.1 hg').mono ?_);rintro e' W' ⟨x,ρ',rfl,gs,hx⟩;exact putK x ρ' W' gs hx
    ·rename_i l' cs hfe
     obtain⟨c,fo,hop,hcal,hfo,hl⟩:∃c fo,o.op=.call c/\c.callee=.value fo/\opd fo=some f/\CS c.args.toList=some l:=Rm hpo;have hfv:=Zl hfo he;rw[hfe]at hfv;generalize hu:a.eval fo=u at hfv;cases hfv with
     | func _ hn=>simp[Cy]at hn
     | @yld _ _ ll tm _ hy hl2 rc =>
      obtain⟨h1,h2⟩:=Rj hO hKW hv hr (HC ((Gt hl he).append ⟨hl2,rc⟩));have hyl:B0.y l'=(ll,tm):=by rw[<- hr.yl];exact hy.2
      obtain⟨fn,tmps,assign,body,h3,h4⟩:=h2.2 l' (c.args.toList.map a.eval) rfl (by rw[hyl]);rw[hyl]at h3 h4;refine⟨fun _ _=>trivial,?_⟩;rw[Oper.semAt_eq _ _ _ hnd,bW hop hcal hu,h3];refine⟨fun h=>absurd h (by simp[fen,Fence.wide]),?_⟩;refine RoundIn.mono (F:=.wide) h4 ?_;rintro e' W' ⟨x,ρ',rfl,gs,hx⟩;exact putK x ρ' W' gs hx
    ·simp at hv
   ·refine plain (fun m f l q=>hcall ⟨m,f,l,q⟩) ?_
    rw[<- hv];have hnw:∀k q,po≠.w k q:=fun k q hq=>by rw[hq]at hpo;exact no_w hpo
    cases hpp:po with
    | call m f l=>exact absurd ⟨m,f,l,hpp⟩ hcall
    | w k q=>exact absurd hpp (hnw k q)
    | _=>rfl
end
section
variable {P:Program}{KW:World->Bse->Prop}{ro:Option Nat}{O:Orc}{W0:World}{B0:Bse}{st st':St}{ρ:Rho}{W:World}{e:Env}{a:Act}{ops:Array Oper}{nt:Nat}{h:Hint}
theorem Rp:∀ {os:List Oper} {k:Nat} {is:List PI},Du P nt ops h k os=some is->is.length=os.length/\∀(j:Nat) (o:Oper),os[j]?=some o->∃p,is[j]?=some p/\C6 P nt ops h (k+j) o=some p
 | [],k,is,hc=>by simp only[Du,oJ]at hc;subst hc;exact⟨rfl,by simp⟩
 | o::os,k,is,hc=>by
  simp only[Du,oB,oM]at hc;obtain⟨p,hp,ps,hps,rfl⟩:=hc;obtain⟨h1,h2⟩:=Rp hps;refine⟨by simp[h1],fun j o' hj=>?_⟩;cases j with
  | zero=>simp only[List.getElem?_cons_zero,oJ]at hj;subst hj;exact⟨p,rfl,hp⟩
  | succ j =>
   simp only[List.getElem?_cons_succ]at hj ⊢;obtain⟨q,hq,hc⟩:=h2 j o' hj;exact⟨q,hq,by rw[show k+(j+1)=k+1+j by omega];exact hc⟩
def Ki(W0:World)(B0:Bse)(st:St)(ρ:Rho)(W:World)(a:Act)(r:Env × St)(Q:Exit->Act->World->Prop):Prop :=
 ∀a' ρ' W',Goes W0 B0 st ρ W r.2 ρ' W'->EnvR (cx r.2 ρ' W' r.2.A.length) r.1 a'.tmps->a'.tmps.size=a.tmps.size->a'.defers=a.defers->Q .normal a' W'
def bZ(P:Program)(nt:Nat)(ops:Array Oper)(h:Hint)(q:Nat × PI):Prop:=∃o,ops[q.1]?=some o/\C6 P nt ops h q.1 o=some q.2
theorem Rq(hO:OSound P KW O)(hKW:KW W0 B0){Q:Exit->Act->World->Prop}{r:Env × St}:∀(l:List (Nat × PI)) (e:Env) (st:St) (ρ:Rho) (W:World) (a:Act),(∀q∈l,bZ P nt ops h q)->JA O (l.map (·.2)) e st=some r ->
 Rel W0 B0 st ρ W->EnvR (cx st ρ W st.A.length) e a.tmps->nt<=a.tmps.size->Ki W0 B0 st ρ W a r Q->wpOpsIn (fen ro) 0 P ops Q (l.map (·.1)) a W
 | [],e,st,ρ,W,a,_,hr,hrel,he,_,hQ=>by
  simp only[List.map_nil,JA,oJ]at hr;subst hr;exact hQ a ρ W (.refl hrel) he Y Y
 | q::l,e,st,ρ,W,a,hk,hr,hrel,he,hs,hQ=>by
  simp only[jC]at hr ⊢;rw[CW,oB]at hr;obtain⟨⟨v,st1⟩,hv,hr⟩:=hr;obtain⟨o,ho,hc⟩:=hk q (by simp);rw[wpOpsIn_cons];refine Rn hO hKW ho hc hrel he hs hv fun a' ρ' W' g he' hs' hd'=>?_
  exact Rq hO hKW l _ _ ρ' W' a' (fun x hx=>hk x (by simp[hx])) hr g.rel he' (by omega) fun a'' ρ'' W'' g' h1 h2 h3=>hQ a'' ρ'' W'' (g.trans g') h1 (h2.trans hs') (h3.trans hd')
def Rr(ops:Array Oper)(S:Nat->Prop):Prop:=∀(j:Nat) (o:Oper),ops[j]?=some o->S j->∀x∈Y4 o,S x
theorem Kj{S:Nat->Prop}{ms:List Nat}{k:Nat}(hms:∀j,j<k->S j->∀i,(ms.getD j 0).testBit i=true->S i):
 ∀ {es:List Nat},(∀x∈es,S x/\x<k)->∀i,(CR ms es).testBit i=true->S i
 | [],_,i,hi=>by simp[CR]at hi
 | x::es,hx,i,hi=>by
  simp only[CR,Nat.testBit_or,Bool.or_eq_true]at hi;obtain⟨h1,h2⟩:=hx x (by simp);rcases hi with hi|hi|hi
  ·rw[Nat.testBit_two_pow]at hi
   simp only[decide_eq_true_eq]at hi;subst hi;exact h1
  ·exact hms x h2 h1 i hi
  ·exact Kj hms (fun y hy=>hx y (by simp[hy])) i hi
theorem apartAll_ok{m:Nat}{p:PI}:∀ {xs:List PI} {k:Nat},Gd m p k xs=true->∀i x,xs[i]?=some x->m.testBit (k+i)=true\/CQ x p=true
 | [],k,_,i,x,hx=>by simp at hx
 | y::xs,k,hh,i,x,hx=>by
  simp only[Gd,Bool.and_eq_true,Bool.or_eq_true]at hh;cases i with
  | zero=>simp only[List.getElem?_cons_zero,oJ]at hx;subst hx;exact hh.1
  | succ i =>
   simp only[List.getElem?_cons_succ]at hx;have:=apartAll_ok hh.2 i x hx;rw[show k+(i+1)=k+1+i by omega];exact this
theorem Rs{S:Nat->Prop}(hS:Rr ops S):∀ {os:List Oper} {ps prev:List PI} {k:Nat} {ms:List Nat},Ge k ms prev os ps=true->(∀j,os[j]?=ops[k+j]?)->ms.length=k->prev.length=k ->
 (∀j,j<k->S j->∀i,(ms.getD j 0).testBit i=true->S i)->∀(j:Nat) (o:Oper) (p:PI),os[j]?=some o->ps[j]?=some p ->
  (∀x∈Y4 o,x<k+j)/\((∀x∈Y4 o,S x)->∀i x,i<k+j->(prev++ps)[i]?=some x->¬ S i->CQ x p=true)
 | [],ps,prev,k,ms,_,_,_,_,_,j,o,p,ho,_=>by simp at ho
 | o0::os,[],prev,k,ms,_,_,_,_,_,j,o,p,_,hp=>by simp at hp
 | o0::os,p0::ps,prev,k,ms,hd,hops,hl,hl',hms,j,o,p,ho,hp=>by
  simp only[Ge,Bool.and_eq_true]at hd;obtain⟨h1,h2,h3⟩:=hd;have hlt:∀x∈Y4 o0,x<k:=fun x hx=>by have:=List.all_eq_true.1 h1 x hx;simpa using this
  cases j with
  | zero =>
   simp only[List.getElem?_cons_zero,oJ]at ho hp;subst ho;subst hp;refine⟨fun x hx=>by have:=hlt x hx;omega,fun hSe i x hi hx hn=>?_⟩;have hi':i<prev.length:=by omega
   rw[jL hi']at hx;rcases apartAll_ok h2 i x hx with hb|hb
   ·rw[Nat.zero_add]at hb
    exact absurd (Kj hms (fun y hy=>⟨hSe y hy,hlt y hy⟩) i hb) hn
   ·exact hb
  | succ j =>
   simp only[List.getElem?_cons_succ]at ho hp;have:=Rs hS (os:=os) (ps:=ps) h3 (fun j=>by have:=hops (j+1);simp only[List.getElem?_cons_succ]at this;rw[this];congr 1;omega) (by simp[hl]) (by simp[hl']) ?_ j o p ho hp
   ·rw[show k+(j+1)=k+1+j by omega]
    refine⟨this.1,fun hSe i x hi hx hn=>this.2 hSe i x hi ?_ hn⟩;simpa using hx
   ·intro j' hj' hSj i hi
    by_cases hjk:j'<k
    ·refine hms j' hjk hSj i ?_
     rw[<- hi];simp[List.getD_eq_getElem?_getD,jL (show j'<ms.length by omega)]
    ·have:j'=k:=by omega
     subst this;have h0:ops[j']?=some o0:=by have:=hops 0;simpa using this.symm
     have hm:(ms++[CR ms (Y4 o0)]).getD j' 0=CR ms (Y4 o0):=by
      simp[List.getD_eq_getElem?_getD,<- hl]
     rw[hm]at hi;exact Kj hms (fun y hy=>⟨hS j' o0 h0 hSj y hy,hlt y hy⟩) i hi
theorem mem_edges{o:Oper}{x:Nat}:x∈Y4 o↔∃y∈o.after,Region.binds .any y=true/\y.on=x:=by
 simp only[Y4,List.mem_map,List.mem_filter,Array.mem_toList_iff];constructor
 ·rintro⟨y,⟨h1,h2⟩,h3⟩;exact⟨y,h1,h2,h3⟩
 ·rintro⟨y,h1,h2,h3⟩;exact⟨y,⟨h1,h2⟩,h3⟩
theorem ba(hO:OSound P KW O)(hKW:KW W0 B0){Q:Exit->Act->World->Prop}{is:List PI}(hdraw:Ot ops.toList is=true)(hlen:is.length=ops.size)(hcomp:∀(j:Nat) (o:Oper),ops[j]?=some o->∃p,is[j]?=some p/\C6 P nt ops h j o=some p):
 ∀(fuel:Nat) (listed:Array Bool) (zs:List (Nat × PI)) (r:Env × St) (e:Env) (st:St) (ρ:Rho) (W:World) (a:Act),
  listed.size=ops.size->Rr ops (fun i=>listed.getD i false=true)->(∀q∈zs,is[q.1]?=some q.2)->zs.Pairwise (fun x y=>x.1<y.1) ->
  (∀i,i<ops.size->(listed.getD i false=false↔∃p,(i,p)∈zs))->zs.length=fuel->JA O (zs.map (·.2)) e st=some r ->
  Rel W0 B0 st ρ W->EnvR (cx st ρ W st.A.length) e a.tmps->nt<=a.tmps.size->Ki W0 B0 st ρ W a r Q->wpAnyIn (fen ro) 0 P .any ops Q fuel listed a W:=by
 intro fuel;have getDs:∀(l:Array Bool) (i:Nat),l.size=ops.size->i<ops.size->l.getD i true=l.getD i false:=by
  intro l i hl hi;simp[Array.getElem?_eq_getElem (show i<l.size by omega)]
 induction fuel with
 | zero =>
  intro listed zs r e st ρ W a hls hcl hzs hpw hrem hfl hr hrel he hs hQ;have hz:zs=[]:=List.length_eq_zero_iff.1 hfl;subst hz;simp only[List.map_nil,JA,oJ]at hr;subst hr;refine⟨?_,hQ a ρ W (.refl hrel) he Y Y⟩;rw[List.eq_nil_iff_forall_not_mem];intro j hj;obtain⟨h1,o,ho,_⟩:=mem_ready.1 hj;have hlt:=Zz ho;rw[getDs _ _ hls hlt]at h1;obtain⟨p,hp⟩:=(hrem j hlt).1 h1;simp at hp
 | succ fuel ih =>
  intro listed zs r e st ρ W a hls hcl hzs hpw hrem hfl hr hrel he hs hQ;have hdr:∀(j:Nat) (o:Oper) (p:PI),ops[j]?=some o->is[j]?=some p->(∀x∈Y4 o,x<j)/\((∀x∈Y4 o,listed.getD x false=true)->∀i x,i<j->is[i]?=some x->¬ listed.getD i false=true->CQ x p=true):=by
   intro j o p ho hp;have:=Rs hcl (os:=ops.toList) (ps:=is) (prev:=[]) (k:=0) (ms:=[]) hdraw (by simp) rfl rfl (by simp) j o p (by simpa using ho) hp;simpa using this
  refine⟨fun hnil=>?_,fun i hi=>?_⟩
  ·exfalso
   cases zs with
   | nil=>simp at hfl
   | cons q zs =>
    have hq:=hzs q (by simp);have hlt:q.1<ops.size:=by rw[<- hlen];exact Zc hq
    have ho:ops[q.1]?=some ops[q.1]:=Array.getElem?_eq_getElem hlt;have hed:=(hdr q.1 _ q.2 ho hq).1;have hin:q.1∈Region.ready .any ops listed:=by
     refine mem_ready.2 ⟨?_,_,ho,fun y hy hb=>?_⟩
     ·rw[getDs _ _ hls hlt]
      exact (hrem q.1 hlt).2 ⟨q.2,by simp⟩
     ·have hlt':=hed y.on (mem_edges.2 ⟨y,hy,hb,rfl⟩)
      cases hl:listed.getD y.on false with
      | true=>rfl
      | false =>
       obtain⟨p,hp⟩:=(hrem y.on (by omega)).1 hl;rcases List.mem_cons.1 hp with hp|hp
       ·have:y.on=q.1:=by rw[<- hp]
        omega
       ·have:=(List.pairwise_cons.1 hpw).1 _ hp
        simp only at this;omega
    rw[hnil]at hin;simp at hin
  ·obtain⟨h1,o,ho,hall⟩:=mem_ready.1 hi
   have hlt:=Zz ho;have h1':=h1;rw[getDs _ _ hls hlt]at h1';obtain⟨p,hp⟩:=(hrem i hlt).1 h1';obtain⟨pre,post,rfl⟩:=List.append_of_mem hp;have hip:=hzs (i,p) hp;simp only at hip;have hSe:∀x∈Y4 o,listed.getD x false=true:=fun x hx=>by
    obtain⟨y,hy,hb,rfl⟩:=mem_edges.1 hx;exact hall y hy hb
   have hcom:∀x∈pre.map (·.2),CQ x p=true:=by
    intro x hx;obtain⟨q,hq,rfl⟩:=List.mem_map.1 hx;have hqi:q.1<i:=(List.pairwise_append.1 hpw).2.2 q hq (i,p) (by simp);refine (hdr i o p ho hip).2 hSe q.1 q.2 hqi (hzs q (by simp[hq])) ?_;have:=(hrem q.1 (by omega)).2 ⟨q.2,by simp[hq]⟩;rw[this];simp
   simp only[List.map_append,jC]at hr;obtain⟨r',hr',hE,hst⟩:=Rf hO.frame hcom hr;rw[CW,oB]at hr';obtain⟨⟨v,st1⟩,hv,hr'⟩:=hr';obtain⟨p',hp',hc⟩:=hcomp i o ho;rw[hip]at hp';simp only[oJ]at hp';subst hp';refine Rn hO hKW ho hc hrel he hs hv fun a' ρ' W' g he' hs' hd'=>?_
   have hpw':(pre++post).Pairwise (fun x y=>x.1<y.1):=hpw.sublist (by simp);have hne:∀q∈pre++post,q.1≠i:=by
    intro q hq;rcases List.mem_append.1 hq with hq|hq
    ·have:=(List.pairwise_append.1 hpw).2.2 q hq (i,p) (by simp)
     simp only at this;omega
    ·have:=(List.pairwise_cons.1 (List.pairwise_append.1 hpw).2.1).1 q hq
     simp only at this;omega
   refine ih (listed.setIfInBounds i true) (pre++post) r' _ _ ρ' W' a' (by simp[hls]) ?_ (fun q hq=>hzs q ?_) hpw' ?_ (by simp at hfl ⊢;omega) (by simpa using hr') g.rel he' (by omega) ?_
   ·intro j oj hj hSj x hx
    by_cases hji:i=j
    ·subst hji
     rw[ho]at hj;simp only[oJ]at hj;subst hj;exact getD_set_true (hSe x hx)
    ·have hSj':(listed.setIfInBounds i true).getD j false=true:=hSj
     rw[getD_set_ne false hji]at hSj';exact getD_set_true (hcl j oj hj hSj' x hx)
   ·rcases List.mem_append.1 hq with hq|hq<;>simp[hq]
   ·intro j hj
    by_cases hji:i=j
    ·subst hji
     constructor
     ·intro hf
      have:(listed.setIfInBounds i true).getD i false=true:=by
       simp[hls,hlt]
      rw[this]at hf;simp at hf
     ·rintro⟨q,hq⟩
      exact absurd Y (hne _ hq)
    ·rw[getD_set_ne false hji,hrem j hj]
     constructor
     ·rintro⟨q,hq⟩
      refine⟨q,?_⟩;rcases List.mem_append.1 hq with hq|hq
      ·simp[hq]
      ·rcases List.mem_cons.1 hq with hq|hq
       ·exact absurd (by rw[jP]at hq;exact hq.1.symm) hji
       ·simp[hq]
     ·rintro⟨q,hq⟩
      refine⟨q,?_⟩;rcases List.mem_append.1 hq with hq|hq<;>simp[hq]
   ·intro a'' ρ'' W'' g' h1 h2 h3
    rw[hst]at g' h1;exact hQ a'' ρ'' W'' (g.trans g') (fun t=>by rw[hE t];exact h1 t) (h2.trans hs') (h3.trans hd')
theorem Rv(hO:OSound P KW O)(hKW:KW W0 B0)(hm:P.follows .mixedOrders=true){Q:Exit->Act->World->Prop}{draw:Bool}{is:List PI}(hc:(Du P nt ops h 0 ops.toList).bind (J_ draw ops.toList)=some is){r:Env × St}
 (hr:JA O is e st=some r) (hrel:Rel W0 B0 st ρ W) (he:EnvR (cx st ρ W st.A.length) e a.tmps) (hs:nt<=a.tmps.size) (hQ:Ki W0 B0 st ρ W a r Q):(Code.region id ops draw).wpIn (fen ro) 0 P Q a W:=by
 simp only[oB]at hc;obtain⟨is',hc,hd⟩:=hc;obtain⟨hl,hg⟩:=Rp hc;have hl':is'.length=ops.size:=by rw[hl];simp
 have hcomp:∀(j:Nat) (o:Oper),ops[j]?=some o->∃p,is'[j]?=some p/\C6 P nt ops h j o=some p:=fun j o ho=>by
  have:=hg j o (by simpa using ho);simpa using this
 have hz:∀q∈(List.range ops.size).zip is',is'[q.1]?=some q.2:=by
  intro q hq;obtain⟨i,hi⟩:=List.getElem?_of_mem hq;rw[List.getElem?_zip_eq_some]at hi;obtain⟨h1,h2⟩:=hi;rw[List.getElem?_range (by rw[<- hl'];exact Zc h2)]at h1;simp only[oJ]at h1;rw[<- h1];exact h2
 have h1:((List.range ops.size).zip is').map (·.1)=List.range ops.size:=List.map_fst_zip (by simp[hl']);have h2:((List.range ops.size).zip is').map (·.2)=is':=List.map_snd_zip (by simp[hl']);unfold J_ at hd;split at hd
 ·rename_i hdraw
  split at hd
  ·rename_i hok
   simp only[oJ]at hd;subst hd;subst hdraw;refine wpIn_region_any hm ?_;have gd:Goes W0 B0 st ρ W st ρ W.drew:=Goes.drew hrel;refine ba (W0:=W0) (B0:=B0) hO hKW hok hl' hcomp ops.size (Array.replicate ops.size false) ((List.range ops.size).zip is') r e st ρ W.drew a (by simp) ?_ hz ?_ ?_ (by simp[hl']) (by rw[h2];exact hr) gd.rel (he.mono (gd.ev.le _ (Nat.le_refl _))) hs ?_
   ·intro j o ho hS x hx
    exfalso;have hS':(Array.replicate ops.size false).getD j false=true:=hS;by_cases hj:j<ops.size<;>simp[hj]at hS'
   ·have hp:(List.range ops.size).Pairwise (·<·):=List.pairwise_lt_range
    rw[<- h1,List.pairwise_map]at hp;exact hp
   ·intro i hi
    constructor
    ·intro _
     have hi':i<is'.length:=by omega
     refine⟨is'[i],?_⟩;rw[List.mem_iff_getElem?];exact⟨i,by rw[List.getElem?_zip_eq_some];exact⟨by rw[List.getElem?_range hi],jE hi'⟩⟩
    ·intro _;simp[hi]
   ·intro a' ρ' W' g q1 q2 q3
    exact hQ a' ρ' W' (gd.trans g) q1 q2 q3
  ·simp at hd
 ·rename_i hdraw
  simp only[oJ]at hd;subst hd;have:draw=false:=by simpa using hdraw
  subst this;refine wpIn_region ?_;have:=Rq (ro:=ro) hO hKW (ops:=ops) (nt:=nt) (h:=h) (Q:=Q) (r:=r) ((List.range ops.size).zip is') e st ρ W a (fun q hq=>?_) (by rw[h2];exact hr) hrel he hs hQ
  ·rw[h1]at this;exact this
  ·have hq':=hz q hq
   have hlt:q.1<ops.size:=by rw[<- hl'];exact Zc hq'
   obtain⟨p,hp,hc⟩:=hcomp q.1 _ (Array.getElem?_eq_getElem hlt);rw[hq']at hp;simp only[oJ]at hp;subst hp;exact⟨_,Array.getElem?_eq_getElem hlt,hc⟩
end
def Ex.exit:Ex->Exit
 | .norm=>.normal
 | .ex id=>.exit id
 | .ret=>.ret
section
variable {P:Program}{KW:World->Bse->Prop}{ro:Option Nat}{O:Orc}{W0:World}{B0:Bse}{st st':St}{ρ:Rho}{W:World}{e:Env}{a:Act}{nt:Nat}
def CodeEnd(W0:World)(B0:Bse)(st:St)(ρ:Rho)(W:World)(a:Act)(r:Ex × Env × St)(Q:Exit->Act->World->Prop):Prop :=
 ∀a' ρ' W',Goes W0 B0 st ρ W r.2.2 ρ' W'->EnvR (cx r.2.2 ρ' W' r.2.2.A.length) r.2.1 a'.tmps->a'.tmps.size=a.tmps.size->a'.defers=a.defers->Q r.1.exit a' W'
theorem CodeEnd.after{ρ1:Rho}{W1:World}{a1:Act}{r:Ex × Env × St}{Q:Exit->Act->World->Prop}(h:CodeEnd W0 B0 st ρ W a r Q)(g:Goes W0 B0 st ρ W st1 ρ1 W1)(hs:a1.tmps.size=a.tmps.size)(hd:a1.defers=a.defers):
 CodeEnd W0 B0 st1 ρ1 W1 a1 r Q:=fun a' ρ' W' g' h1 h2 h3=>h a' ρ' W' (g.trans g') h1 (h2.trans hs) (h3.trans hd)
theorem keepEnv_look(t:Nat):∀(ks:List Nat) (e:Env),look (BC ks e) t=look e t\/look (BC ks e) t=.any
 | [],e=>.inr rfl
 | k::ks,e=>by
  simp only[BC,look];split
  ·rename_i h;subst h;exact .inl Y
  ·exact keepEnv_look t ks e
theorem EnvR.keep{C:Cx}{tmps:Array Value}(h:EnvR C e tmps)(ks:List Nat):EnvR C (BC ks e) tmps:=by
 intro t;rcases keepEnv_look t ks e with q|q
 ·rw[q];exact h t
 ·rw[q];exact .any _
def CodeOk(ro:Option Nat)(P:Program)(O:Orc)(nt:Nat)(W0:World)(B0:Bse)(c:Code)(F:Run):Prop :=
 ∀(e:Env) (st:St) (ρ:Rho) (W:World) (a:Act) (r:Ex × Env × St) (Q:Exit->Act->World->Prop),F e st=some r->Rel W0 B0 st ρ W->EnvR (cx st ρ W st.A.length) e a.tmps->nt<=a.tmps.size->CodeEnd W0 B0 st ρ W a r Q->c.wpIn (fen ro) 0 P Q a W
theorem Rw{c:Code}{F:Run}(hF:CodeOk ro P O nt W0 B0 c F):∀(n:Nat) (e:Env) (st:St) (ρ:Rho) (W:World) (a:Act) (r:Ex × Env × St) (Q:Exit->Act->World->Prop),AC F n e st=some r->Rel W0 B0 st ρ W ->
 EnvR (cx st ρ W st.A.length) e a.tmps->nt<=a.tmps.size->CodeEnd W0 B0 st ρ W a r Q->Code.roundsIn (fen ro) 0 P c Q n a W
 | 0,e,st,ρ,W,a,r,Q,h,_,_,_,_=>by simp[AC]at h
 | n+1,e,st,ρ,W,a,r,Q,h,hr,he,hs,hQ=>by
  simp only[AC,oB]at h;obtain⟨⟨x,e1,st1⟩,h1,h2⟩:=h;rw[roundsIn_succ];refine hF e st ρ W a (x,e1,st1) _ h1 hr he hs ?_;intro a' ρ' W' g he' hs' hd';cases x with
  | norm=>exact Rw hF n e1 st1 ρ' W' a' r Q h2 g.rel he' (by omega) (hQ.after g hs' hd')
  | ex id=>simp only[JB,oJ]at h2;subst h2;exact hQ a' ρ' W' g he' hs' hd'
  | ret=>simp only[JB,oJ]at h2;subst h2;exact hQ a' ρ' W' g he' hs' hd'
theorem EE{P:Program}{b:Frame}{a:Act}{k:List Item}{cs:List Frame}{w:World}{c:Code}:step P (lone (b.atR a (.code (.scope c)::k)) cs w)=.next (lone (b.atR a (.code c::.inScope c::k)) cs w) :=
 step_lone_go (by simp[stepG,stepG.exec,Frame.atR])
theorem bc{P:Program}{b:Frame}{a:Act}{k:List Item}{cs:List Frame}{w:World}{c:Code}:step P (lone (b.atR a (.inScope c::k)) cs w)=.next (lone (b.atR a k) cs w) :=
 step_lone_go (by simp[stepG,stepG.exec,Frame.atR])
theorem Ry{F:Fence}{P:Program}{Q:Exit->Act->World->Prop}{a:Act}{w:World}{c:Code}(h:c.wpIn F n P (Exit.noGoto Q) a w):(Code.scope c).wpIn F n P Q a w:=by
 intro b k cs hro hb hr;have h0:(lone (b.atR a (.code (.scope c)::k)) cs w).fenced P F:=fenced_calm hb hr rfl;obtain⟨e,a₁,w₁,hq,harr⟩:=h b (.inScope c::k) cs hro hb hr;cases e with
 | normal=>exact⟨.normal,a₁,w₁,hq,.head h0 EE (StepsIn.trans harr (.one (fenced_calm hb hr Y) bc))⟩
 | exit id =>
  have hx:exitTo id (.inScope c::k)=exitTo id k:=by simp[exitTo]
  exact⟨.exit id,a₁,w₁,hq,fun k' hk=>.head h0 EE (harr.1 k' (by rw[hx];exact hk)),
   fun hr' hk=>let ⟨k₁,h1,h2⟩:=harr.2 hr' (by rw[hx];exact hk);⟨k₁,h1,.head h0 EE h2⟩⟩
 | goto l=>exact hq.elim
 | ret=>exact⟨_,a₁,w₁,hq,.of_steps (.one h0 EE) ⟨harr.1,harr.2⟩⟩
 | panic ch=>exact⟨_,a₁,w₁,hq,.of_steps (.one h0 EE) harr⟩
 | outgrown=>exact⟨_,a₁,w₁,hq,.of_steps (.one h0 EE) harr⟩
theorem exec_ok(hO:OSound P KW O)(hKW:KW W0 B0)(hm:P.follows .mixedOrders=true)(n:Nat):∀(c:Code) (hs hs':List Hint) (pc:PC),YA P nt hs c=some (pc,hs')->CodeOk ro P O nt W0 B0 c (exec O (fun F=>AC F n) pc):=by
 intro c;induction c with
 | skip =>
  intro hs hs' pc hc e st ρ W a r Q h hr he hsz hQ;cases hs<;>simp only[YA,oJ,jP]at hc<;>obtain⟨rfl,_⟩:=hc<;>simp only[exec,oJ]at h<;>subst h<;>exact wpIn_skip (hQ a ρ W (.refl hr) he Y Y)
 | ret =>
  intro hs hs' pc hc e st ρ W a r Q h hr he hsz hQ;cases hs<;>simp only[YA,oJ,jP]at hc<;>obtain⟨rfl,_⟩:=hc<;>simp only[exec,oJ]at h<;>subst h<;>exact wpIn_ret (hQ a ρ W (.refl hr) he Y Y)
 | exit id =>
  intro hs hs' pc hc e st ρ W a r Q h hr he hsz hQ;cases hs<;>simp only[YA,oJ,jP]at hc<;>obtain⟨rfl,_⟩:=hc<;>simp only[exec,oJ]at h<;>subst h<;>exact wpIn_exit (hQ a ρ W (.refl hr) he Y Y)
 | seq x y ihx ihy =>
  intro hs hs' pc hc e st ρ W a r Q h hr he hsz hQ;have hc':(YA P nt hs x).bind (fun r=>(YA P nt r.2 y).map fun q=>(PC.seq r.1 q.1,q.2))=some (pc,hs'):=by cases hs<;>exact hc
  simp only[oB,oM,jP]at hc';obtain⟨⟨p1,h1⟩,hx,⟨p2,h2⟩,hy,rfl,rfl⟩:=hc';simp only[exec,oB]at h;obtain⟨⟨xx,e1,st1⟩,hx1,hx2⟩:=h;refine wpIn_seq (ihx hs h1 p1 hx e st ρ W a (xx,e1,st1) _ hx1 hr he hsz ?_);intro a' ρ' W' g he' hs' hd';cases xx with
  | norm=>exact ihy h1 h2 p2 hy e1 st1 ρ' W' a' r Q hx2 g.rel he' (by omega) (hQ.after g hs' hd')
  | ex id=>simp only[JB,oJ]at hx2;subst hx2;exact hQ a' ρ' W' g he' hs' hd'
  | ret=>simp only[JB,oJ]at hx2;subst hx2;exact hQ a' ρ' W' g he' hs' hd'
 | cond c x y ihx ihy =>
  intro hs hs' pc hc e st ρ W a r Q h hr he hsz hQ;have hc':(opd c).bind (fun c=>(YA P nt hs x).bind fun r=>(YA P nt r.2 y).map fun q=>(PC.ite c r.1 q.1,q.2))=some (pc,hs'):=by cases hs<;>exact hc
  simp only[oB,oM,jP]at hc';obtain⟨co,hco,⟨p1,h1⟩,hx,⟨p2,h2⟩,hy,rfl,rfl⟩:=hc';simp only[exec]at h;have hcv:=Zl hco he;unfold CP at h;split at h
  ·rename_i hb
   rw[hb]at hcv;exact wpIn_cond_true (J1 hcv) (ihx hs h1 p1 hx e st ρ W a r Q h hr he hsz hQ)
  ·rename_i hb
   rw[hb]at hcv;exact wpIn_cond_false (J1 hcv) (ihy h1 h2 p2 hy e st ρ W a r Q h hr he hsz hQ)
  ·simp at h
 | block id x ih =>
  intro hs hs' pc hc e st ρ W a r Q h hr he hsz hQ;have hc':(YA P nt hs x).map (fun r=>(PC.block id r.1,r.2))=some (pc,hs'):=by cases hs<;>exact hc
  simp only[oM,jP]at hc';obtain⟨⟨p1,h1⟩,hx,rfl,rfl⟩:=hc';simp only[exec,oB]at h;obtain⟨⟨xx,e1,st1⟩,hx1,hx2⟩:=h;refine wpIn_block (ih hs h1 p1 hx e st ρ W a (xx,e1,st1) _ hx1 hr he hsz ?_);intro a' ρ' W' g he' hs' hd';cases xx with
  | norm=>simp only[BO,oJ]at hx2;subst hx2;exact hQ a' ρ' W' g he' hs' hd'
  | ex id' =>
   simp only[BO]at hx2;simp only[Ex.exit,Exit.inBlock];split at hx2
   ·rename_i hid
    rw[if_pos hid];simp only[oJ]at hx2;subst hx2;exact hQ a' ρ' W' g he' hs' hd'
   ·rename_i hid
    rw[if_neg hid];simp only[oJ]at hx2;subst hx2;exact hQ a' ρ' W' g he' hs' hd'
  | ret=>simp only[BO,oJ]at hx2;subst hx2;exact hQ a' ρ' W' g he' hs' hd'
 | loop x ih =>
  intro hs hs' pc hc e st ρ W a r Q h hr he hsz hQ;have hc':(YA P nt hs x).map (fun r=>(PC.loop r.1,r.2))=some (pc,hs'):=by cases hs<;>exact hc
  simp only[oM,jP]at hc';obtain⟨⟨p1,h1⟩,hx,rfl,rfl⟩:=hc';simp only[exec]at h;exact wpIn_loop_rounds n (Rw (ro:=ro) (O:=O) (ih hs h1 p1 hx) n e st ρ W a r Q h hr he hsz hQ)
 | region id ops draw =>
  intro hs hs' pc hc e st ρ W a r Q h hr he hsz hQ;cases hs with
  | nil=>simp[YA]at hc
  | cons h0 hs =>
   simp only[YA,oM,jP]at hc;obtain⟨is,his,rfl,_⟩:=hc;unfold Ou at h;split at h
   ·simp only[exec,oB,BD,oJ]at h
    obtain⟨⟨e1,st1⟩,h1,rfl⟩:=h;refine Rv hO hKW hm his h1 hr he hsz ?_;intro a' ρ' W' g he' hs' hd';exact hQ a' ρ' W' g (he'.keep _) hs' hd'
   ·simp only[exec,oB,BD,oJ,C4]at h
    obtain⟨s1,hp,⟨e1,st1⟩,h1,rfl⟩:=h;split at hp
    ·simp at hp
    ·rename_i hro
     simp only[oJ]at hp;subst hp;have hget:∀lv ix,St.get { st with L:=st.L++h0.js.map Blk.hole } lv ix=st.get lv ix:=by
      intro lv ix;simp only[St.get];split
      ·by_cases hi:ix<st.L.length
       ·rw[jL hi]
       ·rw[List.getElem?_append_right (by omega),List.getElem?_eq_none (l:=st.L) (by omega),jG]
        cases h0.js[ix-st.L.length]?<;>rfl
      ·rfl
     have hs1:Sub st.A.length st { st with L:=st.L++h0.js.map Blk.hole }:=Sub.same (s:=st) (t:={ st with L:=st.L++h0.js.map Blk.hole }) hget
     have hgo:Goes W0 B0 st ρ W { st with L:=st.L++h0.js.map Blk.hole } ρ W :=
      ⟨hs1.rel hr,rfl,fun m hm=>hs1.cx hm,fun _ r h=>⟨r,h,rfl,fun _=>rfl⟩,rfl,fun h=>absurd h hro,rfl⟩
     refine Rv hO hKW hm his h1 hgo.rel (he.mono (hs1.cx (Nat.le_refl _))) hsz ?_;intro a' ρ' W' g he' hs' hd';exact hQ a' ρ' W' (hgo.trans g) (he'.keep _) hs' hd'
 | label l =>
  intro hs hs' pc hc e st ρ W a r Q h hr he hsz hQ;cases hs<;>simp only[YA,oJ,jP]at hc<;>obtain⟨rfl,_⟩:=hc<;>simp only[exec,oJ]at h<;>subst h<;>exact wpIn_label (hQ a ρ W (.refl hr) he Y Y)
 | scope x ih =>
  intro hs hs' pc hc e st ρ W a r Q h hr he hsz hQ;have hc':YA P nt hs x=some (pc,hs'):=by cases hs<;>exact hc
  refine Ry (ih hs hs' pc hc' e st ρ W a r _ h hr he hsz ?_);intro a' ρ' W' g he' hs' hd';have:=hQ a' ρ' W' g he' hs' hd';cases hx:r.1<;>rw[hx]at this<;>exact this
 | _=>intro hs hs' pc hc;cases hs<;>simp[YA]at hc
def HD(tmps:Array Value):ResultVar->Sem Value
 | .tmp t=>pure (tmps.getD t Go.undef)
 | .cell c t=>do loadVar t (<- asAddr (tmps.getD c Go.undef))
theorem be(fn:Func)(tmps:Array Value):results fn tmps=(do let vs <- fn.results.mapM (HD tmps);pure (if h:vs.size=1 then vs[0] else .tuple vs)):=by
 unfold results
 congr 1
 first
  | done
  | (congr 1;funext rv;cases rv<;>rfl)
theorem bf{rv:ResultVar}{q:RV}(hq:Bc P rv=some q)(hr:Rel W0 B0 st ρ W)(he:EnvR (cx st ρ W st.A.length) e a.tmps)(hv:AH st e q=some v):
 ∃x,(HD a.tmps rv).run P W=.ok x W/\R (cx st ρ W st.A.length) v x:=by
 cases rv with
 | tmp t =>
  simp only[Bc,oJ]at hq;subst hq;simp only[AH,oJ]at hv;subst hv;exact⟨_,rfl,he t⟩
 | cell c t =>
  simp only[Bc,oB,oM]at hq;obtain⟨g,hg,n,hn,rfl⟩:=hq;simp only[AH]at hv;obtain⟨b,z,hb,hz,hzv⟩:=PD (P:=P) hr hv (he c) hg hn;refine⟨z,?_,hzv⟩;simp[HD,hb,asAddr,hz]
end
section
variable {P:Program}{O:Orc}{W0:World}{B0:Bse}{st st':St}{ρ:Rho}{W:World}{e:Env}{a:Act}{nt:Nat}
theorem Rz{f:ResultVar->Sem Value}:∀ {rvs:List ResultVar} {rs:List RV} {vs:LV},rvs.mapM (Bc P)=some rs->AM st e rs=some vs ->
 (∀(rv:ResultVar) (q:RV) (v:AV),Bc P rv=some q->AH st e q=some v->∃x,(f rv).run P W=.ok x W/\R (cx st ρ W st.A.length) v x) ->
 ∃xs:List Value,(rvs.mapM f).run P W=.ok xs W/\RL (cx st ρ W st.A.length) vs xs
 | [],rs,vs,h,hv,_=>by
  simp at h;subst h;simp only[AM,oJ]at hv;subst hv;exact⟨[],by simp,.nil _⟩
 | rv::rvs,rs,vs,h,hv,hf=>by
  simp only[List.mapM_cons,Option.pure_def,Option.bind_eq_bind,oB,oJ]at h;obtain⟨q,hq,qs,hqs,rfl⟩:=h;simp only[AM,oB,oM]at hv;obtain⟨v,hv,vs',hvs,rfl⟩:=hv;obtain⟨x,hx,hxv⟩:=hf rv q v hq hv;obtain⟨xs,hxs,hxr⟩:=Rz hqs hvs hf;exact⟨x::xs,by simp[hx,hxs],.cons hxv hxr⟩
theorem FT{rs:List RV}(hc:fn.results.toList.mapM (Bc P)=some rs)(hv:QE st e rs=some v)(hr:Rel W0 B0 st ρ W)(he:EnvR (cx st ρ W st.A.length) e a.tmps):
 ∃x,(results fn a.tmps).run P W=.ok x W/\R (cx st ρ W st.A.length) v x:=by
 simp only[QE,oM]at hv;obtain⟨vs,hvs,rfl⟩:=hv;obtain⟨xs,hxs,hxr⟩:=Rz (P:=P) (ρ:=ρ) (W:=W) hc hvs (fun rv q v hq hv=>bf hq hr he hv);have hm:(fn.results.mapM (HD a.tmps)).run P W=.ok xs.toArray W:=by
  rw[<- Array.toArray_toList (xs:=fn.results),List.mapM_toArray,Sem.run_map,Array.toArray_toList,hxs];rfl
 refine⟨if h:xs.toArray.size=1 then xs.toArray[0] else .tuple xs.toArray,?_,?_⟩
 ·rw[be,Sem.run_bind,hm]
  simp only[Result.andThen_ok,Sem.run_pure]
 ·match vs,xs,hxr with
  | [],xs,h=>rw[h.nil_inv];simpa [BE] using R.tup' (C:=cx st ρ W st.A.length) (.nil _)
  | [v],xs,h =>
   obtain⟨x,ys,rfl,h1,h2⟩:=h.cons_inv;rw[h2.nil_inv];simpa [BE] using h1
  | v::w::vs,xs,h =>
   obtain⟨x,ys,rfl,h1,h2⟩:=h.cons_inv;obtain⟨y,zs,rfl,h3,h4⟩:=h2.cons_inv;rw[dif_neg (by simp)];exact R.tup' (.cons h1 (.cons h3 h4))
theorem initEnv_look:∀ {vs:LV} {xs:List Value} {n t:Nat} {C:Cx},RL C vs xs->look (QB n vs) t=.any\/(n<=t/\∃x,xs[t-n]?=some x/\R C (look (QB n vs) t) x)
 | [],xs,n,t,C,_=>.inl rfl
 | v::vs,xs,n,t,C,h=>by
  obtain⟨x,ys,rfl,h1,h2⟩:=h.cons_inv;simp only[QB,look];split
  ·rename_i hk;subst hk
   exact .inr ⟨Nat.le_refl _,x,by simp,h1⟩
  ·rcases initEnv_look (n:=n+1) (t:=t) h2 with q|⟨q,y,hy,hr⟩
   ·exact .inl q
   ·refine .inr ⟨by omega,y,?_,hr⟩
    rw[show t-n=(t-(n+1))+1 by omega];simpa using hy
theorem FU{C:Cx}(h:RL C vs xs)(k:Nat):EnvR C (QB 0 vs) (xs.toArray++Array.replicate k Go.undef):=by
 intro t;rcases initEnv_look (n:=0) (t:=t) h with q|⟨_,x,hx,hr⟩
 ·rw[q];exact .any _
 ·have hlt:=Zc hx
  simp only[Nat.sub_zero]at hx hlt;have:(xs.toArray++Array.replicate k Go.undef).getD t Go.undef=x:=by
   simp only[Array.getD_eq_getD_getElem?];rw[Array.getElem?_append_left (by simpa using hlt)];simp[hx]
  rw[this];exact hr
theorem bg{KW:World->Bse->Prop}(hO:OSound P KW O)(hKW:KW W0 B0)(hm:P.follows .mixedOrders=true)(n:Nat){keep:Bool}{hs:List Hint}{pf:PF}(hf:P.funcs[f]?=some fn)(hc:Zd P keep hs fn=some pf)
 {args:LV} {v:AV} (h:Jp O (fun F=>AC F n) pf args st=some (v,st')) (hr:Rel W0 B0 st ρ W) {xs:List Value} (hx:RL (cx st ρ W st.A.length) args xs) :
 Calls P f xs.toArray W fun e W'=>∃x ρ',e=.returned x/\Goes W0 B0 st ρ W st' ρ' W'/\R (cx st' ρ' W' st'.A.length) v x:=by
 simp only[Zd,oB,oM]at hc;obtain⟨c,hb,⟨pc,hs'⟩,hcc,rs,hrs,rfl⟩:=hc;simp only[Jp,oB]at h;obtain⟨⟨ex,e1,st1⟩,hex,hend⟩:=h;refine calls_of_wp hf hb ((wpIn_wide (n:=0)).1 ?_);have hsz:fn.ntmps<=(xs.toArray++Array.replicate (fn.ntmps-xs.toArray.size) Go.undef).size:=by simp;omega
 cases keep with
 | true =>
  simp only[if_true]at hex;refine exec_ok (ro:=none) hO hKW hm n c hs hs' pc hcc (QB 0 args) st ρ W { tmps:=xs.toArray++Array.replicate (fn.ntmps-xs.toArray.size) Go.undef,defers:=[] } (ex,e1,st1) _ hex hr (FU hx _) hsz ?_;intro a' ρ' W' g he' _ hd';have key:(QE st1 e1 rs).bind (QL st1)=some (v,st')->a'.defers=[]/\∃w,(results fn a'.tmps).run P W'=.ok w W'/\∃x ρ',Ending.returned w=.returned x/\Goes W0 B0 st ρ W st' ρ' W'/\R (cx st' ρ' W' st'.A.length) v x:=by
   intro hend;simp only[oB]at hend;obtain⟨v0,hv,hend⟩:=hend;obtain⟨rfl,rfl⟩:=G5 hend;obtain⟨x,hx,hxv⟩:=FT hrs hv g.rel he';exact⟨hd',x,hx,x,ρ',rfl,g,hxv⟩
  cases ex with
  | norm=>exact key (by simpa [QT] using hend)
  | ret=>exact key (by simpa [QT] using hend)
  | ex id=>simp[QT]at hend
 | false =>
  simp only[jB,if_false]at hex;have hpl:st.push.A.length=st.A.length+1:=by simp[St.push]
  have hpush:=Sub.push st
  refine exec_ok (ro:=none) hO hKW hm n c hs hs' pc hcc (QB 0 args) st.push ρ W { tmps:=xs.toArray++Array.replicate (fn.ntmps-xs.toArray.size) Go.undef,defers:=[] } (ex,e1,st1) _ hex (hpush.rel hr)
   (FU ((hx.mono (hpush.cx (Nat.le_refl _))).mono (Bd (by omega))) _) hsz ?_
  intro a' ρ' W' g he' _ hd';have key:(QE st1 e1 rs).bind (AY st1)=some (v,st')->a'.defers=[]/\∃w,(results fn a'.tmps).run P W'=.ok w W'/\∃x ρ',Ending.returned w=.returned x/\Goes W0 B0 st ρ W st' ρ' W'/\R (cx st' ρ' W' st'.A.length) v x:=by
   intro hend;simp only[oB,AY,Je,Ar,oJ,jP]at hend;obtain⟨v0,hv,⟨v1,st2⟩,hseal,⟨A',r0⟩,hpop,rfl,rfl⟩:=hend;obtain⟨x,hx,hxv⟩:=FT hrs hv g.rel he';have hl1:st1.A.length=st.A.length+1:=by rw[g.ev.len,hpl]
   obtain⟨g2,hv2⟩:=X8 Zs st1.A.length st1 v0 x v1 st2 g.rel (by omega) hxv hseal;obtain⟨g3,hle⟩:=C9 g2.rel (g.ev.trans g2.ev) hpop;refine⟨hd',x,hx,x,ρ',rfl,g3,?_⟩;rw[hl1]at hv2;have hl3:(⟨A',r0.1,r0.2⟩:St).A.length=st.A.length:=g3.ev.len;rw[hl3];exact R.mono (show R (cx st2 ρ' W' st.A.length) v1 x from hv2) hle
  cases ex with
  | norm=>exact key (by simpa [QT] using hend)
  | ret=>exact key (by simpa [QT] using hend)
  | ex id=>simp[QT]at hend
def Bse.of(W:World):Bse:=⟨W.heap.size,fun _=>(0,[])⟩
def KG(P : Program)(W0 : World)(B0 : Bse): Prop := ∀g, P.globalNamed "internal/bytealg.MaxLen" = some g -> ∃m, W0.cell? ⟨g, 0, none⟩ = some (.int .i64 m) /\ g < B0.n
theorem KG.below{P:Program}{W0 W:World}{B0 B1:Bse}(h:KG P W0 B0)(hb:BelowS B0.n W0 W)(hB:B0.n<=B1.n):KG P W B1:=fun g hg=>by
 obtain⟨m,h1,h2⟩:=h g hg;exact⟨m,by rw[hb.b.cell (p:=⟨g,0,none⟩) h2];exact h1,by omega⟩
theorem KG.rel{P:Program}{W0 W:World}{B0:Bse}{st:St}{ρ:Rho}(h:KG P W0 B0)(hr:Rel W0 B0 st ρ W):KG P W B0:=h.below hr.below (Nat.le_refl _)
theorem KG.none{P:Program}(h : P.globalNamed "internal/bytealg.MaxLen" = none)(W0 : World)(B0 : Bse): KG P W0 B0 := fun g hg => by rw[h]at hg; exact absurd hg (by simp)
def Bf(P:Program)(f:FuncId):Ent->Prop
 | .pf pf=>∃fn keep hs,P.funcs[f]?=some fn/\Zd P keep hs fn=some pf
 | .base o=>(∀args,FrP fun st=>o args st)/\∀(args:LV) (st:St) (v:AV) (st':St),o args st=some (v,st')->∀(W0:World) (B0:Bse) (ρ:Rho) (W:World) (xs:List Value),KG P W0 B0->Rel W0 B0 st ρ W->RL (cx st ρ W st.A.length) args xs ->
  Calls P f xs.toArray W fun e W'=>∃x ρ',e=.returned x/\Goes W0 B0 st ρ W st' ρ' W'/\R (cx st' ρ' W' st'.A.length) v x
def TabOk(P:Program)(T:Tab):Prop:=∀(f:FuncId) (x:Ent),T f=some x->f<yB/\(∀(ys:Array Value) (W:World),(callFunc f ys).run P W=.ok (.enter f ys) W)/\Bf P f x
theorem HE(h:f<yB)(e:f=yB+l):False:=by
 rw[e]at h;exact Nat.not_lt_of_le (Nat.le_add_right _ _) h
def Kk(P:Program)(K:World->Bse->Prop)(lv:Nat):Ent->Prop
 | .pf _=>False
 | .base o=>(∀args,FrP fun st=>o args st)/\∀(args:LV) (st:St) (v:AV) (st':St),o args st=some (v,st')->∀(W0:World) (B0:Bse) (ρ:Rho) (W:World) (xs ys:List Value),K W0 B0->KG P W0 B0->Rel W0 B0 st ρ W->RL (cx st ρ W st.A.length) args xs ->
  xs=ys++(B0.y lv).2->Rh P (B0.y lv).1 ys.toArray W fun e W'=>∃x ρ',e=.returned x/\Goes W0 B0 st ρ W st' ρ' W'/\R (cx st' ρ' W' st'.A.length) v x
def HF(P:Program)(K:World->Bse->Prop)(T:Tab):Prop:=∀(f:FuncId) (x:Ent),T f=some x->(f<yB/\(∀(ys:Array Value) (W:World),(callFunc f ys).run P W=.ok (.enter f ys) W)/\Bf P f x)\/∃l,f=yB+l/\Kk P K l x
theorem TabOk.y{P:Program}{K:World->Bse->Prop}{T:Tab}(h:TabOk P T):HF P K T:=fun f x hx=>.inl (h f x hx)
theorem By(hm:P.follows .mixedOrders=true){K:World->Bse->Prop}{T:Tab}(hT:HF P K T):∀n,OSound P (fun W B=>K W B/\KG P W B) (QP T n)
 | 0=>⟨fun f args=>FrP.nope,fun _ h=>by simp[QP]at h,fun h=>by simp[QP]at h⟩
 | n+1=>by
  have ih:=By hm hT n;refine⟨fun f args=>?_,fun {f args st r} hf h=>?_,fun {f args st v st'} h=>?_⟩
  ·show FrP fun st=>(T f).bind (entK (QP T n) (fun F=>AC F n) args st)
   cases hx:T f with
   | none=>exact FrP.nope
   | some x =>
    cases x with
    | pf pf=>exact bE ih.frame n pf args
    | base o =>
     rcases hT f _ hx with⟨_,_,hk⟩|⟨l,_,hk⟩
     ·exact hk.1 args
     ·exact hk.1 args
  ·simp only[QP,oB]at h
   obtain⟨x,hx,_⟩:=h;rcases hT f x hx with⟨_,he,_⟩|⟨l,hl,_⟩
   ·exact he
   ·exact (HE hf hl).elim
  ·intro W0 B0 ρ W xs hKW hr hxs
   simp only[QP,oB]at h;obtain⟨x,hx,h⟩:=h;rcases hT f x hx with⟨hf,_,hk⟩|⟨l,hl,hk⟩
   ·refine⟨fun _=>?_,fun l ys hl _=>(HE hf hl).elim⟩
    cases x with
    | pf pf =>
     obtain⟨fn,keep,hs,hf,hc⟩:=hk;exact bg ih hKW hm n hf hc h hr hxs
    | base o=>exact hk.2 args st v st' h W0 B0 ρ W xs hKW.2 hr hxs
   ·refine⟨fun hf=>(HE hf hl).elim,fun l' ys hl' hys=>?_⟩
    obtain rfl:l'=l:=Nat.add_left_cancel (hl'.symm.trans hl);cases x with
    | pf pf=>exact hk.elim
    | base o=>exact hk.2 args st v st' h W0 B0 ρ W xs ys hKW.1 hKW.2 hr hxs hys
theorem Kl(hm:P.follows .mixedOrders=true){K:World->Bse->Prop}{T:Tab}(hT:HF P K T):OSound P (fun W B=>K W B/\KG P W B) (S T):=by
 refine⟨fun f args st r h=>?_,fun {f args st r} hf h=>?_,fun {f args st v st'} h=>?_⟩
 ·obtain⟨n,hn⟩:=S_iff.1 h
  obtain⟨h1,h2⟩:=(By hm hT n).frame f args st r hn;exact⟨h1,fun M i B hh=>S_iff.2 ⟨n,h2 M i B hh⟩⟩
 ·obtain⟨n,hn⟩:=S_iff.1 h
  exact (By hm hT n).enter hf hn
 ·intro W0 B0 ρ W xs hKW hr hxs
  obtain⟨n,hn⟩:=S_iff.1 h;exact (By hm hT n).calls hn hKW hr hxs
theorem bh{T:Tab}(hT:TabOk P T){st:St}{r:AV × St}(h:S T f args st=some r):f<yB:=by
 obtain⟨n,hn⟩:=S_iff.1 h;cases n with
 | zero=>simp[QP]at hn
 | succ n =>
  simp only[QP,oB]at hn;obtain⟨x,hx,_⟩:=hn;exact (hT f x hx).1
theorem bi(hm:P.follows .mixedOrders=true){T:Tab}(hT:TabOk P T){st:St}{st':St}(h:S T f args st=some (v,st')){W0:World}{B0:Bse}{ρ:Rho}{W:World}(hg:KG P W0 B0)(hr:Rel W0 B0 st ρ W)(hx:RL (cx st ρ W st.A.length) args xs):
 Calls P f xs.toArray W fun e W'=>∃x ρ',e=.returned x/\Goes W0 B0 st ρ W st' ρ' W'/\R (cx st' ρ' W' st'.A.length) v x :=
 ((Kl hm (K:=fun _ _=>True) hT.y).calls h ⟨trivial,hg⟩ hr hx).1 (bh hT h)
def Xt:List (FuncId × Ent)->Tab
 | [],_=>none
 | (g,x)::l,f=>if g=f then some x else Xt l f
def BR(P:Program):List (FuncId × Ent)->Prop
 | []=>True
 | (f,x)::l=>((∀(ys:Array Value) (W:World),(callFunc f ys).run P W=.ok (.enter f ys) W)/\Bf P f x)/\BR P l
def Km(l:List (FuncId × Ent)):Bool:=l.all fun p=>Nat.blt p.1 yB
theorem R0:∀ {l:List (FuncId × Ent)},BR P l->Km l=true->TabOk P (Xt l)
 | [],_,_,f,x,h=>by simp[Xt]at h
 | (g,y)::l,⟨h1,h2⟩,hy,f,x,h=>by
  have hy2:(Nat.blt g yB && Km l)=true:=hy;rw[Bool.and_eq_true]at hy2;simp only[Xt]at h;split at h
  ·rename_i hg;subst hg
   simp only[oJ]at h;subst h;exact⟨Nat.le_of_ble_eq_true hy2.1,h1⟩
  ·exact R0 h2 hy2.2 f x h
theorem HG{l:List (FuncId × Ent)}(h:BR P l)(hy:Km l=true:=by rfl):TabOk P (Xt l):=R0 h hy
def St.empty:St:=⟨[],false,[]⟩
theorem bj(W:World):Rel W (.of W) .empty ⟨fun _ _=>⟨0,0,0⟩,fun _=>(0,[])⟩ W:=by
 have hget:∀lv ix,St.empty.get lv ix=none:=by
  intro lv ix;unfold St.empty St.get;split<;>simp[vis]
 refine⟨.refl _ _,Nat.le_refl _,rfl,?_,?_,?_,?_⟩<;>intro lv ix
 ·intro w ver es h;rw[hget]at h;simp at h
 ·intro w ver es lv' ix' w' ver' es' h;rw[hget]at h;simp at h
 ·intro es h;rw[hget]at h;simp at h
 ·intro es lv' ix' es' h;rw[hget]at h;simp at h
theorem str_eq(s:ByteArray):Value.string s=.string ⟨s.data.toList.toArray⟩:=by simp
end
section
variable {P:Program}{W0:World}{B0:Bse}{st:St}{ρ:Rho}{W W':World}
theorem Kn(h:Below W.heap.size W W'){b:Nat}{v:Value}(hc:QH W b o v):QH W' b o v:=by
 have hlt:=D0 hc;unfold QH at hc ⊢;rw[h.cell (by exact hlt)];exact hc
theorem Ko(hr:Rel W0 B0 st ρ W)(h:Below W.heap.size W W'):Goes W0 B0 st ρ W st ρ W':=by
 have hle:∀m,(cx st ρ W m).le (cx st ρ W' m):=fun m=>⟨fun b o v q=>⟨Kn h q.1,q.2⟩,fun _ _ _ _ _ _ q=>q,fun _ _ _ _ _ _ q=>q,fun _ _ _ q=>q,fun _ _ _ q=>q⟩
 refine⟨⟨hr.below.trans (.of_all hr.b0 h),by have:=hr.b0;have:=h.size;omega,hr.yl,?_,hr.sep,?_,hr.msep⟩,⟨rfl,fun m _=>hle m,fun _ r h=>⟨r,h,rfl,fun _=>rfl⟩,rfl,fun _=>rfl,rfl⟩⟩
 ·intro lv ix w ver es hg
  obtain⟨a1,a2,a3⟩:=hr.arr lv ix w ver es hg;refine⟨a1,fun i e he=>?_,fun j hj=>?_⟩
  ·obtain⟨x,h1,h2,h3⟩:=a2 i e he
   exact⟨x,h1.mono (hle lv),h2,h3.mono fun _ _ _=>Kn h⟩
  ·obtain⟨m1,m2,m3⟩:=a3 j hj
   obtain⟨u,hu⟩:=Option.isSome_iff_exists.1 m2;have hc:QH W' _ _ u:=Kn h hu;have hlt:=D0 (W:=W) hu;unfold QH at hc;exact⟨m1,by rw[hc];rfl,by rw[h.frozen (by exact hlt)];exact m3⟩
 ·intro lv ix es hg
  obtain⟨m1,en,clock,m2,m3,m4⟩:=hr.map lv ix es hg;have hlt:(ρ lv ix).b<W.heap.size:=Zz m2;refine⟨m1,en,clock,by rw[h.block _ hlt];exact m2,m3,fun i k v hk=>?_⟩;obtain⟨n1,x,n2,n3,n4⟩:=m4 i k v hk;exact⟨n1,x,n2,n3.mono (hle lv),n4.mono (hle lv)⟩
def plain:AV->Bool
 | .bool _=>true
 | .int _ _=>true
 | .str _=>true
 | _=>false
open Classical in
noncomputable def bk(T:Tab)(f:FuncId):Ent:=.base fun args st =>
 if h:∃v st',S T f args .empty=some (v,st')/\args.all plain=true/\plain v=true then some (h.choose,st) else none
end
structure Rng where
 g:Opd
 ps:List Nat
 assign:PC
 body:PC
structure RF where
 nt:Nat
 pre:PC
 rng:Rng
 post:PC
 res:List RV
def Bz:List Nat->LV->Env->Env
 | p::ps,v::vs,e=>Bz ps vs ((p,v)::e)
 | _,_,e=>e
def FV:Ex × Env × St->OS
 | (.norm,_,st)=>Je (.bool true,st)
 | _=>none
def EF(F:Run):Ex × Env × St->OS
 | (.norm,e,st)=>(F e st).bind FV
 | _=>none
def Ao(O:Orc)(I:Run->Run)(nt:Nat)(rg:Rng)(args:LV)(st:St):OS :=
 if args.length=rg.ps.length+nt then (exec O I rg.assign (Bz rg.ps args (QB 0 (args.drop rg.ps.length))) st.push).bind (EF (exec O I rg.body)) else none
def BS(nt:Nat)(e:Env):LV:=(List.range nt).map (look e)
def EG(e:Env)(q:AV × St):Option (Ex × Env × St):=(Je q).bind fun r=>some (.norm,e,r.2)
def BG(OT:Nat->Orc)(nt:Nat)(rg:Rng)(e:Env)(st:St):Option (Ex × Env × St) :=
 match rg.g.get e with
 | .func (.func f) first cap=>if f<yB then (OT (st.A.length+1) f (ZS (first++[.func (.yield (st.A.length+1)) [] (BS nt e)]++cap)) st.push).bind (EG e) else none
 | _=>none
def Bg(O:Orc)(I:Run->Run)(OT:Nat->Orc)(nt:Nat)(pre:PC)(rg:Rng)(post:PC):Run :=
 fun e st=>(exec O I pre e st).bind (JB fun e st=>(BG OT nt rg e st).bind (JB (exec O I post)))
def rfG(O:Orc)(I:Run->Run)(OT:Nat->Orc)(rf:RF)(args:LV)(st:St):OS :=
 (Bg O I OT rf.nt rf.pre rf.rng rf.post (QB 0 args) st.push).bind (QT false rf.res)
def A5(T:Tab)(lv:Nat)(o:LV->St->OS):Tab:=fun f=>if f=yB+lv then some (.base o) else T f
noncomputable def rfO(T:Tab)(rf:RF):LV->St->OS :=
 rfG (S T) itS (fun lv=>S (A5 T lv (Ao (S T) itS rf.nt rf.rng))) rf
def Bh(P:Program)(nt:Nat)(hs:List Hint)(g:Operand)(ps:Array Tmp)(asg bd:Code):Option (Rng × List Hint) :=
 if ps.toList.all (fun p=>decide (p<nt))=true then
  (opd g).bind fun g=>(YA P nt hs asg).bind fun a=>(YA P nt a.2 bd).map fun b=>(⟨g,ps.toList,a.1,b.1⟩,b.2)
 else none
def toC(P:Program)(nt:Nat):List Hint->Code->Option ((PC × Rng × PC) × List Hint)
 | hs,.rangeFunc g ps asg bd=>(Bh P nt hs g ps asg bd).map fun q=>((.skip,q.1,.skip),q.2)
 | hs,.seq a b =>
  match YA P nt hs a with
  | some r=>(toC P nt r.2 b).map fun q=>((.seq r.1 q.1.1,q.1.2.1,q.1.2.2),q.2)
  | none=>(toC P nt hs a).bind fun q=>(YA P nt q.2 b).map fun r=>((q.1.1,q.1.2.1,.seq q.1.2.2 r.1),r.2)
 | hs,.scope a=>toC P nt hs a
 | hs,.block _ (.rangeFunc g ps asg bd)=>(Bh P nt hs g ps asg bd).map fun q=>((.skip,q.1,.skip),q.2)
 | _,_=>none
def FW(P:Program)(hs:List Hint)(fn:Func):Option RF :=
 fn.body.bind fun c=>(toC P fn.ntmps hs c).bind fun q=>(fn.results.toList.mapM (Bc P)).map fun rs=>⟨fn.ntmps,q.1.1,q.1.2.1,q.1.2.2,rs⟩
section
variable {P:Program}{W0:World}{B0:Bse}{st st':St}{ρ:Rho}{W:World}{e:Env}
theorem Kp{W:World}{o:Obj}(h:W.heap[k]?=some o)(h1:JV o=true)(h2:JV o'=true)(a:Addr):(W.putObj k o').cell? a=W.cell? a:=by
 by_cases e:a.block=k
 ·have hlt:k<W.heap.size:=Zz h
  unfold World.cell?;rw[e,World.putObj_heap_same hlt,h];cases o<;>simp[JV]at h1<;>cases o'<;>simp[JV]at h2<;>rfl
 ·unfold World.cell?
  rw[World.putObj_heap_other e]
theorem bl{W:World}{o:Obj}(h:W.heap[k]?=some o)(h1:JV o=true)(h2:JV o'=true)(a:Addr):(W.putObj k o').frozen? a=W.frozen? a:=by
 by_cases e:a.block=k
 ·have hlt:k<W.heap.size:=Zz h
  unfold World.frozen?;rw[e,World.putObj_heap_same hlt,h];cases o<;>simp[JV]at h1<;>cases o'<;>simp[JV]at h2<;>rfl
 ·unfold World.frozen?
  rw[World.putObj_heap_other e]
theorem R5{W:World}{o:Obj}(h:W.heap[k]?=some o)(h1:JV o=true)(h2:JV o'=true):QH (W.putObj k o')=QH W:=by
 funext b c v;unfold QH;rw[Kp h h1 h2]
theorem EH{W:World}{o:Obj}(h:W.heap[k]?=some o)(h1:JV o=true)(h2:JV o'=true)(m:Nat):cx st ρ (W.putObj k o') m=cx st ρ W m:=by
 unfold cx;rw[R5 h h1 h2]
theorem Rel.putO{W1:World}(hr:Rel W0 B0 st ρ W){o:Obj}(h:W.heap[k]?=some o)(h1:JV o=true)(h2:JV o'=true)(hb:BelowS B0 W1 (W.putObj k o')):Rel W1 B0 st ρ (W.putObj k o'):=by
 refine⟨hb,by rw[World.putObj_size];exact hr.b0,hr.yl,?_,hr.sep,?_,hr.msep⟩
 ·intro lv ix w ver es hg
  obtain⟨a1,a2,a3⟩:=hr.arr lv ix w ver es hg;refine⟨a1,fun i e he=>?_,fun j hj=>?_⟩
  ·obtain⟨x,x1,x2,x3⟩:=a2 i e he
   refine⟨x,by rw[EH h h1 h2];exact x1,x2,?_⟩;rw[R5 h h1 h2];exact x3
  ·obtain⟨m1,m2,m3⟩:=a3 j hj
   exact⟨m1,by rw[Kp h h1 h2];exact m2,by rw[bl h h1 h2];exact m3⟩
 ·intro lv ix es hg
  obtain⟨m1,en,clock,m2,m3,m4⟩:=hr.map lv ix es hg;have hne:(ρ lv ix).b≠k:=by
   intro q;rw[q,h]at m2;simp only[oJ]at m2;subst m2;simp[JV]at h1
  refine⟨m1,en,clock,by rw[World.putObj_heap_other hne];exact m2,m3,fun i k' v hk=>?_⟩;obtain⟨n1,x,n2,n3,n4⟩:=m4 i k' v hk;exact⟨n1,x,n2,by rw[EH h h1 h2];exact n3,by rw[EH h h1 h2];exact n4⟩
theorem Ev.putO{o:Obj}(h:W.heap[k]?=some o)(h1:JV o=true)(h2:JV o'=true):Ev st ρ W st ρ (W.putObj k o') :=
 ⟨rfl,fun m _=>by rw[EH h h1 h2];exact .refl _,fun _ r h=>⟨r,h,rfl,fun _=>rfl⟩,rfl,fun _=>rfl,rfl⟩
theorem Rel.rebase(hr:Rel W0 B0 st ρ W):Rel W B0 st ρ W:=⟨.refl _ _,hr.b0,hr.yl,hr.arr,hr.sep,hr.map,hr.msep⟩
theorem Rel.base{W1:World}(hr:Rel W1 B0 st ρ W)(hb:BelowS B0 W0 W):Rel W0 B0 st ρ W:=⟨hb,hr.b0,hr.yl,hr.arr,hr.sep,hr.map,hr.msep⟩
theorem EI{y:Nat->Nat × List Value}{lv m:Nat}(hm:m<lv)(hy:∀k,k<lv->y k=ρ.yl k):(cx st ρ W m).le (cx st ⟨ρ.at_,y⟩ W m) :=
 ⟨fun _ _ _ h=>h,fun _ _ _ _ _ _ q=>q,fun _ _ _ _ _ _ q=>q,fun _ _ _ q=>q,fun k l tm q=>⟨q.1,by show y k=_;rw[hy k (Nat.lt_of_le_of_lt q.1 hm)];exact q.2⟩⟩
theorem Rel.yls(hr:Rel W0 B0 st ρ W){y:Nat->Nat × List Value}{lv:Nat}(hy:∀k,k<lv->y k=ρ.yl k)(hs:∀lv' ix b,st.get lv' ix=some b->lv'<lv):Rel W0 ⟨B0.n,y⟩ st ⟨ρ.at_,y⟩ W:=by
 refine⟨hr.below,hr.b0,rfl,?_,hr.sep,?_,hr.msep⟩
 ·intro lv' ix w ver es hg
  obtain⟨a1,a2,a3⟩:=hr.arr lv' ix w ver es hg;refine⟨a1,fun i e he=>?_,a3⟩;obtain⟨x,x1,x2⟩:=a2 i e he;exact⟨x,x1.mono (EI (hs _ _ _ hg) hy),x2⟩
 ·intro lv' ix es hg
  obtain⟨m1,en,clock,m2,m3,m4⟩:=hr.map lv' ix es hg;refine⟨m1,en,clock,m2,m3,fun i k' v hk=>?_⟩;obtain⟨n1,x,n2,n3,n4⟩:=m4 i k' v hk;exact⟨n1,x,n2,n3.mono (EI (hs _ _ _ hg) hy),n4.mono (EI (hs _ _ _ hg) hy)⟩
theorem bn{C:Cx}{tmps:Array Value}(he:EnvR C e tmps)(hn:nt<=tmps.size):RL C (BS nt e) (tmps.toList.take nt):=by
 refine⟨by simp[BS];omega,fun i v x hv hx=>?_⟩;have hi:=Zc hv;simp[BS]at hi;simp only[BS,jG,List.getElem?_range hi,Option.map_some,oJ]at hv;subst hv;rw[List.getElem?_take,if_pos hi,Array.getElem?_toList]at hx;have:=he i;simp only[Array.getD_eq_getD_getElem?,hx,Option.getD_some]at this;exact this
theorem R6{C:Cx}:∀ {ps:List Nat} {vs:LV} {xs:List Value} {e:Env} {tmps:Array Value} {n:Nat},(∀p∈ps,p<n)->n<=tmps.size->ps.length<=vs.length->RL C vs xs->EnvR C e tmps ->
 EnvR C (Bz ps vs e) ((ps.zip xs).foldl (fun t (p:Nat × Value)=>t.setIfInBounds p.1 p.2) tmps)
 | [],vs,xs,e,tmps,n,_,_,_,_,he=>by simpa [Bz] using he
 | p::ps,[],xs,e,tmps,n,_,_,hl,_,_=>by simp at hl
 | p::ps,v::vs,xs,e,tmps,n,hp,hn,hl,hx,he=>by
  obtain⟨x,ys,rfl,h1,h2⟩:=hx.cons_inv;simp only[Bz,List.zip_cons_cons,List.foldl_cons];refine R6 (n:=n) (fun q hq=>hp q (by simp[hq])) (by simp;exact hn) (by simpa using hl) h2 ?_;have hpn:=hp p (by simp);intro t;simp only[look];split
  ·rename_i h;subst h
   have:(tmps.setIfInBounds p x).getD p Go.undef=x:=by
    simp[Array.getElem?_setIfInBounds];rw[if_pos (by omega)];rfl
   rw[this];exact h1
  ·rename_i h
   have:(tmps.setIfInBounds p x).getD t Go.undef=tmps.getD t Go.undef:=by
    simp[Array.getElem?_setIfInBounds_ne h]
   rw[this];exact he t
theorem Kq:∀(l:List (Nat × Value)) (t:Array Value),(l.foldl (fun t (p:Nat × Value)=>t.setIfInBounds p.1 p.2) t).size=t.size
 | [],_=>rfl
 | p::l,t=>by rw[List.foldl_cons,Kq l];simp
end
section
variable {P:Program}{T:Tab}{W0:World}{B0:Bse}{st st':St}{ρ:Rho}{W:World}{e:Env}{a:Act}
theorem bo(T:Tab)(n:Nat):Le (QP T n) (S T):=fun _ _ _ _ q=>S_iff.2 ⟨n,q⟩
theorem bq(n:Nat):ILe (itN n) itS:=fun _ _ h _ _ _ q=>itS_iff.2 ⟨n,Dv h (Nat.le_refl n) q⟩
theorem EJ(hm:P.follows .mixedOrders=true)(hT:TabOk P T)(pc:PC):FrX (exec (S T) itS pc):=FrX.of fun e st r hr=>by
 obtain⟨n,hn⟩:=Dw hr;obtain⟨k1,k2⟩:=(RM (By hm (K:=fun _ _=>True) hT.y n).frame n pc).to hn;exact⟨k1,fun M i B hh=>KB (bo T n) (bq n) (k2 M i B hh)⟩
theorem KG.putO{o:Obj}(hg:KG P W B0)(h:W.heap[k]?=some o)(h1:JV o=true)(h2:JV o'=true):KG P (W.putObj k o') B0:=fun g e=>by
 obtain⟨m,q1,q2⟩:=hg g e;exact⟨m,by rw[Kp h h1 h2];exact q1,q2⟩
def KY(nt lv:Nat)(ps:Array Tmp)(asg bd:Code)(W0:World)(B0:Bse):Prop :=
 ∃(fn:FuncId) (tmps:Array Value) (df:Nat),nt<=tmps.size/\(B0.y lv).2=tmps.toList.take nt /\
  W0.heap[(B0.y lv).1]?=some (.loop { state:=.ready,pending:=none,fn,tmps,params:=ps,assign:=asg,body:=bd,defers:=df })
theorem br{B:Nat}{W0 W1 W3:World}{r0:Loop}{o1:Obj}(h1:BelowS B W0 W1)(hrec:W0.heap[l]?=some (.loop r0))(h2:BelowS B (W1.putObj l o1) W3):BelowS B W0 (W3.putObj l (.loop r0)):=by
 have hlt:l<W3.heap.size:=by
  have h3:=Zz hrec;have h4:=h1.b.size;have h5:=h2.b.size;rw[World.putObj_size]at h5;omega
 refine⟨⟨h2.b.os.trans h1.b.os,h2.b.tape.trans h1.b.tape,h2.b.output.trans h1.b.output,?_,fun k hk=>?_⟩,fun k ob hk hs=>?_⟩
 ·rw[World.putObj_size]
  have h4:=h1.b.size;have h5:=h2.b.size;rw[World.putObj_size]at h5;omega
 ·by_cases e:k=l
  ·subst e;rw[World.putObj_heap_same hlt,hrec]
  ·rw[World.putObj_heap_other e,h2.b.block k hk,World.putObj_heap_other e,h1.b.block k hk]
 ·by_cases e:k=l
  ·subst e
   rw[hrec]at hk;rw[World.putObj_heap_same hlt];exact hk
  ·rw[World.putObj_heap_other e]
   exact h2.s k ob (by rw[World.putObj_heap_other e];exact h1.s k ob hk hs) hs
theorem bt{C:Cx}{tmps:Array Value}(h:RL C cs (tmps.toList.take nt)):EnvR C (QB 0 cs) tmps:=by
 intro t;rcases initEnv_look (n:=0) (t:=t) h with q|⟨_,x,hx,hr⟩
 ·rw[q];exact .any _
 ·simp only[Nat.sub_zero,List.getElem?_take]at hx
  split at hx
  ·rw[Array.getElem?_toList]at hx
   simp only[Array.getD_eq_getD_getElem?,hx,Option.getD_some];exact hr
  ·simp at hx
theorem bu(hm:P.follows .mixedOrders=true)(hT:TabOk P T)(nt:Nat)(rg:Rng)(args:LV):FrP fun st=>Ao (S T) itS nt rg args st:=by
 unfold Ao;split
 ·have h1 : FrP fun st => (exec (S T) itS rg.assign (Bz rg.ps args (QB 0 (args.drop rg.ps.length))) st).bind fun x => match x.1 with
   | .norm=>(exec (S T) itS rg.body x.2.1 x.2.2).bind fun y=>match y.1 with
    | .norm=>some (AV.bool true,y.2.2)
    | _=>none
   | _=>none:=by
   intro st r hr;simp only[oB]at hr;obtain⟨⟨x,e1,s1⟩,q1,q2⟩:=hr;obtain⟨k1,k2⟩:=(EJ hm hT rg.assign).to q1;cases x with
   | norm =>
    simp only[oB]at q2;obtain⟨⟨y,e2,s2⟩,q3,q4⟩:=q2;obtain⟨l1,l2⟩:=(EJ hm hT rg.body).to q3;cases y with
    | norm =>
     simp only[oJ]at q4;subst q4;refine⟨l1.trans k1,fun M i B hh=>?_⟩;simp only[k2 M i B hh,oS,l2 M i B (hh.of_tags k1)]
    | ex id=>simp at q4
    | ret=>simp at q4
   | ex id=>simp at q2
   | ret=>simp at q2
  refine (EC h1).congr fun st=>?_
  cases hx:exec (S T) itS rg.assign (Bz rg.ps args (QB 0 (args.drop rg.ps.length))) st.push with
  | none=>rfl
  | some x =>
   obtain⟨x,e1,s1⟩:=x;simp only[oS];cases x with
   | norm =>
    simp only[EF];cases hy:exec (S T) itS rg.body e1 s1 with
    | none=>rfl
    | some y =>
     obtain⟨y,e2,s2⟩:=y;cases y<;>rfl
   | ex id=>rfl
   | ret=>rfl
 ·exact FrP.nope
theorem R7{α β:Type}:∀ {l:List α} {ys t:List β},l.length=ys.length->l.zip (ys++t)=l.zip ys
 | [],[],_,_=>by simp
 | [],_::_,_,h=>by simp at h
 | _::_,[],_,h=>by simp at h
 | a::l,y::ys,t,h=>by simp only[lC,List.zip_cons_cons];rw[R7 (by simpa using h)]
theorem R8(hm:P.follows .mixedOrders=true)(hT:TabOk P T){lv:Nat}{hs h1 h2:List Hint}{ps:Array Tmp}{pa pb:PC}(ha:YA P nt hs asg=some (pa,h1))(hb:YA P nt h1 bd=some (pb,h2))
 (hps:∀p∈ps.toList,p<nt) {g:Opd}:Kk P (KY nt lv ps asg bd) lv (.base (Ao (S T) itS nt ⟨g,ps.toList,pa,pb⟩)):=by
 refine⟨bu hm hT nt _,?_⟩;intro args st v st' h W0 B0 ρ W xs ys hK hg hr hx hxs;obtain⟨fn,tmps,df,hn,hy,hrec⟩:=hK;generalize hl:(B0.y lv).1=l at *;unfold Ao at h;split at h
 case isFalse=>simp at h
 rename_i hlen;simp only at hlen h;simp only[oB]at h;obtain⟨⟨x1,e1,s1⟩,q1,q2⟩:=h;cases x1 with
 | ex id=>simp[EF]at q2
 | ret=>simp[EF]at q2
 | norm =>
 simp only[EF,oB]at q2;obtain⟨⟨x2,e2,s2⟩,q3,q4⟩:=q2;cases x2 with
 | ex id=>simp[FV]at q4
 | ret=>simp[FV]at q4
 | norm =>
 simp only[FV,Je,Ar,oB,oJ,jP]at q4;obtain⟨⟨A',r0⟩,hp,rfl,rfl⟩:=q4;obtain⟨n1,q1⟩:=Dw q1;obtain⟨n2,q3⟩:=Dw q3;have hW:=hr.below.s _ _ hrec rfl;have htm:(tmps.toList.take nt).length=nt:=by simp;omega
 have hyl:ys.length=ps.size:=by
  have:=hx.1;rw[hxs,hy,lL,htm,hlen]at this;simp at this;omega
 refine⟨fn,_,asg,bd,run_yield hW (by simpa using hyl),?_⟩;have hpush:=Sub.push st;have hpl:st.push.A.length=st.A.length+1:=by simp[St.push]
 have hx':RL (cx st.push ρ W st.push.A.length) args xs:=(hx.mono (hpush.cx (Nat.le_refl _))).mono (Bd (by omega));have hfold:∀t:Array Value,((ps.zip ys.toArray).foldl (fun tmps (t,a)=>tmps.setIfInBounds t a) t)=(ps.toList.zip ys).foldl (fun t (p:Nat × Value)=>t.setIfInBounds p.1 p.2) t:=by
  intro t;rw[<- Array.foldl_toList]
  congr 1
  simp
 refine roundIn_of_wpIn (F:=.wide) trivial ?_;show asg.wpIn (fen (some l)) 0 P _ _ W
 simp only[hfold];have hdrop:RL (cx st.push ρ W st.push.A.length) (args.drop ps.toList.length) (tmps.toList.take nt):=by
  have:=hx'.drop ps.toList.length;have e1:ps.toList.length=ys.length:=by simp[hyl]
  rw[hxs,hy,e1,List.drop_left]at this;rw[e1];exact this
 have henv:EnvR (cx st.push ρ W st.push.A.length) (Bz ps.toList args (QB 0 (args.drop ps.toList.length))) ((ps.toList.zip ys).foldl (fun t (p:Nat × Value)=>t.setIfInBounds p.1 p.2) tmps):=by
  have:=R6 (ps:=ps.toList) (vs:=args) (xs:=xs) hps hn (by omega) hx' (bt hdrop);have hz:ps.toList.zip xs=ps.toList.zip ys:=by
   rw[hxs];exact R7 (by simp[hyl])
  rwa [hz]at this
 refine exec_ok (ro:=some l) (By hm (K:=fun _ _=>True) hT.y n1) ⟨trivial,hg⟩ hm n1 asg hs h1 pa ha _ st.push ρ W _ _ _ q1 (hpush.rel hr) henv (by rw[Kq];exact hn) ?_;intro a1 ρ1 W1 g1 he1 hs1 hd1;have hW1:=g1.rel.below.s _ _ hrec rfl;refine⟨_,run_beginRound hW1 Y,?_⟩;refine exec_ok (ro:=some l) (W0:=W1.putObj l _) (B0:=B0) (By hm (K:=fun _ _=>True) hT.y n2) ⟨trivial,(hg.rel g1.rel).putO hW1 Y Y⟩ hm n2 bd h1 h2 pb hb _ s1 ρ1 _ a1 _ _ q3 (g1.rel.putO hW1 Y Y (.refl _ _)) (by rw[EH hW1 rfl rfl];exact he1) (by rw[hs1,Kq];exact hn) ?_;intro a2 ρ2 W3 g2 he2 hs2 hd2;have hW3:=g2.rel.below.s _ _ (World.putObj_heap_same (Zz hW1)) rfl;refine⟨_,_,run_endRound none hW3,_,ρ2,rfl,?_,.bool true⟩;have hE:Ev st.push ρ W s2 ρ2 (W3.putObj l (.loop { state:=.ready,pending:=none,fn,tmps,params:=ps,assign:=asg,body:=bd,defers:=df })):=g1.ev.trans ((Ev.putO hW1 rfl rfl).trans (g2.ev.trans (Ev.putO hW3 rfl rfl)));exact (C9 (g2.rel.putO hW3 Y Y (br g1.rel.below hrec g2.rel.below)) hE hp).1
end
section
variable {P:Program}{T:Tab}{W0:World}{B0:Bse}{st st':St}{ρ:Rho}{W:World}{e:Env}{a:Act}
theorem R9{K:World->Bse->Prop}(hT:TabOk P T){lv:Nat}{o:LV->St->OS}(ho:Kk P K lv (.base o)):HF P K (A5 T lv o):=by
 intro f x hx;unfold A5 at hx;split at hx
 ·rename_i h
  simp only[oJ]at hx;subst hx;exact .inr ⟨lv,h,ho⟩
 ·exact .inl (hT f x hx)
theorem R_{B:Nat}{W W1:World}(h:BelowS B W W1)(hk:W.heap.size<=k)(hB:B<=W.heap.size)(o:Obj):BelowS B W (W1.putObj k o):=by
 refine⟨⟨h.b.os,h.b.tape,h.b.output,by rw[World.putObj_size];exact h.b.size,fun i hi=>?_⟩,fun i ob hi hs=>?_⟩
 ·rw[World.putObj_heap_other (by omega)];exact h.b.block i hi
 ·have:=Zz hi
  rw[World.putObj_heap_other (by omega)];exact h.s i ob hi hs
theorem Goes.after{st2:St}{ρ1 ρ2:Rho}{W1 W2:World}(g1:Goes W B0 st ρ W st1 ρ1 W1)(g2:Goes W1 B0 st1 ρ1 W1 st2 ρ2 W2):Goes W B0 st ρ W st2 ρ2 W2 :=
 ⟨g2.rel.base (g1.rel.below.trans g2.rel.below),g1.ev.trans g2.ev⟩
def DefOk(W W':World)(ds:List Deferred):Prop :=
 ∃k d,ds=[d]/\d.target=.collected k/\W'.heap[k]?=some (.deferred (some []))/\W.heap.size<=k
def DefR(W W':World)(ds:List Deferred):Prop:=ds=[]\/DefOk W W' ds
theorem DefOk.pre{W1 W2:World}{ds:List Deferred}(h:DefOk W1 W2 ds)(hs:W.heap.size<=W1.heap.size):DefOk W W2 ds:=by
 obtain⟨k,d,h1,h2,h3,h4⟩:=h;exact⟨k,d,h1,h2,h3,by omega⟩
theorem DefR.pre{W1 W2:World}{ds:List Deferred}(h:DefR W1 W2 ds)(hs:W.heap.size<=W1.heap.size):DefR W W2 ds:=h.imp id fun h=>h.pre hs
theorem DefR.post{B:Nat}{W1 W2:World}{ds:List Deferred}(h:DefR W W1 ds)(hb:BelowS B W1 W2):DefR W W2 ds:=by
 refine h.imp id ?_;rintro⟨k,d,h1,h2,h3,h4⟩;exact⟨k,d,h1,h2,hb.s _ _ h3 Y,h4⟩
def CodeEndR(B0:Bse)(st:St)(ρ:Rho)(W:World)(a:Act)(r:Ex × Env × St)(Q:Exit->Act->World->Prop):Prop :=
 ∀a' ρ' W',Goes W B0 st ρ W r.2.2 ρ' W'->EnvR (cx r.2.2 ρ' W' r.2.2.A.length) r.2.1 a'.tmps->a'.tmps.size=a.tmps.size->DefR W W' a'.defers->Q r.1.exit a' W'
theorem bv(hm:P.follows .mixedOrders=true)(hT:TabOk P T){hs h1 h2:List Hint}{ps:Array Tmp}{pa pb:PC}(ha:YA P nt hs asg=some (pa,h1))(hb:YA P nt h1 bd=some (pb,h2))
 (hps:∀p∈ps.toList,p<nt) {g:Operand} {go:Opd} (hg:opd g=some go) {r:Ex × Env × St} {Q:Exit->Act->World->Prop}
 (h:BG (fun lv=>S (A5 T lv (Ao (S T) itS nt ⟨go,ps.toList,pa,pb⟩))) nt ⟨go,ps.toList,pa,pb⟩ e st=some r) (hg0:KG P W0 B0) (hr0:Rel W0 B0 st ρ W) (he:EnvR (cx st ρ W st.A.length) e a.tmps)
 (hn:nt<=a.tmps.size) (hd:a.defers=[]) (hQ:CodeEndR B0 st ρ W a r Q):(Code.rangeFunc g ps asg bd).wpIn (fen none) 0 P Q a W:=by
 unfold BG at h;split at h
 case h_2=>simp at h
 rename_i f first cap hfe
 split at h
 case isFalse=>simp at h
 rename_i hf;simp only[oB,EG,Je,Ar,oJ]at h;obtain⟨⟨v2,s2⟩,hcall,⟨v3,s3⟩,⟨⟨A',r0⟩,hp,hp2⟩,rfl⟩:=h;simp only[jP]at hp2;obtain⟨rfl,rfl⟩:=hp2;have hfv:=Zl hg he;have hfe':go.get e=.func (.func f) first cap:=hfe
 rw[hfe']at hfv;generalize hu:a.eval g=u at hfv;cases hfv with
 | @func _ _ hfn _ _ xs ys hl1 hl2 rf rc =>
 refine wpIn_rangeFunc fun fn _=>?_
 have g1:=Gz hr0.rebase (.deferred (some []));have g2:=Gz g1.rel (.loop { state:=.ready,pending:=none,fn,tmps:=a.tmps,params:=ps,assign:=asg,body:=bd,defers:=W.heap.size });have g12:=g1.trans g2;clear g1 g2;generalize hW2:(W.alloc (.deferred (some []))).alloc (.loop { state:=.ready,pending:=none,fn,tmps:=a.tmps,params:=ps,assign:=asg,body:=bd,defers:=W.heap.size })=W2 at *;have hrec:W2.heap[W.heap.size+1]?=some (.loop { state:=.ready,pending:=none,fn,tmps:=a.tmps,params:=ps,assign:=asg,body:=bd,defers:=W.heap.size }):=by
  rw[<- hW2];have:=World.alloc_heap_new (W.alloc (.deferred (some []))) (.loop { state:=.ready,pending:=none,fn,tmps:=a.tmps,params:=ps,assign:=asg,body:=bd,defers:=W.heap.size });rwa [World.size_alloc]at this
 have hdef:W2.heap[W.heap.size]?=some (.deferred (some [])):=by
  rw[<- hW2,Below.heap_alloc _ _ _ (by simp)];exact World.alloc_heap_new W _
 have hpush:=Sub.push st;have hpl:st.push.A.length=st.A.length+1:=by simp[St.push]
 generalize hyd:(fun k=>if k=st.A.length+1 then (W.heap.size+1,a.tmps.toList.take nt) else ρ.yl k:Nat->Nat × List Value)=y;have hylv:y (st.A.length+1)=(W.heap.size+1,a.tmps.toList.take nt):=by rw[<- hyd];exact if_pos Y
 have hyo:∀k,k<st.A.length+1->y k=ρ.yl k:=fun k hk=>by rw[<- hyd];exact if_neg (by omega)
 have hr3:Rel W2 ⟨B0.n,y⟩ st.push ⟨ρ.at_,y⟩ W2:=((hpush.rel g12.rel).rebase).yls (lv:=st.A.length+1) hyo (fun lv' ix b hgg=>by have:=hpush.le _ _ _ hgg;omega)
 have hle:(cx st ρ W st.A.length).le (cx st.push ⟨ρ.at_,y⟩ W2 st.push.A.length) :=
  (g12.ev.le _ (Nat.le_refl _)).trans ((hpush.cx (Nat.le_refl _)).trans ((EI (lv:=st.A.length+1) (by omega) hyo).trans (Bd (by omega))))
 have hcaps:=bn (he.mono hle) hn
 have hargs:RL (cx st.push ⟨ρ.at_,y⟩ W2 st.push.A.length) (first++[.func (.yield (st.A.length+1)) [] (BS nt e)]++cap) (xs++[Value.func (.yield (W.heap.size+1)) #[] #[]]++ys) :=
  (RL.append (RL.mono ⟨hl1,rf⟩ hle) (.cons (.yld ⟨by omega,hylv⟩ hcaps.1 hcaps.2) (.nil _))).append (RL.mono ⟨hl2,rc⟩ hle)
 have hO:=Kl hm (K:=KY nt (st.A.length+1) ps asg bd) (R9 hT (R8 hm hT (g:=go) (lv:=st.A.length+1) ha hb hps));have hK:KY nt (st.A.length+1) ps asg bd W2 ⟨B0.n,y⟩:=⟨fn,a.tmps,W.heap.size,hn,by show (y _).2=_;rw[hylv],by show W2.heap[(y _).1]?=_;rw[hylv];exact hrec⟩
 have hc:=(hO.calls hcall ⟨hK,((hg0.rel hr0).below g12.rel.below (Nat.le_refl _)).below (.refl _ _) (Nat.le_refl _)⟩ hr3 (HC hargs)).1 hf;have hent:=hO.enter hf hcall;refine⟨W.heap.size+1,[{ target:=.collected W.heap.size,args:=#[] }],W2,{ target:=.fn (.func f) ys.toArray,args:=xs.toArray++#[.func (.yield (W.heap.size+1)) #[] #[]] },W2,f,(xs++[Value.func (.yield (W.heap.size+1)) #[] #[]]++ys).toArray,W2,?_,?_,fun _ _=>trivial,?_,fun h=>absurd h (by simp[fen,Fence.wide]),?_⟩
 ·rw[<- hW2];exact run_enterLoop_outer fn a.tmps ps asg bd
 ·have hcv:Act.eval a (.const (.func (.yield (W.heap.size+1)) #[] #[]))=.func (.yield (W.heap.size+1)) #[] #[]:=rfl
  simp only[resolve,rangeCall,hu,Deferred.ofValue,Sem.run_pure,List.map_toArray,jC,List.map_nil,hcv]
 ·have:=hent (xs++[Value.func (.yield (W.heap.size+1)) #[] #[]]++ys).toArray W2
  simp only[invoke];have e1:xs.toArray++#[Value.func (.yield (W.heap.size+1)) #[] #[]]++ys.toArray=(xs++[Value.func (.yield (W.heap.size+1)) #[] #[]]++ys).toArray:=by simp
  rw[e1];exact this
 refine (callsIn_wide (n:=0-1)).2 (hc.mono ?_);rintro e' W3 ⟨x,ρ2,rfl,g,hv⟩;have hW3:=g.rel.below.s _ _ hrec rfl;refine⟨none,_,run_endLoop hW3 (by simp),?_⟩;obtain⟨g3,_⟩:=C9 g.rel g.ev hp;have hlen:A'.length=st.A.length:=g3.ev.len;have hy2:∀k,k<st.A.length+1->ρ.yl k=ρ2.yl k:=fun k hk=>by rw[g.rel.yl];exact (hyo k hk).symm
 have hr5:=g3.rel.yls (y:=ρ.yl) (lv:=st.A.length+1) hy2 (fun lv' ix b hgg=>by have:=St.get_le hgg;simp only[hlen]at this;omega);have hB:(⟨B0.n,ρ.yl⟩:Bse)=B0:=by rw[hr0.yl]
 have hr5':Rel W2 B0 ⟨A',r0.1,r0.2⟩ ⟨ρ2.at_,ρ.yl⟩ W3:=by rw[<- hB];exact hr5
 have hbb:BelowS B0 W W3:=g12.rel.below.trans hr5'.below;have hr6:=hr5'.putO (o':=.loop { state:=.exhausted,pending:=none,fn,tmps:=a.tmps,params:=ps,assign:=asg,body:=bd,defers:=W.heap.size }) hW3 rfl rfl (R_ hbb (by omega) hr0.b0 _)
 have ev1:Ev st ρ W2 ⟨A',r0.1,r0.2⟩ ⟨ρ2.at_,ρ.yl⟩ W3 :=
  ⟨g3.ev.len,fun m hm=>(EI (lv:=st.A.length+1) (by omega) hyo).trans ((g3.ev.le m hm).trans (EI (lv:=st.A.length+1) (by omega) hy2)),g3.ev.old,g3.ev.ro,g3.ev.cur,rfl⟩
 have ev:=g12.ev.trans (ev1.trans (Ev.putO (o':=.loop { state:=.exhausted,pending:=none,fn,tmps:=a.tmps,params:=ps,assign:=asg,body:=bd,defers:=W.heap.size }) hW3 rfl rfl));refine hQ _ ⟨ρ2.at_,ρ.yl⟩ _ ⟨hr6,ev⟩ ?_ Y (.inr ⟨W.heap.size,_,by rw[hd];rfl,rfl,?_,Nat.le_refl _⟩)
 ·refine EnvR.mono he ?_
  show Cx.le _ (cx ⟨A',r0.1,r0.2⟩ _ _ A'.length)
  rw[hlen];exact ev.le _ (Nat.le_refl _)
 ·rw[World.putObj_heap_other (by omega)]
  exact g.rel.below.s _ _ hdef Y
end
section
variable {P:Program}{T:Tab}{W0:World}{B0:Bse}{st st':St}{ρ:Rho}{W:World}{e:Env}{a:Act}
noncomputable def oY(T:Tab)(nt:Nat)(rg:Rng):Nat->Orc:=fun lv=>S (A5 T lv (Ao (S T) itS nt rg))
theorem HH{F G:Run}(x:Option (Ex × Env × St)):(x.bind (JB F)).bind (JB G)=x.bind (JB fun e st=>(F e st).bind (JB G)):=by
 cases x with
 | none=>rfl
 | some x =>
  obtain⟨x,e,st⟩:=x;cases x<;>rfl
theorem bw{F G H:Run}(x:Option (Ex × Env × St)):x.bind (JB fun e st=>(F e st).bind (JB fun e st=>(G e st).bind (JB H)))=(x.bind (JB fun e st=>(F e st).bind (JB G))).bind (JB H):=by
 rw[HH]
 congr 2
 funext e st;rw[HH]
theorem CodeEndR.after{ρ1:Rho}{W1:World}{a1:Act}{r:Ex × Env × St}{Q:Exit->Act->World->Prop}(h:CodeEndR B0 st ρ W a r Q)(g:Goes W B0 st ρ W st1 ρ1 W1)(hs:a1.tmps.size=a.tmps.size):CodeEndR B0 st1 ρ1 W1 a1 r Q :=
 fun a' ρ' W' g' h1 h2 h3=>h a' ρ' W' (g.after g') h1 (h2.trans hs) (h3.pre g.rel.below.b.size)
theorem SH{hs:List Hint}{g:Operand}{ps:Array Tmp}{q:Rng × List Hint}(h:Bh P nt hs g ps asg bd=some q):
 ∃go pa pb h1 h2,q=(⟨go,ps.toList,pa,pb⟩,h2)/\opd g=some go/\YA P nt hs asg=some (pa,h1)/\YA P nt h1 bd=some (pb,h2)/\∀p∈ps.toList,p<nt:=by
 unfold Bh at h;split at h
 ·rename_i hall
  simp only[oB,oM]at h;obtain⟨go,h1,⟨pa,h2⟩,h3,⟨pb,h4⟩,h5,rfl⟩:=h;exact⟨go,pa,pb,h2,h4,rfl,h1,h3,h5,fun p hp=>of_decide_eq_true (List.all_eq_true.1 hall p hp)⟩
 ·simp at h
theorem SP{OT:Nat->Orc}{rg:Rng}{r:Ex × Env × St}(h:BG OT nt rg e st=some r):r.1=.norm:=by
 unfold BG at h;split at h
 ·split at h
  ·simp only[oB,EG,oJ]at h
   obtain⟨_,_,_,_,rfl⟩:=h;rfl
  ·simp at h
 ·simp at h
theorem SQ{O:Orc}{I:Run->Run}{OT:Nat->Orc}{rg:Rng}:Bg O I OT nt .skip rg .skip e st=BG OT nt rg e st:=by
 simp only[Bg,exec,oS,JB];cases h:BG OT nt rg e st with
 | none=>rfl
 | some r =>
  have:=SP h;obtain⟨x,e1,s1⟩:=r;simp only at this;subst this;rfl
theorem bz(hm:P.follows .mixedOrders=true)(hT:TabOk P T):∀(c:Code) (hs:List Hint) (p1:PC) (rg:Rng) (p2:PC) (hs':List Hint),toC P nt hs c=some ((p1,rg,p2),hs') ->
 ∀(e:Env) (st:St) (ρ:Rho) (W:World) (a:Act) (r:Ex × Env × St) (Q:Exit->Act->World->Prop),Bg (S T) itS (oY T nt rg) nt p1 rg p2 e st=some r->KG P W B0->Rel W B0 st ρ W->EnvR (cx st ρ W st.A.length) e a.tmps->nt<=a.tmps.size->a.defers=[] ->
  CodeEndR B0 st ρ W a r Q->c.wpIn (fen none) 0 P Q a W:=by
 have run:∀(c:Code) (hs hs':List Hint) (pc:PC),YA P nt hs c=some (pc,hs')->∀(e:Env) (st:St) (ρ:Rho) (W:World) (a:Act) (r:Ex × Env × St) (Q:Exit->Act->World->Prop),exec (S T) itS pc e st=some r->KG P W B0->Rel W B0 st ρ W ->
  EnvR (cx st ρ W st.A.length) e a.tmps->nt<=a.tmps.size->CodeEnd W B0 st ρ W a r Q->c.wpIn (fen none) 0 P Q a W:=by
  intro c hs hs' pc hc e st ρ W a r Q h hg hr he hn hQ;obtain⟨n,hx⟩:=Dw h;exact exec_ok (ro:=none) (By hm (K:=fun _ _=>True) hT.y n) ⟨trivial,hg⟩ hm n c hs hs' pc hc e st ρ W a r Q hx hr he hn hQ
 have range:∀(hs:List Hint) (g:Operand) (ps:Array Tmp) (asg bd:Code) (q:Rng × List Hint),Bh P nt hs g ps asg bd=some q ->
  ∀(e:Env) (st:St) (ρ:Rho) (W:World) (a:Act) (r:Ex × Env × St) (Q:Exit->Act->World->Prop),Bg (S T) itS (oY T nt q.1) nt .skip q.1 .skip e st=some r->KG P W B0->Rel W B0 st ρ W->EnvR (cx st ρ W st.A.length) e a.tmps->nt<=a.tmps.size->a.defers=[] ->
   CodeEndR B0 st ρ W a r Q->(Code.rangeFunc g ps asg bd).wpIn (fen none) 0 P Q a W:=by
  intro hs g ps asg bd q hq e st ρ W a r Q h hg hr he hn hd hQ;obtain⟨go,pa,pb,h1,h2,rfl,k1,k2,k3,k4⟩:=SH hq;rw[SQ]at h;exact bv hm hT k2 k3 k4 k1 h hg hr he hn hd hQ
 intro c;induction c with
 | rangeFunc g ps asg bd _ _ =>
  intro hs p1 rg p2 hs' hc e st ρ W a r Q h hg hr he hn hd hQ;have hc':(Bh P nt hs g ps asg bd).map (fun q=>(((.skip,q.1,.skip):PC × Rng × PC),q.2))=some ((p1,rg,p2),hs'):=by cases hs<;>exact hc
  simp only[oM,jP]at hc';obtain⟨q,hq,⟨rfl,rfl,rfl⟩,rfl⟩:=hc';exact range hs g ps asg bd q hq e st ρ W a r Q h hg hr he hn hd hQ
 | block id x _ =>
  intro hs p1 rg p2 hs' hc e st ρ W a r Q h hg hr he hn hd hQ;cases x with
  | rangeFunc g ps asg bd =>
   have hc':(Bh P nt hs g ps asg bd).map (fun q=>(((.skip,q.1,.skip):PC × Rng × PC),q.2))=some ((p1,rg,p2),hs'):=by cases hs<;>exact hc
   simp only[oM,jP]at hc';obtain⟨q,hq,⟨rfl,rfl,rfl⟩,rfl⟩:=hc';refine wpIn_block (range hs g ps asg bd q hq e st ρ W a r _ h hg hr he hn hd ?_);intro a' ρ' W' g' he' hs' hd';have:=hQ a' ρ' W' g' he' hs' hd';rw[SQ]at h;rw[SP h]at this ⊢;exact this
  | _=>cases hs<;>simp[toC]at hc
 | scope x ih =>
  intro hs p1 rg p2 hs' hc e st ρ W a r Q h hg hr he hn hd hQ;have hc':toC P nt hs x=some ((p1,rg,p2),hs'):=by cases hs<;>exact hc
  refine Ry (ih hs p1 rg p2 hs' hc' e st ρ W a r _ h hg hr he hn hd ?_);intro a' ρ' W' g' he' hs' hd';have:=hQ a' ρ' W' g' he' hs' hd';cases hx:r.1<;>rw[hx]at this<;>exact this
 | seq x y ihx ihy =>
  intro hs p1 rg p2 hs' hc e st ρ W a r Q h hg hr he hn hd hQ;have hc':(match YA P nt hs x with
   | some r=>(toC P nt r.2 y).map fun q=>(((.seq r.1 q.1.1,q.1.2.1,q.1.2.2):PC × Rng × PC),q.2)
   | none=>(toC P nt hs x).bind fun q=>(YA P nt q.2 y).map fun r=>((q.1.1,q.1.2.1,.seq q.1.2.2 r.1),r.2))=some ((p1,rg,p2),hs'):=by cases hs<;>exact hc
  refine wpIn_seq ?_;cases hx:YA P nt hs x with
  | some q =>
   obtain⟨px,h1⟩:=q;rw[hx]at hc';simp only[oM,jP]at hc';obtain⟨⟨⟨q1,q2,q3⟩,h2⟩,hy,⟨rfl,rfl,rfl⟩,rfl⟩:=hc';simp only[Bg,exec]at h;rw[HH]at h;simp only[oB]at h;obtain⟨⟨xx,e1,st1⟩,hx1,hx2⟩:=h;refine run x hs h1 px hx e st ρ W a (xx,e1,st1) _ hx1 hg hr he hn ?_;intro a' ρ' W' g' he' hs' hd';cases xx with
   | norm=>exact ihy h1 q1 q2 q3 h2 hy e1 st1 ρ' W' a' r Q hx2 (hg.rel g'.rel) g'.rel.rebase he' (by omega) (hd'.trans hd) (hQ.after g' hs')
   | ex id=>simp only[JB,oJ]at hx2;subst hx2;exact hQ a' ρ' W' g' he' hs' (.inl (hd'.trans hd))
   | ret=>simp only[JB,oJ]at hx2;subst hx2;exact hQ a' ρ' W' g' he' hs' (.inl (hd'.trans hd))
  | none =>
   rw[hx]at hc';simp only[oB,oM,jP]at hc';obtain⟨⟨⟨q1,q2,q3⟩,h2⟩,hy,⟨py,h3⟩,hz,⟨rfl,rfl,rfl⟩,rfl⟩:=hc';simp only[Bg,exec]at h;rw[bw]at h;simp only[oB (f:=JB (exec (S T) itS py))]at h;obtain⟨⟨xx,e1,st1⟩,hx1,hx2⟩:=h;refine ihx hs q1 q2 q3 h2 hy e st ρ W a (xx,e1,st1) _ hx1 hg hr he hn hd ?_;intro a' ρ' W' g' he' hs' hd';cases xx with
   | norm =>
    refine run y h2 h3 py hz e1 st1 ρ' W' a' r Q hx2 (hg.rel g'.rel) g'.rel.rebase he' (by rw[hs'];exact hn) ?_;intro a'' ρ'' W'' g'' he'' hs'' hd'';exact hQ a'' ρ'' W'' (g'.after g'') he'' (hs''.trans hs') (by rw[hd''];exact hd'.post g''.rel.below)
   | ex id=>simp only[JB,oJ]at hx2;subst hx2;exact hQ a' ρ' W' g' he' hs' hd'
   | ret=>simp only[JB,oJ]at hx2;subst hx2;exact hQ a' ρ' W' g' he' hs' hd'
 | _=>intro hs p1 rg p2 hs' hc;cases hs<;>simp[toC]at hc
theorem SR{F:Run}(hx:FrX F)(e:Env)(rs:List RV):FrP fun st=>(F e st.push).bind (QT false rs):=by
 have h1:FrP fun st=>(F e st).bind fun x=>match x.1 with
  | .ex _=>none
  | _=>(QE x.2.2 x.2.1 rs).bind fun v=>ZI Zs x.2.2.A.length x.2.2 v:=by
  intro st r hr;simp only[oB]at hr;obtain⟨x,q1,q2⟩:=hr;obtain⟨k1,k2⟩:=hx.to q1;have key:∀x:Ex × Env × St,(match x.1 with
   | .ex _=>none
   | _=>(QE x.2.2 x.2.1 rs).bind fun v=>ZI Zs x.2.2.A.length x.2.2 v)=some r->Qz r.2.A=Qz x.2.2.A/\∀M i B,HoleIn x.2.2.A M i->(match x.1 with
   | .ex _=>none
   | _=>(QE (x.2.2.fillA M i B) x.2.1 rs).bind fun v=>ZI Zs (x.2.2.fillA M i B).A.length (x.2.2.fillA M i B) v)=some (r.1,r.2.fillA M i B):=by
   rintro⟨x,e,s⟩ q;have main:(QE s e rs).bind (fun v=>ZI Zs s.A.length s v)=some r->Qz r.2.A=Qz s.A/\∀M i B,HoleIn s.A M i->(QE (s.fillA M i B) e rs).bind (fun v=>ZI Zs (s.fillA M i B).A.length (s.fillA M i B) v)=some (r.1,r.2.fillA M i B):=by
    intro q;simp only[oB]at q;obtain⟨v,w1,w2⟩:=q;obtain⟨l1,l2⟩:=(LO.slV Zs s.A.length v).fr s r w2;refine⟨l1,fun M i B hh=>?_⟩;have:=l2 M i B hh;simp only[St.fillA,Zu]at this ⊢;have w3:=HB _ _ _ _ w1 M i B hh;simp only[St.fillA]at w3;rw[w3,oS];exact this
   cases x with
   | norm=>exact main q
   | ret=>exact main q
   | ex id=>simp at q
  obtain⟨m1,m2⟩:=key x q2;refine⟨m1.trans k1,fun M i B hh=>?_⟩;simp only[k2 M i B hh,oS];exact m2 M i B (hh.of_tags k1)
 refine (EC h1).congr fun st=>?_
 simp only[Option.bind_assoc]
 congr 1
 funext x;obtain⟨x,e,s⟩:=x;cases x<;>simp only[QT,jB,if_false,Option.bind_assoc,AY,Option.bind_none]<;>rfl
theorem b_{OT:Nat->Orc}(hO:∀lv,FrO (OT lv))(nt:Nat)(rg:Rng):FrX (BG OT nt rg):=by
 refine FrX.of fun e st r hr=>?_
 unfold BG at hr ⊢;split at hr
 case h_2=>simp at hr
 rename_i f first cap hfe
 split at hr
 case isFalse=>simp at hr
 rename_i hf;simp only[oB,EG,oJ]at hr;obtain⟨q,hq,⟨v,s2⟩,hl,rfl⟩:=hr;obtain⟨k1,k2⟩:=EC ((hO (st.A.length+1)) f (ZS (first++[.func (.yield (st.A.length+1)) [] (BS nt e)]++cap))) st (v,s2) (by simp only[hq,oS];exact hl);refine⟨k1,fun M i B hh=>?_⟩;have:=k2 M i B hh;have hlen:(st.fillA M i B).A.length=st.A.length:=by simp[St.fillA,Zu]
 simp only[oB]at this;obtain⟨q2,hq2,hl2⟩:=this;simp only[if_pos hf,hlen,hq2,oS,EG,hl2]
theorem cA(hm:P.follows .mixedOrders=true)(hT:TabOk P T){OT:Nat->Orc}(hO:∀lv,FrO (OT lv))(nt:Nat)(p1:PC)(rg:Rng)(p2:PC):FrX (Bg (S T) itS OT nt p1 rg p2) :=
 CZ (EJ hm hT p1) fun x r hr=>DC (CZ (b_ hO nt rg) fun x r hr=>DC (EJ hm hT p2) hr) hr
theorem cB:∀(c:Code) (hs:List Hint) (q:(PC × Rng × PC) × List Hint),toC P nt hs c=some q->∃h0 g ps asg bd h1,Bh P nt h0 g ps asg bd=some (q.1.2.1,h1):=by
 intro c;induction c with
 | rangeFunc g ps asg bd _ _ =>
  intro hs q hc;have hc':(Bh P nt hs g ps asg bd).map (fun q=>(((.skip,q.1,.skip):PC × Rng × PC),q.2))=some q:=by cases hs<;>exact hc
  simp only[oM]at hc';obtain⟨⟨r,h1⟩,hr,rfl⟩:=hc';exact⟨hs,g,ps,asg,bd,h1,hr⟩
 | block id x _ =>
  intro hs q hc;cases x with
  | rangeFunc g ps asg bd =>
   have hc':(Bh P nt hs g ps asg bd).map (fun q=>(((.skip,q.1,.skip):PC × Rng × PC),q.2))=some q:=by cases hs<;>exact hc
   simp only[oM]at hc';obtain⟨⟨r,h1⟩,hr,rfl⟩:=hc';exact⟨hs,g,ps,asg,bd,h1,hr⟩
  | _=>cases hs<;>simp[toC]at hc
 | scope x ih=>intro hs q hc;exact ih hs q (by cases hs<;>exact hc)
 | seq x y ihx ihy =>
  intro hs q hc;have hc':(match YA P nt hs x with
   | some r=>(toC P nt r.2 y).map fun q=>(((.seq r.1 q.1.1,q.1.2.1,q.1.2.2):PC × Rng × PC),q.2)
   | none=>(toC P nt hs x).bind fun q=>(YA P nt q.2 y).map fun r=>((q.1.1,q.1.2.1,.seq q.1.2.2 r.1),r.2))=some q:=by cases hs<;>exact hc
  cases hx:YA P nt hs x with
  | some r =>
   rw[hx]at hc';simp only[oM]at hc';obtain⟨q',hy,rfl⟩:=hc';exact ihy _ q' hy
  | none =>
   rw[hx]at hc';simp only[oB,oM]at hc';obtain⟨q',hy,r,_,rfl⟩:=hc';exact ihx _ q' hy
 | _=>intro hs q hc;cases hs<;>simp[toC]at hc
theorem Kr(hm:P.follows .mixedOrders=true)(hT:TabOk P T){hs:List Hint}{rf:RF}(hf:P.funcs[f]?=some fn)(hc:FW P hs fn=some rf):Bf P f (.base (rfO T rf)):=by
 simp only[FW,oB,oM]at hc;obtain⟨c,hb,⟨⟨p1,rg,p2⟩,hs'⟩,hcc,rs,hrs,rfl⟩:=hc;obtain⟨h0,g,ps,asg,bd,h1,hrg⟩:=cB c hs _ hcc;obtain⟨go,pa,pb,i1,i2,heq,k1,k2,k3,k4⟩:=SH hrg;simp only[jP]at heq;have hO:∀lv,FrO (oY T fn.ntmps rg lv):=fun lv=>by
  have:=(Kl hm (K:=KY fn.ntmps lv ps asg bd) (R9 hT (R8 hm hT (g:=go) (lv:=lv) k2 k3 k4))).frame;unfold oY;rw[heq.1];exact this
 refine⟨fun args=>SR (cA hm hT hO fn.ntmps p1 rg p2) _ rs,?_⟩;intro args st v st' h W0 B0 ρ W xs hg hr hx;have h:(Bg (S T) itS (oY T fn.ntmps rg) fn.ntmps p1 rg p2 (QB 0 args) st.push).bind (QT false rs)=some (v,st'):=h;simp only[oB]at h;obtain⟨⟨ex,e1,st1⟩,hex,hend⟩:=h;refine (callsIn_wide (n:=0)).1 (callsIn_of_wp_marks (F:=.wide) hf hb trivial ?_);have hsz:fn.ntmps<=(xs.toArray++Array.replicate (fn.ntmps-xs.toArray.size) Go.undef).size:=by simp;omega
 have hpl:st.push.A.length=st.A.length+1:=by simp[St.push]
 have hpush:=Sub.push st
 refine bz (B0:=B0) hm hT c hs p1 rg p2 hs' hcc (QB 0 args) st.push ρ W { tmps:=xs.toArray++Array.replicate (fn.ntmps-xs.toArray.size) Go.undef,defers:=[] } (ex,e1,st1) _ hex (hg.rel hr) (hpush.rel hr).rebase
  (FU ((hx.mono (hpush.cx (Nat.le_refl _))).mono (Bd (by omega))) _) hsz rfl ?_
 intro a' ρ' W' g he' _ hd'
 have fin:∀W2,Goes W B0 st.push ρ W st1 ρ' W2->EnvR (cx st1 ρ' W2 st1.A.length) e1 a'.tmps->(QE st1 e1 rs).bind (AY st1)=some (v,st') ->
  LeavesInM .wide 0 P fn a'.tmps (fun e W'=>∃x ρ',e=.returned x/\Goes W0 B0 st ρ W st' ρ' W'/\R (cx st' ρ' W' st'.A.length) v x) [] .returning W2:=by
  intro W2 g he' hend;simp only[oB,AY,Je,Ar,oJ,jP]at hend;obtain⟨v0,hv,⟨v1,st2⟩,hseal,⟨A',r0⟩,hpop,rfl,rfl⟩:=hend;obtain⟨x,hx,hxv⟩:=FT hrs hv g.rel he';have hl1:st1.A.length=st.A.length+1:=by rw[g.ev.len,hpl]
  obtain⟨g2,hv2⟩:=X8 Zs st1.A.length st1 v0 x v1 st2 g.rel (by omega) hxv hseal;obtain⟨g3,hle⟩:=C9 g2.rel (g.ev.trans g2.ev) hpop;refine⟨x,hx,x,ρ',rfl,⟨g3.rel.base (hr.below.trans g3.rel.below),g3.ev⟩,?_⟩;rw[hl1]at hv2;have hl3:(⟨A',r0.1,r0.2⟩:St).A.length=st.A.length:=g3.ev.len;rw[hl3];exact R.mono (show R (cx st2 ρ' W2 st.A.length) v1 x from hv2) hle
 have key:(QE st1 e1 rs).bind (AY st1)=some (v,st')->LeavesInM .wide 0 P fn a'.tmps (fun e W'=>∃x ρ',e=.returned x/\Goes W0 B0 st ρ W st' ρ' W'/\R (cx st' ρ' W' st'.A.length) v x) a'.defers .returning W':=by
  intro hend;rcases hd' with q|⟨k,d,q1,q2,q3,q4⟩
  ·rw[q];exact fin W' g he' hend
  ·rw[q1]
   refine⟨by simp,.inl ⟨k,_,q2,run_takeDeferred q3,?_⟩⟩;refine fin _ ⟨g.rel.putO q3 Y Y (R_ g.rel.below q4 hr.b0 _),g.ev.trans (Ev.putO q3 Y Y)⟩ ?_ hend;rw[EH q3 rfl rfl];exact he'
 cases ex with
 | norm=>exact key (by simpa [QT] using hend)
 | ret=>exact key (by simpa [QT] using hend)
 | ex id=>simp[QT]at hend
end
section
open Go.Shelf Go.RowKit Go.Lib Go.Proofs
variable {P:Program}{ρ:Ren}
set_option maxHeartbeats 2000000 in
set_option maxRecDepth 100000 in
theorem cC(L:SlLaysE0.n41 P ρ)(i0:TypeInfo)(z:Value)(size bytes:Nat)(hi:P.info? (ρ.t 23)=some i0)(hz0:i0.zero=some z)(hz1:i0.size=size)(hz2:i0.bytes=bytes)(hzs:z.cells.size=size)(hsz:0<size)
 (z23:∀w,(Go.sizeOf (ρ.t 23)).run P w=.ok size w) (ad:Addr) (n c:Nat) (news:List Value) (w:World) (hl:news.length=n*size) (hn:n<=maxLen) (hbig:n*bytes<=140737488355328)
 (hc:∀j u,news[j]?=some u->w.cell? (ad.add j)=some u) (h1:∀u∈news,u.oneCell'=true) :
 Calls P (ρ.f 41) #[.slice (some ad) n c] w fun e w'=>∃v',e=.returned v'/\w'.ownsRow w.heap.size (ρ.t 23) size v' n news/\Below w.heap.size w w':=by
 have mixed:=L.mixed;have t4:=L.t4;have a4:=L.a4;have z4:=L.z4;have v4:=L.v4;have t22:=L.t22;have a22:=L.a22;have z22:=L.z22;have v22:=L.v22;have q22:∀(w:World) (a:Option Addr) (n c n' c':Nat),(binOp .eql (ρ.t 22) (.slice a n c) (.slice none n' c')).run P w=.ok (.bool a.isNone) w:=fun w a n c n' c'=>Lib.run_eql_slice_nil w _ _ a n c n' c' L.t22
 have u22:∀w,Sem.run P (underlying (ρ.t 22)) w=.ok (TypeDesc.slice (ρ.t 23)) w:=run_underlying t22;have A:Aside (∀j u,news[j]?=some u->w.cell? (ad.add j)=some u):=hc;clear hc;obtain⟨_,_,FG⟩:=L.f41
 go_enter FG,SlBodyN.n41_ntmps ρ
 go_wp2_with (at_builtin;refine wpList_append_own _ Y _ _ (ρ.t 22) Y w.heap.size (ρ.t 23) i0 z size bytes t22 hi hz0 hz1 hz2 hzs hsz _ _ _ Y (World.ownsRow_made w #[] 0 (Nat.le_refl _) (Nat.zero_le _) (by simp)) ad n c news Y ?qc1 ?qc2 ?qc3 ?qc4 ?qc5 ?qc6 ?_)
 case qc1=>exact hl
 case qc2 =>
  intro j u hj;exact Lib.cell?_alloc_some _ (A.out j u hj)
 case qc3=>exact h1
 case qc4=>rw[Nat.zero_add];exact hn
 case qc5=>rw[Nat.zero_add];exact hbig
 case qc6=>simp
 intro v' w1 hown hgrow hnil
 go_wp2
 go_ret
 refine⟨v',rfl,by simpa using hown,?_⟩;exact ((Below.refl _ w).alloc (Nat.le_refl _) _).grown hgrow (by simp) (by intro k hk;simp[Value.ownBlock]at hk;omega)
end
def DE(w:Nat):LV->St->OS
 | [.lit es],st=>if Qy w es=true/\es.length<=65536 then some (.lit es,st) else none
 | [.ref lv ix ver s n],st=>(AG ver s n (st.get lv ix)).bind fun es=>if (Qy w es=true/\es.length<=65536)/\es.all (imm 6)=true then some (.lit es,st) else none
 | _,_=>none
section
variable {P:Program}{W0:World}{B0:Bse}{st:St}{ρ:Rho}{W W':World}
theorem cD(hw:∀x∈xs,x.cells.size=w){bb oo:Nat}(hlies:∀i x,xs[i]?=some x->Lies (QH W) bb (oo+i*w) x){j:Nat}{v:Value}(hv:(Zo xs)[j]?=some v):
 W.cell? ⟨bb,oo+j,none⟩=some v:=by
 have hj:=Zc hv;rw[Xi hw]at hj
 have hw0 : 0 < w := by rcases Nat.eq_zero_or_pos w with h0 | h0; · subst h0; omega
                        ·exact h0
 have hi:j / w<xs.length:=Nat.div_lt_of_lt_mul (by rw[Nat.mul_comm];exact hj);have hx:=jE hi;have hxw:=hw _ (List.getElem_mem hi);have hjm:j % w<(xs[j / w]).cells.size:=by rw[hxw];exact Nat.mod_lt _ hw0
 have hget:=D3 hw hx (j:=j % w) (v:=(xs[j / w]).cells[j % w]) (Array.getElem?_eq_getElem hjm);have hdm:j / w*w+j % w=j:=by rw[Nat.mul_comm];exact Nat.div_add_mod j w
 rw[hdm,hv]at hget;simp only[oJ]at hget;have:=hlies _ _ hx (j % w) _ (Array.getElem?_eq_getElem hjm);rw[<- hget]at this;unfold QH at this;rw[show oo+j=oo+j / w*w+j % w by omega];exact this
theorem SS{T:TypeId}
 (h1:∀(ad:Addr) (n c:Nat) (news:List Value) (W:World),news.length=n*w->n<=65536->(∀j u,news[j]?=some u->W.cell? (ad.add j)=some u)->(∀u∈news,u.oneCell'=true) ->
  Calls P f #[.slice (some ad) n c] W fun e W'=>∃v',e=.returned v'/\W'.ownsRow W.heap.size T w v' n news/\Below W.heap.size W W')
 (hr:Rel W0 B0 st ρ W) {es:LV} {b o c:Nat} {xs:List Value} (hsw:Qy w es=true) (hn:es.length<=65536) (hpos:0<es.length) (hv:RL (cx st ρ W st.A.length).pure es xs)
 (hl:∀i x,xs[i]?=some x->Lies (QH W) b (o+i*w) x) :
 Calls P f #[.slice (some ⟨b,o,none⟩) es.length c] W fun e W'=>∃x ρ',e=.returned x/\Goes W0 B0 st ρ W st ρ' W'/\R (cx st ρ' W' st.A.length) (.lit es) x:=by
 have hwide:∀(i:Nat) (x:Value),xs[i]?=some x->x.cells.size=w/\∀y∈x.cells.toList,y.oneCell'=true:=by
  intro i x hx;have hi:=Zc hx;rw[<- hv.1]at hi;exact (hv.2 i _ x (jE hi) hx).wide (FJ _) (D8 hsw (List.getElem_mem hi))
 have hsz:∀x∈xs,x.cells.size=w:=by
  intro x hx;obtain⟨i,hi⟩:=List.getElem?_of_mem hx;exact (hwide i x hi).1
 have hcells:∀j u,(Zo xs)[j]?=some u->W.cell? ((⟨b,o,none⟩:Addr).add j)=some u:=by
  intro j u hj;rw[Az];exact cD hsz hl hj
 have hone:∀u∈Zo xs,u.oneCell'=true:=by
  intro u hu;simp only[Zo,List.mem_flatMap]at hu;obtain⟨y,hy,hyu⟩:=hu;obtain⟨i,hi⟩:=List.getElem?_of_mem hy;exact (hwide i y hi).2 u hyu
 refine (h1 _ es.length c (Zo xs) W (by rw[Xi hsz,hv.1]) hn hcells hone).mono ?_;rintro e W' ⟨v',rfl,hown,hbel⟩;refine⟨_,ρ,rfl,Ko hr hbel,?_⟩;rcases hown.2 with⟨_,hz⟩|⟨g,cap,cur,rfl,hg,hrow,hcap,_,hcs,htake⟩
 ·omega
 ·have hq:=Ko hr hbel
  have:=FI (C:=cx st ρ W' st.A.length) (es:=es) (xs:=xs) (b:=g) (o:=0) (w:=w) (c:=cap) (a:=some ⟨g,0,none⟩) (hv.mono (hq.ev.le _ (Nat.le_refl _)).pure) ?_ hcap (fun _=>rfl)
  ·exact this
  ·intro i x hx
   refine⟨hsz x (jM hx),fun j u hu=>?_⟩;have hfl:=D3 hsz hx hu;have hcell:=hown.cells (g:=g) rfl _ _ hfl;rw[Az]at hcell;refine⟨by rw[show 0+i*w+j=0+(i*w+j) by omega];exact hcell,?_⟩;rintro⟨lv',ix',w2,ver',es',hg',h2,h3,h4⟩;have hm:=(hr.arr _ _ _ _ _ hg').mem (0+i*w+j-(ρ lv' ix').o) (by omega);obtain⟨y,hy⟩:=Option.isSome_iff_exists.1 hm.2.1;have:=D0 (W:=W) (b:=(ρ lv' ix').b) hy;omega
theorem ST{T:TypeId}
 (h0:∀(n c:Nat) (W:World),Calls P f #[.slice none n c] W fun e W'=>e=.returned (.slice none 0 0)/\W'=W)
 (h1:∀(ad:Addr) (n c:Nat) (news:List Value) (W:World),news.length=n*w->n<=65536->(∀j u,news[j]?=some u->W.cell? (ad.add j)=some u)->(∀u∈news,u.oneCell'=true) ->
  Calls P f #[.slice (some ad) n c] W fun e W'=>∃v',e=.returned v'/\W'.ownsRow W.heap.size T w v' n news/\Below W.heap.size W W')
 (hr:Rel W0 B0 st ρ W) (a:Option Addr) (c:Nat) :
 Calls P f #[.slice a 0 c] W fun e W'=>∃x ρ',e=.returned x/\Goes W0 B0 st ρ W st ρ' W'/\R (cx st ρ' W' st.A.length) (.lit []) x:=by
 cases a with
 | none =>
  refine (h0 0 c W).mono ?_;rintro e W' ⟨rfl,rfl⟩;exact⟨_,ρ,rfl,.refl hr,.lit0 _ _⟩
 | some ad =>
  refine (h1 ad 0 c [] W (by simp) (by omega) (by simp) (by simp)).mono ?_;rintro e W' ⟨v',rfl,hown,hbel⟩;refine⟨_,ρ,rfl,Ko hr hbel,?_⟩;rcases hown.2 with⟨rfl,_⟩|⟨g,cap,cur,rfl,_⟩
  ·exact .lit0 _ _
  ·exact .lit0 _ _
theorem cE{T:TypeId}
 (h0:∀(n c:Nat) (W:World),Calls P f #[.slice none n c] W fun e W'=>e=.returned (.slice none 0 0)/\W'=W)
 (h1:∀(ad:Addr) (n c:Nat) (news:List Value) (W:World),news.length=n*w->n<=65536->(∀j u,news[j]?=some u->W.cell? (ad.add j)=some u)->(∀u∈news,u.oneCell'=true) ->
  Calls P f #[.slice (some ad) n c] W fun e W'=>∃v',e=.returned v'/\W'.ownsRow W.heap.size T w v' n news/\Below W.heap.size W W') :
 Bf P f (.base (DE w)):=by
 refine⟨fun args st r hr=>?_,?_⟩
 ·unfold DE at hr ⊢
  simp only at hr ⊢;split at hr
  ·split at hr
   ·rename_i hc
    simp only[oJ]at hr;subst hr;exact⟨rfl,fun M i B hh=>by rw[if_pos hc]⟩
   ·simp at hr
  ·rename_i lv ix ver s n
   simp only[oB]at hr;obtain⟨es,he,hr⟩:=hr;split at hr
   ·rename_i hc
    simp only[oJ]at hr;subst hr;refine⟨rfl,fun M i B hh=>?_⟩;have he':elems (st.fillA M i B) (.ref lv ix ver s n)=some es:=(Qa hh).elems (x:=.ref lv ix ver s n) he;simp only[elems]at he';rw[he',oS,if_pos hc]
   ·simp at hr
  ·simp at hr
 intro args st v st' h W0 B0 ρ W xs _ hr hx;unfold DE at h;split at h
 ·rename_i es
  split at h
  ·rename_i hc
   obtain⟨hsw,hn⟩:=hc;simp only[oJ,jP]at h;obtain⟨rfl,rfl⟩:=h;obtain⟨x,ys,rfl,hx1,hx2⟩:=hx.cons_inv;obtain rfl:=hx2.nil_inv;obtain⟨a,c,rfl,hlc,hk⟩:=C_ hx1;rcases Nat.eq_zero_or_pos es.length with hz|hpos
   ·have:es=[]:=List.length_eq_zero_iff.1 hz
    subst this;exact ST h0 h1 hr a c
   ·rcases hk with rfl|⟨b,o,w',vs,rfl,hv,hl⟩
    ·simp at hpos
    have hww:w'=w:=by
     have:=(hl 0 hpos).1;rw[((hv 0 _ (jE hpos)).wide (FJ _) (D8 hsw (List.getElem_mem hpos))).1]at this;exact this.symm
    subst hww;refine SS h1 hr (xs:=(List.range es.length).map vs) hsw hn hpos ⟨by simp,fun i e x he hx=>?_⟩ fun i x hx=>?_
    ·have hi:=Zc he
     rw[jG,List.getElem?_range hi]at hx;simp only[Option.map_some,oJ]at hx;subst hx;exact hv i e he
    ·have hi:=Zc hx
     rw[List.length_map,List.length_range]at hi;rw[jG,List.getElem?_range hi]at hx;simp only[Option.map_some,oJ]at hx;subst hx;exact (hl i hi).2.mono fun _ _ _ q=>q.1
  ·simp at h
 ·rename_i lv ix ver s n
  simp only[oB]at h;obtain⟨es,he,h⟩:=h;split at h
  ·rename_i hc
   obtain⟨⟨hsw,hn⟩,him⟩:=hc;simp only[oJ,jP]at h;obtain⟨rfl,rfl⟩:=h;obtain⟨x,ys,rfl,hx1,hx2⟩:=hx.cons_inv;obtain rfl:=hx2.nil_inv;cases hx1 with
   | ref hp =>
    obtain⟨_,_,_,a,c,rfl,hp⟩:=hp;unfold AG at he;split at he
    ·rename_i w2 ver' es0 hg
     split at he
     ·rename_i hc
      obtain⟨rfl,hsn⟩:=hc;simp only[oJ]at he;obtain⟨p1,p2,p3⟩:=hp w2 es0 hg;have hlen:es.length=n:=by rw[<- he];simp;omega
      rcases Nat.eq_zero_or_pos n with hz|hpos
      ·subst hz
       have:es=[]:=List.length_eq_zero_iff.1 hlen;subst this;exact ST h0 h1 hr a c
      ·have aok:=hr.arr _ _ _ _ _ hg
       have hle:=aok.len;obtain⟨vs,hvs,hlies⟩:=aok.vals;have hRL:RL (cx st ρ W lv) es ((vs.drop s).take n):=by rw[<- he];exact (hvs.drop s).take n
       have hxs:∀(i:Nat) (x:Value),((vs.drop s).take n)[i]?=some x->vs[s+i]?=some x:=by
        intro i x hx;rw[List.getElem?_take]at hx;split at hx
        ·rw[List.getElem?_drop]at hx;exact hx
        ·simp at hx
       have hpos':0<es.length:=by omega
       have hww:w2=w:=by
        obtain⟨x,hx,hR⟩:=hRL.get (jE hpos');have q1:=(hR.wide (XQ _ _ _ _) (D8 hsw (List.getElem_mem hpos'))).1;have q2:=(hlies _ _ (hxs 0 x hx)).1;rw[q1]at q2;exact q2.symm
       subst hww;have ha:=p3 (by omega);subst ha;rw[<- hlen];refine SS h1 hr (xs:=(vs.drop s).take n) hsw hn hpos' ⟨hRL.1,fun i e x he hx=>?_⟩ fun i x hx=>?_
       ·exact FS (List.all_eq_true.1 him e (jM he)) (hRL.2 i e x he hx) fun _ _ _ q=>q
       ·have:=(hlies _ _ (hxs i x hx)).2
        rwa [show (ρ lv ix).o+s*w2+i*w2=(ρ lv ix).o+(s+i)*w2 by rw[Nat.add_mul];omega]
     ·simp at he
    ·simp at he
  ·simp at h
 ·simp at h
end
end Go.QAbs
namespace Go.QAbs
variable {u v v':AV}{agg ro:Bool}{B0:Bse}{cm:CM}{asg bd:Code}{e:Env}{fn:Func}{f g:FuncId}{a:Int}{A:List (Bool × List Blk)}{args cap cs es es' first vs ws z:LV}{L':List Blk}{xs:List Value}{i id ix k l n nt o s t ver w:Nat}{o':Obj}{c x:Opd}{body:PC}{p:Prop}{st st' st1:St}
def JZ:Env->Nat->Option AV
 | [],_=>none
 | (k,v)::e,t=>match Nat.beq k t with
  | true=>some v
  | false=>JZ e t
def ZL(e:Env):Opd->Option AV
 | .s t=>JZ e t
 | .v a=>some a
def BH(e:Env):List Opd->Option LV
 | []=>some []
 | o::os=>match ZL e o with
  | some v=>match BH e os with
   | some r=>some (v::r)
   | none=>none
  | none=>none
def DF:List Nat->Env->Option Env
 | [],_=>some []
 | k::ks,e=>match JZ e k with
  | some v=>match DF ks e with
   | some r=>some ((k,v)::r)
   | none=>none
  | none=>match DF ks e with
   | some r=>some ((k,.any)::r)
   | none=>none
def ZG:LV->Option LV
 | []=>some []
 | v::vs=>match ZG vs with
  | some r=>some (v::r)
  | none=>none
def YC:List Blk->Option (List Blk)
 | []=>some []
 | v::vs=>match YC vs with
  | some r=>some (v::r)
  | none=>none
theorem Z0:∀ {e:Env} {t:Nat} {v:AV},JZ e t=some v->look e t=v
 | [],_,_,h=>by simp[JZ]at h
 | (k,w)::e,t,v,h=>by
  simp only[JZ]at h;split at h
  ·rename_i hb
   simp only[oJ]at h;rw[look,if_pos (Nat.eq_of_beq_eq_true hb)];exact h
  ·rename_i hb
   have hn:k≠t:=fun q=>by subst q;simp at hb
   rw[look,if_neg hn];exact Z0 h
theorem SU:∀ {e:Env} {t:Nat},JZ e t=none->look e t=.any
 | [],_,_=>rfl
 | (k,w)::e,t,h=>by
  simp only[JZ]at h;split at h
  ·simp at h
  ·rename_i hb
   have hn:k≠t:=fun q=>by subst q;simp at hb
   rw[look,if_neg hn];exact SU h
theorem ZB{o:Opd}(h:ZL e o=some v):o.get e=v:=by
 cases o with
 | s t=>exact Z0 h
 | v a=>simp only[ZL,oJ]at h;exact h
theorem DG:∀ {e:Env} {os:List Opd} {vs:LV},BH e os=some vs->Xh e os=vs
 | _,[],vs,h=>by simp only[BH,oJ]at h;rw[<- h];rfl
 | e,o::os,vs,h=>by
  simp only[BH]at h;split at h
  ·rename_i v hv
   split at h
   ·rename_i r hr
    simp only[oJ]at h;rw[<- h,Xh,ZB hv,DG hr]
   ·simp at h
  ·simp at h
theorem Ks:∀ {ks:List Nat} {e r:Env},DF ks e=some r->BC ks e=r
 | [],_,_,h=>by simp only[DF,oJ]at h;rw[<- h];rfl
 | k::ks,e,r,h=>by
  simp only[DF]at h;split at h
  ·rename_i v hv
   split at h
   ·rename_i q hq
    simp only[oJ]at h;rw[<- h,BC,Z0 hv,Ks hq]
   ·simp at h
  ·rename_i hv
   split at h
   ·rename_i q hq
    simp only[oJ]at h;rw[<- h,BC,SU hv,Ks hq]
   ·simp at h
theorem Ji:∀ {l r:LV},ZG l=some r->l=r
 | [],r,h=>by simpa [ZG] using h
 | v::vs,r,h=>by
  simp only[ZG]at h;split at h
  ·rename_i q hq
   simp only[oJ]at h;rw[<- h,Ji hq]
  ·simp at h
theorem Qp:∀ {l r:List Blk},YC l=some r->l=r
 | [],r,h=>by simpa [YC] using h
 | v::vs,r,h=>by
  simp only[YC]at h;split at h
  ·rename_i q hq
   simp only[oJ]at h;rw[<- h,Qp hq]
  ·simp at h
inductive Fr where
 | seq (b:PC)
 | blk (id:Nat)
 | inv (P:Env->St->Prop)
abbrev JD:=Ex->Env->St->Prop
def RkD(O:Orc):List Fr->JD->Ex->Env->St->Prop
 | [],Q,x,e,st=>Q x e st
 | .seq b::k,Q,.norm,e,st=>∃x e' st',exec O itS b e st=some (x,e',st')/\RkD O k Q x e' st'
 | .seq _::k,Q,x,e,st=>RkD O k Q x e st
 | .blk id::k,Q,.ex id',e,st=>if id'=id then RkD O k Q .norm e st else RkD O k Q (.ex id') e st
 | .blk _::k,Q,x,e,st=>RkD O k Q x e st
 | .inv P::_,_,.norm,e,st=>P e st
 | .inv _::k,Q,x,e,st=>RkD O k Q x e st
structure Rk(O:Orc)(k:List Fr)(Q:JD)(x:Ex)(e:Env)(st:St):Prop where
 h:RkD O k Q x e st
structure Ru(O:Orc)(c:PC)(k:List Fr)(Q:JD)(e:Env)(st:St):Prop where
 h:∃x e' st',exec O itS c e st=some (x,e',st')/\RkD O k Q x e' st'
structure Is(O:Orc)(is:List PI)(keep:List Nat)(k:List Fr)(Q:JD)(e:Env)(st:St):Prop where
 h:∃e' st',JA O is e st=some (e',st')/\RkD O k Q .norm (BC keep e') st'
def Sp(T:Tab)(f:FuncId)(args:LV)(st:St)(Q:AV->St->Prop):Prop:=∃v st',S T f args st=some (v,st')/\Q v st'
section
variable {O:Orc}{k:List Fr}{Q:JD}{e:Env}{st:St}
theorem FX{a b:PC}(h:Ru O a (.seq b::k) Q e st):Ru O (.seq a b) k Q e st:=by
 obtain⟨⟨x,e',st',h1,h2⟩⟩:=h;cases x with
 | norm =>
  obtain⟨x,e2,st2,h3,h4⟩:=h2;exact⟨⟨x,e2,st2,by rw[KC,h1,oS,KD];exact h3,h4⟩⟩
 | ex id=>exact⟨⟨.ex id,e',st',by rw[KC,h1];rfl,h2⟩⟩
 | ret=>exact⟨⟨.ret,e',st',by rw[KC,h1];rfl,h2⟩⟩
theorem HI(h:Rk O k Q .norm e st):Ru O .skip k Q e st:=⟨⟨_,_,_,rfl,h.h⟩⟩
theorem Xz(h:Rk O k Q .ret e st):Ru O .ret k Q e st:=⟨⟨_,_,_,rfl,h.h⟩⟩
theorem cF(h:Rk O k Q (.ex id) e st):Ru O (.exit id) k Q e st:=⟨⟨_,_,_,rfl,h.h⟩⟩
theorem Kt{b:PC}(h:Ru O b (.blk id::k) Q e st):Ru O (.block id b) k Q e st:=by
 obtain⟨⟨x,e',st',h1,h2⟩⟩:=h;cases x with
 | norm=>exact⟨⟨.norm,e',st',by rw[Gj,h1];rfl,h2⟩⟩
 | ex id' =>
  simp only[RkD]at h2;by_cases hid:id'=id
  ·rw[if_pos hid]at h2
   exact⟨⟨.norm,e',st',by rw[Gj,h1];simp[BO,hid],h2⟩⟩
  ·rw[if_neg hid]at h2
   exact⟨⟨.ex id',e',st',by rw[Gj,h1];simp[BO,hid],h2⟩⟩
 | ret=>exact⟨⟨.ret,e',st',by rw[Gj,h1];rfl,h2⟩⟩
theorem cG{a b:PC}(hc:ZL e c=some (.bool true))(h:Ru O a k Q e st):Ru O (.ite c a b) k Q e st:=by
 obtain⟨⟨x,e',st',h1,h2⟩⟩:=h;exact⟨⟨x,e',st',by rw[Oy,ZB hc,WR];exact h1,h2⟩⟩
theorem Ku{a b:PC}(hc:ZL e c=some (.bool false))(h:Ru O b k Q e st):Ru O (.ite c a b) k Q e st:=by
 obtain⟨⟨x,e',st',h1,h2⟩⟩:=h;exact⟨⟨x,e',st',by rw[Oy,ZB hc,WS];exact h1,h2⟩⟩
theorem Qv{keep:List Nat}{is:List PI}(h:Is O is keep k Q e st):Ru O (.reg keep is) k Q e st:=by
 obtain⟨⟨e',st',h1,h2⟩⟩:=h;exact⟨⟨.norm,BC keep e',st',by rw[WQ,h1];rfl,h2⟩⟩
theorem SV{b:PC}(P:Nat->Env->St->Prop)(n:Nat)(h0:P n e st)
 (step:∀n e st,P n e st->Ru O b (.inv (fun e st=>∃m,m<n/\P m e st)::k) Q e st):Ru O (.loop b) k Q e st:=by
 have key:∀n e st,P n e st->Ru O (.loop b) k Q e st:=by
  intro n;induction n using Nat.strongRecOn with
  | ind n ih =>
   intro e st h;obtain⟨⟨x,e',st',h1,h2⟩⟩:=step n e st h;cases x with
   | norm =>
    obtain⟨m,hm,hp⟩:=h2;obtain⟨⟨x,e2,st2,h3,h4⟩⟩:=ih m hm e' st' hp;exact⟨⟨x,e2,st2,by rw[Dy,Dx,h1,oS,KD];exact h3,h4⟩⟩
   | ex id=>exact⟨⟨.ex id,e',st',by rw[Dy,Dx,h1];rfl,h2⟩⟩
   | ret=>exact⟨⟨.ret,e',st',by rw[Dy,Dx,h1];rfl,h2⟩⟩
 exact key n e st h0
theorem Ze{α:Type}{b:PC}(E:α->Env)(X:α->St)(P:α->Prop)(m:α->Nat)(a:α)(he:e=E a)(hs:st=X a)(h0:P a)
 (step:∀a,P a->Ru O b (.inv (fun e st=>∃c,(e=E c/\st=X c)/\(P c/\m c<m a))::k) Q (E a) (X a)):Ru O (.loop b) k Q e st:=by
 refine SV (fun n e st=>∃a,(e=E a/\st=X a)/\(P a/\m a=n)) (m a) ⟨a,⟨he,hs⟩,h0,rfl⟩ ?_;rintro n e st ⟨a,⟨rfl,rfl⟩,hp,hm⟩;obtain⟨⟨x,e',st',h1,h2⟩⟩:=step a hp;refine⟨⟨x,e',st',h1,?_⟩⟩;cases x with
 | norm =>
  obtain⟨c,hc,hp,hl⟩:=h2;exact⟨m c,by omega,c,hc,hp,rfl⟩
 | ex id=>exact h2
 | ret=>exact h2
theorem B3{x:Ex}(h:Q x e st):Rk O [] Q x e st:=⟨h⟩
theorem ZO{b:PC}(h:Ru O b k Q e st):Rk O (.seq b::k) Q .norm e st:=⟨h.h⟩
theorem cH{b:PC}(h:Rk O k Q .ret e st):Rk O (.seq b::k) Q .ret e st:=⟨h.h⟩
theorem cI{b:PC}(h:Rk O k Q (.ex id) e st):Rk O (.seq b::k) Q (.ex id) e st:=⟨h.h⟩
theorem cJ(h:Rk O k Q .norm e st):Rk O (.blk id::k) Q .norm e st:=⟨h.h⟩
theorem cK(h:Rk O k Q .ret e st):Rk O (.blk id::k) Q .ret e st:=⟨h.h⟩
theorem cL{id':Nat}(hi:Nat.beq id' id=true)(h:Rk O k Q .norm e st):Rk O (.blk id::k) Q (.ex id') e st:=by
 refine⟨?_⟩;simp only[RkD];rw[if_pos (Nat.eq_of_beq_eq_true hi)];exact h.h
theorem cM{id':Nat}(hi:Nat.beq id' id=false)(h:Rk O k Q (.ex id') e st):Rk O (.blk id::k) Q (.ex id') e st:=by
 refine⟨?_⟩;simp only[RkD];rw[if_neg (fun q=>by subst q;simp at hi)];exact h.h
theorem cN{P:Env->St->Prop}(h:P e st):Rk O (.inv P::k) Q .norm e st:=⟨h⟩
theorem cO{P:Env->St->Prop}(h:Rk O k Q .ret e st):Rk O (.inv P::k) Q .ret e st:=⟨h.h⟩
theorem cP{P:Env->St->Prop}(h:Rk O k Q (.ex id) e st):Rk O (.inv P::k) Q (.ex id) e st:=⟨h.h⟩
variable {keep:List Nat}{is:List PI}
theorem Jg{e':Env}(he:DF keep e=some e')(h:Rk O k Q .norm e' st):Is O [] keep k Q e st :=
 ⟨⟨e,st,rfl,by rw[Ks he];exact h.h⟩⟩
variable {d:Nat}{own:Bool}{op:PO}
theorem cQ{w:Bool}{od:Option Nat}(hg:JZ e t=some (.bool w))(h:Is O (⟨od,none,own,op⟩::is) keep k Q e st):Is O (⟨od,some (t,w),own,op⟩::is) keep k Q e st:=by
 obtain⟨⟨e',st',h1,h2⟩⟩:=h;refine⟨⟨e',st',?_,h2⟩⟩;rw[C7]at h1 ⊢;have:wantedV e (some (t,w))=some true:=by simp[wantedV,Z0 hg,C2]
 simp only[this];exact h1
theorem cR{w w':Bool}(hg:JZ e t=some (.bool w'))(hw:(w' == w)=false)(h:Is O is keep k Q ((d,.undef)::e) st):Is O (⟨some d,some (t,w),own,op⟩::is) keep k Q e st:=by
 obtain⟨⟨e',st',h1,h2⟩⟩:=h;refine⟨⟨e',st',?_,h2⟩⟩;rw[C7];have:wantedV e (some (t,w))=some false:=by simp[wantedV,Z0 hg,C2,hw]
 rw[this,oS,Gk];exact h1
theorem cS{w:Bool}(hg:JZ e t=some .undef)(h:Is O is keep k Q ((d,.undef)::e) st):Is O (⟨some d,some (t,w),own,op⟩::is) keep k Q e st:=by
 obtain⟨⟨e',st',h1,h2⟩⟩:=h;refine⟨⟨e',st',?_,h2⟩⟩;rw[C7];have:wantedV e (some (t,w))=some false:=by simp[wantedV,Z0 hg,C2]
 rw[this,oS,Gk];exact h1
theorem cT{w w':Bool}(hg:JZ e t=some (.bool w'))(hw:(w' == w)=false)(h:Is O is keep k Q e st):Is O (⟨none,some (t,w),own,op⟩::is) keep k Q e st:=by
 obtain⟨⟨e',st',h1,h2⟩⟩:=h;refine⟨⟨e',st',?_,h2⟩⟩;rw[C7];have:wantedV e (some (t,w))=some false:=by simp[wantedV,Z0 hg,C2,hw]
 rw[this,oS,Gk];exact h1
theorem cU{w:Bool}(hg:JZ e t=some .undef)(h:Is O is keep k Q e st):Is O (⟨none,some (t,w),own,op⟩::is) keep k Q e st:=by
 obtain⟨⟨e',st',h1,h2⟩⟩:=h;refine⟨⟨e',st',?_,h2⟩⟩;rw[C7];have:wantedV e (some (t,w))=some false:=by simp[wantedV,Z0 hg,C2]
 rw[this,oS,Gk];exact h1
theorem Zm{od:Option Nat}(hv:ZW O e st op=some (v,st'))(h:Is O is keep k Q (AJ e od v) st'):Is O (⟨od,none,false,op⟩::is) keep k Q e st:=by
 obtain⟨⟨e',st2,h1,h2⟩⟩:=h;refine⟨⟨e',st2,?_,h2⟩⟩;rw[C7];have:wantedV e none=some true:=rfl;simp only[this,oS,Oz];have h3:Ql O e st ⟨od,none,false,op⟩=some (v,st'):=by simp only[Ql,jB,if_false];exact hv
 rw[h3,oS,WT];exact h1
theorem A6(hx:ZL e x=some v)(h:Is O is keep k Q ((d,v)::e) st):Is O (⟨some d,none,false,.mv x⟩::is) keep k Q e st :=
 Zm (v:=v) (st':=st) (by rw[<- ZB hx];rfl) h
theorem cW{a b:Opd}{t:Bool}{va vb:AV}(hc:ZL e c=some (.bool t))(ha:ZL e a=some va)(hb:ZL e b=some vb)(hv:(match t with|true=>some va|false=>some vb)=some v)
 (h:Is O is keep k Q ((d,v)::e) st):Is O (⟨some d,none,false,.pick c a b⟩::is) keep k Q e st :=
 Zm (v:=v) (st':=st) (by simp only[ZW,evalPO,ZB hc,ZB ha,ZB hb,GO,oS,QL];cases t<;>simp at hv<;>simp[hv]) h
theorem SW{y:Opd}{kd:IntKind}{b:Int}(hx:ZL e x=some (.int kd a))(hy:ZL e y=some (.int kd b))(h:Is O is keep k Q ((d,.int kd (kd.wrap (a+b)))::e) st):Is O (⟨some d,none,false,.bin .add x y⟩::is) keep k Q e st :=
 Zm (st':=st) (by simp only[ZW,evalPO,ZB hx,ZB hy,AQ,Bu,if_false,if_true,Bt,jB,oS,QL]) h
theorem cX{y:Opd}{kd:IntKind}{b:Int}(hx:ZL e x=some (.int kd a))(hy:ZL e y=some (.int kd b))(h:Is O is keep k Q ((d,.int kd (kd.wrap (a-b)))::e) st):Is O (⟨some d,none,false,.bin .sub x y⟩::is) keep k Q e st :=
 Zm (st':=st) (by simp only[ZW,evalPO,ZB hx,ZB hy,AQ,Bu,if_false,if_true,Bt,jB,oS,QL]) h
theorem cY{y:Opd}{kd:IntKind}{b:Int}(hx:ZL e x=some (.int kd a))(hy:ZL e y=some (.int kd b))(h:Is O is keep k Q ((d,.int kd (kd.wrap (a*b)))::e) st):Is O (⟨some d,none,false,.bin .mul x y⟩::is) keep k Q e st :=
 Zm (st':=st) (by simp only[ZW,evalPO,ZB hx,ZB hy,AQ,Bu,if_false,if_true,Bt,jB,oS,QL]) h
theorem EK{n:Int}(h0:-9223372036854775808<=n)(h1:n<9223372036854775808):IntKind.i64.wrap n=n:=by
 have e1:IntKind.i64.signed=true:=rfl;have e2:IntKind.i64.bits=64:=rfl;simp only[IntKind.wrap,e1,e2,Bool.true_and,decide_eq_true_eq];split<;>omega
theorem ZV{y:Opd}{b:Int}(hx:ZL e x=some (.int .i64 a))(hy:ZL e y=some (.int .i64 b))(hw:-9223372036854775808<=a+b/\a+b<9223372036854775808)(h:Is O is keep k Q ((d,.int .i64 (a+b))::e) st):Is O (⟨some d,none,false,.bin .add x y⟩::is) keep k Q e st:=by
 rw[<- EK hw.1 hw.2]at h;exact SW hx hy h
theorem YH{y:Opd}{b:Int}(hx:ZL e x=some (.int .i64 a))(hy:ZL e y=some (.int .i64 b))(hw:-9223372036854775808<=a-b/\a-b<9223372036854775808)(h:Is O is keep k Q ((d,.int .i64 (a-b))::e) st):Is O (⟨some d,none,false,.bin .sub x y⟩::is) keep k Q e st:=by
 rw[<- EK hw.1 hw.2]at h;exact cX hx hy h
theorem cZ{y:Opd}{b:Int}(hx:ZL e x=some (.int .i64 a))(hy:ZL e y=some (.int .i64 b))(hw:-9223372036854775808<=a*b/\a*b<9223372036854775808)(h:Is O is keep k Q ((d,.int .i64 (a*b))::e) st):Is O (⟨some d,none,false,.bin .mul x y⟩::is) keep k Q e st:=by
 rw[<- EK hw.1 hw.2]at h;exact cY hx hy h
theorem FZ{y:Opd}{b:Int}(hx:ZL e x=some (.int .i64 a))(hy:ZL e y=some (.int .i64 b))(hw:0<=a/\0<b/\a<9223372036854775808)(h:Is O is keep k Q ((d,.int .i64 (a / b))::e) st):Is O (⟨some d,none,false,.bin .quo x y⟩::is) keep k Q e st:=by
 refine Zm (st':=st) (v:=.int .i64 (a / b)) ?_ h;simp only[ZW,evalPO,ZB hx,ZB hy,AQ,Bu,if_false,if_true,Bt,jB,oS,QL];rw[if_neg (by omega),Int.tdiv_eq_ediv_of_nonneg hw.1];have h1:a / b<=a:=Int.ediv_le_self b hw.1;have h2:0<=a / b:=Int.ediv_nonneg hw.1 (by omega);rw[EK (by omega) (by omega)];rfl
theorem SX{y:Opd}{b:Int}(hx:ZL e x=some (.int .i64 a))(hy:ZL e y=some (.int .i64 b))(hw:0<=a/\0<b)(h:Is O is keep k Q ((d,.int .i64 (a % b))::e) st):Is O (⟨some d,none,false,.bin .rem x y⟩::is) keep k Q e st:=by
 refine Zm (st':=st) (v:=.int .i64 (a % b)) ?_ h;simp only[ZW,evalPO,ZB hx,ZB hy,AQ,Bu,if_false,if_true,Bt,jB,oS,QL];rw[if_neg (by omega),Int.tmod_eq_emod_of_nonneg hw.1];rfl
theorem EL{y:Opd}{kd:IntKind}{b:Int}{bop:BinOp}[Decidable p](hx:ZL e x=some (.int kd a))(hy:ZL e y=some (.int kd b))(hp:Bt bop kd a b=some (.bool (decide p)))(hs:Bu bop=false)
 (hT:p->Is O is keep k Q ((d,.bool true)::e) st) (hF:¬ p->Is O is keep k Q ((d,.bool false)::e) st):Is O (⟨some d,none,false,.bin bop x y⟩::is) keep k Q e st:=by
 have hv:ZW O e st (.bin bop x y)=some (.bool (decide p),st):=by
  simp only[ZW,evalPO,ZB hx,ZB hy,AQ,hs,if_false,if_true,jB,hp,oS,QL]
 by_cases q:p
 ·rw[decide_eq_true q]at hv;exact Zm hv (hT q)
 ·rw[decide_eq_false q]at hv;exact Zm hv (hF q)
theorem ZP{y:Opd}{kd:IntKind}{b:Int}(hx:ZL e x=some (.int kd a))(hy:ZL e y=some (.int kd b))(hT:a<b->Is O is keep k Q ((d,.bool true)::e) st)(hF:b<=a->Is O is keep k Q ((d,.bool false)::e) st):Is O (⟨some d,none,false,.bin .lss x y⟩::is) keep k Q e st :=
 EL hx hy rfl rfl hT (fun q=>hF (Int.not_lt.1 q))
theorem ca{y:Opd}{kd:IntKind}{b:Int}(hx:ZL e x=some (.int kd a))(hy:ZL e y=some (.int kd b))(hT:a<=b->Is O is keep k Q ((d,.bool true)::e) st)(hF:b<a->Is O is keep k Q ((d,.bool false)::e) st):Is O (⟨some d,none,false,.bin .leq x y⟩::is) keep k Q e st :=
 EL hx hy rfl rfl hT (fun q=>hF (Int.not_le.1 q))
theorem QQ{y:Opd}{kd:IntKind}{b:Int}(hx:ZL e x=some (.int kd a))(hy:ZL e y=some (.int kd b))(hT:b<a->Is O is keep k Q ((d,.bool true)::e) st)(hF:a<=b->Is O is keep k Q ((d,.bool false)::e) st):Is O (⟨some d,none,false,.bin .gtr x y⟩::is) keep k Q e st :=
 EL hx hy rfl rfl hT (fun q=>hF (Int.not_lt.1 q))
theorem XU{y:Opd}{kd:IntKind}{b:Int}(hx:ZL e x=some (.int kd a))(hy:ZL e y=some (.int kd b))(hT:b<=a->Is O is keep k Q ((d,.bool true)::e) st)(hF:a<b->Is O is keep k Q ((d,.bool false)::e) st):Is O (⟨some d,none,false,.bin .geq x y⟩::is) keep k Q e st :=
 EL hx hy rfl rfl hT (fun q=>hF (Int.not_le.1 q))
theorem Za{y:Opd}{kd:IntKind}{b:Int}(hx:ZL e x=some (.int kd a))(hy:ZL e y=some (.int kd b))(hT:a=b->Is O is keep k Q ((d,.bool true)::e) st)(hF:a≠b->Is O is keep k Q ((d,.bool false)::e) st):Is O (⟨some d,none,false,.bin .eql x y⟩::is) keep k Q e st :=
 EL hx hy rfl rfl hT hF
theorem ZU{y:Opd}{kd:IntKind}{b:Int}(hx:ZL e x=some (.int kd a))(hy:ZL e y=some (.int kd b))(hT:a≠b->Is O is keep k Q ((d,.bool true)::e) st)(hF:a=b->Is O is keep k Q ((d,.bool false)::e) st):Is O (⟨some d,none,false,.bin .neq x y⟩::is) keep k Q e st :=
 EL hx hy rfl rfl hT (fun q=>hF (Decidable.byContradiction q))
def cmT:BinOp->Int->Int->Option (Prop × Prop)
 | .neq,a,b=>some (a≠b,a=b)
 | .lss,a,b=>some (a<b,b<=a)
 | .eql,a,b=>some (a=b,a≠b)
 | .gtr,a,b=>some (b<a,a<=b)
 | .geq,a,b=>some (b<=a,a<b)
 | .leq,a,b=>some (a<=b,b<a)
 | _,_,_=>none
theorem cm0{y:Opd}{kd:IntKind}{b:Int}{o:BinOp}{q:Prop}(hx:ZL e x=some (.int kd a))(hy:ZL e y=some (.int kd b))(hc:cmT o a b=some (p,q))(hT:p->Is O is keep k Q ((d,.bool true)::e) st)(hF:q->Is O is keep k Q ((d,.bool false)::e) st):Is O (⟨some d,none,false,.bin o x y⟩::is) keep k Q e st:=by
 cases o;all_goals first|(cases hc;done)|(obtain⟨h1,h2⟩:=Prod.mk.inj (Option.some.inj hc);subst h1 h2;first|exact ZU hx hy hT hF|exact ZP hx hy hT hF|exact Za hx hy hT hF|exact QQ hx hy hT hF|exact XU hx hy hT hF|exact ca hx hy hT hF)
theorem BI{y:Opd}{a b:B8}(hx:ZL e x=some (.str a))(hy:ZL e y=some (.str b))(hT:a=b->Is O is keep k Q ((d,.bool true)::e) st)(hF:a≠b->Is O is keep k Q ((d,.bool false)::e) st):Is O (⟨some d,none,false,.bin .eql x y⟩::is) keep k Q e st:=by
 have hv:ZW O e st (.bin .eql x y)=some (.bool (decide (a=b)),st):=by
  simp only[ZW,evalPO,ZB hx,ZB hy,AQ,Df,oS,QL]
 by_cases q:a=b
 ·rw[decide_eq_true q]at hv;exact Zm hv (hT q)
 ·rw[decide_eq_false q]at hv;exact Zm hv (hF q)
theorem Kv{y:Opd}{a b:B8}(hx:ZL e x=some (.str a))(hy:ZL e y=some (.str b))(hT:a≠b->Is O is keep k Q ((d,.bool true)::e) st)(hF:a=b->Is O is keep k Q ((d,.bool false)::e) st):Is O (⟨some d,none,false,.bin .neq x y⟩::is) keep k Q e st:=by
 have hv:ZW O e st (.bin .neq x y)=some (.bool (decide (a≠b)),st):=by
  simp only[ZW,evalPO,ZB hx,ZB hy,AQ,Df,oS,QL]
 by_cases q:a=b
 ·rw[decide_eq_false (fun h=>h q)]at hv;exact Zm hv (hF q)
 ·rw[decide_eq_true q]at hv;exact Zm hv (hT q)
theorem SY{y:Opd}{a b:B8}(hx:ZL e x=some (.str a))(hy:ZL e y=some (.str b))(hl:a.length+b.length<4611686018427387904)(h:Is O is keep k Q ((d,.str (a++b))::e) st):Is O (⟨some d,none,false,.bin .add x y⟩::is) keep k Q e st :=
 Zm (st':=st) (by simp only[ZW,evalPO,ZB hx,ZB hy,AQ,Df,if_pos hl,oS,QL]) h
theorem Fa{bop:BinOp}{y:Opd}{a b:AV}(hx:ZL e x=some a)(hy:ZL e y=some b)(hv:AQ bop a b=some v)(h:Is O is keep k Q ((d,v)::e) st):Is O (⟨some d,none,false,.bin bop x y⟩::is) keep k Q e st :=
 Zm (v:=v) (st':=st) (by simp only[ZW,evalPO,ZB hx,ZB hy,hv,oS,QL]) h
theorem Qc{neg:Bool}{kind:Nat}{ks:List (Nat × Nat)}{y:Opd}{a b:AV}{t u:Bool}(hx:ZL e x=some a)(hy:ZL e y=some b)(hv:eqV ks kind a b=some t)(hu:(match neg with|true=>!t|false=>t)=u)(h:Is O is keep k Q ((d,.bool u)::e) st):
 Is O (⟨some d,none,false,.eqs neg kind ks x y⟩::is) keep k Q e st :=
 Zm (v:=.bool u) (st':=st) (by simp only[ZW,evalPO,ZB hx,ZB hy,hv,oS];subst hu;cases neg<;>simp) h
theorem EM{neg:Bool}{kind:Nat}{ks:List (Nat × Nat)}{y:Opd}{a b:AV}[Decidable p](hx:ZL e x=some a)(hy:ZL e y=some b)(hv:eqV ks kind a b=some (decide p))
 (hT:p->Is O is keep k Q ((d,.bool (!neg))::e) st) (hF:¬ p->Is O is keep k Q ((d,.bool neg)::e) st) :
 Is O (⟨some d,none,false,.eqs neg kind ks x y⟩::is) keep k Q e st:=by
 by_cases q:p
 ·refine Qc hx hy (t:=true) (u:=!neg) (by rw[hv,decide_eq_true q]) ?_ (hT q)
  cases neg<;>rfl
 ·refine Qc hx hy (t:=false) (u:=neg) (by rw[hv,decide_eq_false q]) ?_ (hF q)
  cases neg<;>rfl
theorem SZ{b c:Bool}(hx:ZL e x=some (.bool b))(hc:(match b with|true=>some false|false=>some true)=some c)(h:Is O is keep k Q ((d,.bool c)::e) st):Is O (⟨some d,none,false,.un .not x⟩::is) keep k Q e st :=
 Zm (v:=.bool c) (st':=st) (by simp only[ZW,evalPO,ZB hx,unV,oS,QL];cases b<;>simp at hc<;>simp[<- hc]) h
theorem cb{kd kd':IntKind}(hx:ZL e x=some (.int kd' a))(h:Is O is keep k Q ((d,.int kd (kd.wrap a))::e) st):Is O (⟨some d,none,false,.cint kd x⟩::is) keep k Q e st :=
 Zm (st':=st) (by simp only[ZW,evalPO,ZB hx,E5,oS,QL]) h
theorem HJ{kd kd':IntKind}(hx:ZL e x=some (.int kd' a))(hw:kd.wrap a=a)(h:Is O is keep k Q ((d,.int kd a)::e) st):Is O (⟨some d,none,false,.cint kd x⟩::is) keep k Q e st :=
 Zm (v:=.int kd a) (st':=st) (by simp only[ZW,evalPO,ZB hx,E5,oS,QL,hw]) h
theorem Sa{a:AV}(hx:ZL e x=some a)(hv:b2sV st a=some v)(h:Is O is keep k Q ((d,v)::e) st):Is O (⟨some d,none,false,.b2s x⟩::is) keep k Q e st :=
 Zm (v:=v) (st':=st) (by simp only[ZW,evalPO,ZB hx,hv,oS,QL]) h
theorem X3{fn:Fn}{f c:List Opd}{vf vc:LV}(hf:BH e f=some vf)(hc:BH e c=some vc)(h:Is O is keep k Q ((d,.func fn vf vc)::e) st):Is O (⟨some d,none,false,.mkf fn f c⟩::is) keep k Q e st :=
 Zm (st':=st) (by simp only[ZW,evalPO,DG hf,DG hc]) h
theorem cc{a:AV}(hx:ZL e x=some a)(hv:E4 a=some v)(h:Is O is keep k Q ((d,v)::e) st):Is O (⟨some d,none,false,.nilck x⟩::is) keep k Q e st :=
 Zm (v:=v) (st':=st) (by simp only[ZW,evalPO,ZB hx,hv,oS,QL]) h
theorem HK{mx:Bool}{y:Opd}{kd:IntKind}{b:Int}(hx:ZL e x=some (.int kd a))(hy:ZL e y=some (.int kd b))(h:Is O is keep k Q ((d,.int kd (if mx=true then max a b else min a b))::e) st):Is O (⟨some d,none,false,.mnx mx x y⟩::is) keep k Q e st:=by
 refine Zm (v:=.int kd (if mx=true then max a b else min a b)) (st':=st) ?_ h;simp only[ZW,evalPO,ZB hx,ZB hy,GU,if_true,oS,QL];cases mx
 ·have:(if b<a then b else a)=min a b:=by rw[Int.min_def];split<;>split<;>omega
  simp[this]
 ·have:(if a<b then b else a)=max a b:=by rw[Int.max_def];split<;>split<;>omega
  simp[this]
theorem Fb(hx:ZL e x=some (.tup vs))(hv:vs[i]?=some v)(h:Is O is keep k Q ((d,v)::e) st):Is O (⟨some d,none,false,.ext x i⟩::is) keep k Q e st :=
 Zm (v:=v) (st':=st) (by simp only[ZW,evalPO,ZB hx,GV,hv,oS,QL]) h
theorem JQ{a:B8}(hx:ZL e x=some (.str a))(h:Is O is keep k Q ((d,.int .i64 a.length)::e) st):Is O (⟨some d,none,false,.len 0 x⟩::is) keep k Q e st :=
 Zm (st':=st) (by simp only[ZW,evalPO,ZB hx,lenOf,oS]) h
theorem Kw{a:LV}(hx:ZL e x=some (.lit a))(h:Is O is keep k Q ((d,.int .i64 a.length)::e) st):Is O (⟨some d,none,false,.len 1 x⟩::is) keep k Q e st :=
 Zm (st':=st) (by simp only[ZW,evalPO,ZB hx,lenOf,oS]) h
theorem Z5{α:Type}{f:α->AV}{l:List α}(hx:ZL e x=some (.lit (l.map f)))(h:Is O is keep k Q ((d,.int .i64 l.length)::e) st):Is O (⟨some d,none,false,.len 1 x⟩::is) keep k Q e st :=
 Kw hx (by rw[List.length_map];exact h)
theorem J2(hx:ZL e x=some .nils)(h:Is O is keep k Q ((d,.int .i64 0)::e) st):Is O (⟨some d,none,false,.len 1 x⟩::is) keep k Q e st :=
 Zm (st':=st) (by simp only[ZW,evalPO,ZB hx,lenOf,oS];rfl) h
theorem Z6{lv:Nat}(hx:ZL e x=some (.ref lv ix ver s n))(h:Is O is keep k Q ((d,.int .i64 n)::e) st):Is O (⟨some d,none,false,.len 1 x⟩::is) keep k Q e st :=
 Zm (st':=st) (by simp only[ZW,evalPO,ZB hx,lenOf,oS]) h
theorem EN{agg:Bool}{off:Nat}(hx:ZL e x=some (.agg cs))(hv:cs[off]?=some v)(h:Is O is keep k Q ((d,v)::e) st):Is O (⟨some d,none,false,.fld false off n x⟩::is) keep k Q e st :=
 Zm (v:=v) (st':=st) (by simp only[ZW,evalPO,ZB hx,GQ,Qs,AV.isAny,if_false,jB,AV.cells,hv,oS,QL]) h
theorem ce{ps:List (Nat × Nat × Opd)}{qs:List (Nat × Nat × AV)}(hq:Xx e ps=qs)(hf:fillV z qs=some cs)(hv:ZG cs=some vs)(h:Is O is keep k Q ((d,.agg vs)::e) st):Is O (⟨some d,none,false,.build z ps⟩::is) keep k Q e st :=
 Zm (v:=.agg vs) (st':=st) (by simp only[ZW,evalPO,hq,hf,Ji hv,oS]) h
theorem Sb{lo hi:Option Opd}{s:B8}{r:Nat}(hx:ZL e x=some (.str s))(hh:JT s.length s.length (AK e hi)=some r)(hl:JT r 0 (AK e lo)=some l)(h:Is O is keep k Q ((d,.str ((s.drop l).take (r-l)))::e) st):Is O (⟨some d,none,false,.slcS x lo hi⟩::is) keep k Q e st :=
 Zm (st':=st) (by simp only[ZW,evalPO,ZB hx,GP,hh,hl,oS,QL]) h
theorem HL{y:Opd}{s:B8}{n:Int}(hx:ZL e x=some (.str s))(hy:ZL e y=some (.int .i64 n))(hn:0<=n/\n<=s.length)(h:Is O is keep k Q ((d,.str (s.take n.toNat))::e) st):Is O (⟨some d,none,false,.slcS x none (some y)⟩::is) keep k Q e st:=by
 refine Sb (r:=n.toNat) (l:=0) hx ?_ Y (by simpa using h);simp only[AK,ZB hy,JT,if_pos hn]
theorem HM{y:Opd}{s:B8}{n:Int}(hx:ZL e x=some (.str s))(hy:ZL e y=some (.int .i64 n))(hn:0<=n/\n<=s.length)(h:Is O is keep k Q ((d,.str (s.drop n.toNat))::e) st):Is O (⟨some d,none,false,.slcS x (some y) none⟩::is) keep k Q e st:=by
 refine Sb (r:=s.length) (l:=n.toNat) hx Y ?_ ?_
 ·simp only[AK,ZB hy,JT,if_pos hn]
 ·rw[List.take_of_length_le (by simp)];exact h
theorem cf{i:Opd}{s:B8}{n:Int}{b:UInt8}(hx:ZL e x=some (.str s))(hi:ZL e i=some (.int .i64 n))(hn:0<=n/\n<s.length)(hb:s[n.toNat]?=some b)(h:Is O is keep k Q ((d,.int .u8 b.toNat)::e) st):Is O (⟨some d,none,false,.ixStr x i⟩::is) keep k Q e st :=
 Zm (st':=st) (by simp only[ZW,evalPO,ZB hx,ZB hi,GS,BM,if_pos hn,hb,oS,QL]) h
theorem cg{i:Opd}{n:Int}(hx:ZL e x=some (.lit es))(hi:ZL e i=some (.int .i64 n))(hn:0<=n/\n<es.length)(hv:es[n.toNat]?=some v)(hw:v.wide=some w)(h:Is O is keep k Q ((d,.lptr v 0)::e) st):Is O (⟨some d,none,false,.ixS w x i⟩::is) keep k Q e st :=
 Zm (st':=st) (by simp only[ZW,evalPO,ZB hx,ZB hi,ixSV,BM,if_pos hn,hv,if_pos hw,oS,QL]) h
theorem Zx{a:Opd}{x:AV}(ha:ZL e a=some (.lptr x o))(hv:Qs x agg o n=some v)(h:Is O is keep k Q ((d,v)::e) st):Is O (⟨some d,none,false,.ld agg n a⟩::is) keep k Q e st :=
 Zm (v:=v) (st':=st) (by simp only[ZW,evalPO,ZB ha,loadP,hv,oS,QL]) h
theorem Sc{off:Nat}{a:AV}(hx:ZL e x=some a)(hv:E6 off a=some v)(h:Is O is keep k Q ((d,v)::e) st):Is O (⟨some d,none,false,.fadr off x⟩::is) keep k Q e st :=
 Zm (v:=v) (st':=st) (by simp only[ZW,evalPO,ZB hx,hv,oS,QL]) h
theorem Kx{len:Nat}{i:Opd}{a b:AV}(hx:ZL e x=some a)(hi:ZL e i=some b)(hv:GR len w b a=some v)(h:Is O is keep k Q ((d,v)::e) st):Is O (⟨some d,none,false,.ixA len w x i⟩::is) keep k Q e st :=
 Zm (v:=v) (st':=st) (by simp only[ZW,evalPO,ZB hx,ZB hi,hv,oS,QL]) h
theorem Ky{lo hi:Option Opd}{r:Nat}(hx:ZL e x=some (.lit es))(hh:JT es.length es.length (AK e hi)=some r)(hl:JT r 0 (AK e lo)=some l)(hw:Qy w es=true)(h:Is O is keep k Q ((d,.lit ((es.drop l).take (r-l)))::e) st):Is O (⟨some d,none,false,.slc w x lo hi⟩::is) keep k Q e st :=
 Zm (st':=st) (by simp only[ZW,evalPO,ZB hx,slcV,hh,hl,if_pos hw,oS,QL]) h
theorem HN{y:Opd}{n:Int}(hx:ZL e x=some (.lit es))(hy:ZL e y=some (.int .i64 n))(hn:0<=n/\n<=es.length)(hw:Qy w es=true)(h:Is O is keep k Q ((d,.lit (es.take n.toNat))::e) st):Is O (⟨some d,none,false,.slc w x none (some y)⟩::is) keep k Q e st:=by
 refine Ky (r:=n.toNat) (l:=0) hx ?_ Y hw (by simpa using h);simp only[AK,ZB hy,JT,if_pos hn]
theorem Kz{y:Opd}{n:Int}(hx:ZL e x=some (.lit es))(hy:ZL e y=some (.int .i64 n))(hn:0<=n/\n<=es.length)(hw:Qy w es=true)(h:Is O is keep k Q ((d,.lit (es.drop n.toNat))::e) st):Is O (⟨some d,none,false,.slc w x (some y) none⟩::is) keep k Q e st:=by
 refine Ky (r:=es.length) (l:=n.toNat) hx Y ?_ hw ?_
 ·simp only[AK,ZB hy,JT,if_pos hn]
 ·rw[List.take_of_length_le (by simp)];exact h
theorem K0{y:Opd}{lv m:Nat}{n:Int}(hx:ZL e x=some (.ref lv ix ver s m))(hy:ZL e y=some (.int .i64 n))(hn:0<=n/\n<=m)(hw:wIs w ver (st.get lv ix)=true)(h:Is O is keep k Q ((d,.ref lv ix ver s n.toNat)::e) st):Is O (⟨some d,none,false,.slc w x none (some y)⟩::is) keep k Q e st :=
 Zm (st':=st) (by simp only[ZW,evalPO,ZB hx,slcV,AK,ZB hy,JT,if_pos hn,if_pos hw,oS,QL];simp) h
theorem K1{y:Opd}{lv m:Nat}{n:Int}(hx:ZL e x=some (.ref lv ix ver s m))(hy:ZL e y=some (.int .i64 n))(hn:0<=n/\n<=m)(hw:wIs w ver (st.get lv ix)=true)(h:Is O is keep k Q ((d,.ref lv ix ver (s+n.toNat) (m-n.toNat))::e) st):Is O (⟨some d,none,false,.slc w x (some y) none⟩::is) keep k Q e st :=
 Zm (st':=st) (by simp only[ZW,evalPO,ZB hx,slcV,AK,ZB hy,JT,if_pos hn,if_pos hw,oS,QL]) h
theorem K2{ps:List (Nat × Opd)}{qs:List (Nat × AV)}{r:AV × St}(hq:JU e ps=qs)(hf:fillE w z qs=some es)(hb:BZ false w st es=some r)(h:Is O is keep k Q ((d,r.1)::e) r.2):Is O (⟨some d,none,false,.bslice false w z ps⟩::is) keep k Q e st :=
 Zm (v:=r.1) (st':=r.2) (by simp only[ZW,evalPO,hq,hf,oS];exact hb) h
end
def Yi:AV->Option AV
 | .agg cs=>match ZG cs with
  | some r=>some (.agg r)
  | none=>none
 | v=>some v
theorem EO{r:AV}(h:Yi v=some r):v=r:=by
 unfold Yi at h;split at h
 ·split at h
  ·rename_i q hq
   simp only[oJ]at h;rw[<- h,Ji hq]
  ·simp at h
 ·simpa using h
section
variable {O:Orc}{k:List Fr}{Q:JD}{e:Env}{A:List (Bool × List Blk)}{L L':List Blk}{keep:List Nat}{is:List PI}{d:Nat}
theorem ZX(hx:ZL e x=some v)(hw:v.wide=some w)(hL:YC (L++[Blk.arr w 0 [v]])=some L')(h:Is O is keep k Q ((d,.ptr A.length L.length 0 0 0)::e) ⟨A,false,L'⟩):Is O (⟨some d,none,false,.box x⟩::is) keep k Q e ⟨A,false,L⟩:=by
 rw[<- Qp hL]at h;exact Zm (v:=.ptr A.length L.length 0 0 0) (st':=⟨A,false,L++[Blk.arr w 0 [v]]⟩) (by simp only[ZW,evalPO,ZB hx,hw,oS,St.new_cur,BA]) h
theorem EP(hL:YC (L++[Blk.arr w 0 []]++[Blk.arr 1 0 [.ref A.length L.length 0 0 0]])=some L')(h:Is O is keep k Q ((d,.ptr A.length (L.length+1) 0 0 0)::e) ⟨A,false,L'⟩):Is O (⟨some d,none,false,.boxnil w⟩::is) keep k Q e ⟨A,false,L⟩:=by
 rw[<- Qp hL]at h;refine Zm (v:=.ptr A.length (L.length+1) 0 0 0) (st':=⟨A,false,L++[Blk.arr w 0 []]++[Blk.arr 1 0 [.ref A.length L.length 0 0 0]]⟩) ?_ h;simp only[ZW,evalPO,oS,St.new_cur,BA,Dk];simp
theorem Xk(hL:YC (L++[Blk.arr w 0 []])=some L')(h:Is O is keep k Q ((d,.ref A.length L.length 0 0 0)::e) ⟨A,false,L'⟩):Is O (⟨some d,none,false,.onil w⟩::is) keep k Q e ⟨A,false,L⟩:=by
 rw[<- Qp hL]at h;exact Zm (v:=.ref A.length L.length 0 0 0) (st':=⟨A,false,L++[Blk.arr w 0 []]⟩) (by simp only[ZW,evalPO,oS,St.new_cur,Jd]) h
theorem K3{bytes:Nat}{z:AV}{l:Opd}{n:Int}(hl:ZL e l=some (.int .i64 n))(hc:ZL e c=some (.int .i64 n))(hn:0<=n/\n<4294967296)(hb:bytes<=4096)(hL:YC (L++[Blk.arr w 0 (List.replicate n.toNat z)])=some L')(h:Is O is keep k Q ((d,.ref A.length L.length 0 0 n.toNat)::e) ⟨A,false,L'⟩):Is O (⟨some d,none,false,.mkslice w bytes z l c⟩::is) keep k Q e ⟨A,false,L⟩:=by
 rw[<- Qp hL]at h;exact Zm (v:=.ref A.length L.length 0 0 n.toNat) (st':=⟨A,false,L++[Blk.arr w 0 (List.replicate n.toNat z)]⟩) (by simp only[ZW,evalPO,ZB hl,ZB hc,Dh,if_pos (show 0<=n/\n<=n/\n<4294967296/\bytes<=4096 by omega),St.new_cur,oS,Jd]) h
theorem DH(hL:YC (L++[Blk.map []])=some L')(h:Is O is keep k Q ((d,.map A.length L.length)::e) ⟨A,false,L'⟩):Is O (⟨some d,none,false,.mkmap⟩::is) keep k Q e ⟨A,false,L⟩:=by
 rw[<- Qp hL]at h;exact Zm (v:=.map A.length L.length) (st':=⟨A,false,L++[Blk.map []]⟩) (by simp only[ZW,evalPO,oS,St.new_cur,Dg]) h
theorem ci{ps:List (Nat × Opd)}{qs:List (Nat × AV)}(hq:JU e ps=qs)(hf:fillE w z qs=some es)(he:ZG es=some es')(hL:YC (L++[Blk.arr w 0 es'])=some L')(h:Is O is keep k Q ((d,.ref A.length L.length 0 0 es'.length)::e) ⟨A,false,L'⟩):Is O (⟨some d,none,false,.bslice true w z ps⟩::is) keep k Q e ⟨A,false,L⟩:=by
 rw[<- Qp hL]at h;rw[<- Ji he]at h;exact Zm (v:=.ref A.length L.length 0 0 es.length) (st':=⟨A,false,L++[Blk.arr w 0 es]⟩) (by simp only[ZW,evalPO,hq,hf,oS,BZ,if_true,St.new_cur,Jd]) h
theorem Zk{a:Opd}{lv:Nat}{x:AV}(ha:ZL e a=some (.ptr lv ix ver i o))(hg:st.get lv ix=some (Blk.arr w ver es))(hx:es[i]?=some x)(hv:Qs x agg o n=some v)
 (h:Is O is keep k Q ((d,v)::e) st):Is O (⟨some d,none,false,.ld agg n a⟩::is) keep k Q e st :=
 Zm (v:=v) (st':=st) (by simp only[ZW,evalPO,ZB ha,loadP,hg,Ax,if_true,hx,hv,oS,QL]) h
theorem ZE{a:Opd}{x:AV}(ha:ZL e a=some (.ptr A.length ix ver i o))(hg:L[ix]?=some (Blk.arr w ver es))(hx:es[i]?=some x)(hv:Qs x agg o n=some v)
 (h:Is O is keep k Q ((d,v)::e) ⟨A,false,L⟩):Is O (⟨some d,none,false,.ld agg n a⟩::is) keep k Q e ⟨A,false,L⟩ :=
 Zk ha (by rw[St.get_cur,hg];rfl) hx hv h
theorem JH{i:Opd}{lv m:Nat}{n:Int}(hx:ZL e x=some (.ref lv ix ver s m))(hi:ZL e i=some (.int .i64 n))(hn:0<=n/\n<m)(hw:wIs w ver (st.get lv ix)=true)(h:Is O is keep k Q ((d,.ptr lv ix ver (s+n.toNat) 0)::e) st):Is O (⟨some d,none,false,.ixS w x i⟩::is) keep k Q e st :=
 Zm (st':=st) (by simp only[ZW,evalPO,ZB hx,ZB hi,ixSV,BM,if_pos hn,if_pos hw,oS,QL]) h
theorem Xl{i:Opd}{m:Nat}{n:Int}(hx:ZL e x=some (.ref A.length ix ver s m))(hi:ZL e i=some (.int .i64 n))(hn:0<=n/\n<m)(hg:L[ix]?=some (Blk.arr w ver es))(h:Is O is keep k Q ((d,.ptr A.length ix ver (s+n.toNat) 0)::e) ⟨A,false,L⟩):Is O (⟨some d,none,false,.ixS w x i⟩::is) keep k Q e ⟨A,false,L⟩ :=
 JH hx hi hn (by rw[St.get_cur,hg];simp[wIs,vis]) h
theorem Sd{a:Opd}{y:AV}(ha:ZL e a=some (.ptr A.length ix ver i o))(hx:ZL e x=some v)(hg:L[ix]?=some (Blk.arr w ver es))(hy:es[i]?=some y)
 (hs:ZI Zs (A.length+1) ⟨A,false,L⟩ v=some (v,⟨A,false,L⟩)) (hv:(Q7 w y o n v).bind Yi=some v') (hL:YC (L.set ix (Blk.arr w ver (es.set i v')))=some L') (h:Is O is keep k Q e ⟨A,false,L'⟩):Is O (⟨none,none,false,.st n a x⟩::is) keep k Q e ⟨A,false,L⟩:=by
 have hlt:ix<L.length:=by
  rw[List.getElem?_eq_some_iff]at hg;exact hg.1
 rw[<- Qp hL]at h;have hv':Q7 w y o n v=some v':=by
  simp only[oB]at hv;obtain⟨u,h1,h2⟩:=hv;rw[h1,EO h2]
 refine Zm (od:=none) (v:=.undef) (st':=⟨A,false,L.set ix (Blk.arr w ver (es.set i v'))⟩) ?_ h;simp only[ZW,evalPO,ZB ha,ZB hx,A_,hs,oS,Bv,St.get_cur,hg,vis,Am,if_true,hy,hv',St.put,if_false,jB,if_pos hlt,AF]
theorem Qn{a:Opd}{y:AV}(hg:L[ix]?=some (Blk.arr w ver es))(ha:ZL e a=some (.ptr A.length ix ver i o))(hx:ZL e x=some v)(hy:es[i]?=some y)
 (hs:ZI Zs (A.length+1) ⟨A,false,L⟩ v=some (v,⟨A,false,L⟩)) (hv:(Q7 w y o n v).bind Yi=some v') (h:Is O is keep k Q e ⟨A,false,L.set ix (Blk.arr w ver (es.set i v'))⟩):Is O (⟨none,none,false,.st n a x⟩::is) keep k Q e ⟨A,false,L⟩:=by
 have hlt:ix<L.length:=by
  rw[List.getElem?_eq_some_iff]at hg;exact hg.1
 have hv':Q7 w y o n v=some v':=by
  simp only[oB]at hv;obtain⟨u,h1,h2⟩:=hv;rw[h1,EO h2]
 refine Zm (od:=none) (v:=.undef) (st':=⟨A,false,L.set ix (Blk.arr w ver (es.set i v'))⟩) ?_ h;simp only[ZW,evalPO,ZB ha,ZB hx,A_,hs,oS,Bv,St.get_cur,hg,vis,Am,if_true,hy,hv',St.put,if_false,jB,if_pos hlt,AF]
theorem Zg{a:Opd}{y:AV}(ha:ZL e a=some (.ptr A.length ix ver 0 o))(hx:ZL e x=some v)(hg:L[ix]?=some (Blk.arr w ver [y]))
 (hs:ZI Zs (A.length+1) ⟨A,false,L⟩ v=some (v,⟨A,false,L⟩)) (hv:(Q7 w y o n v).bind Yi=some v') (hL:YC (L.set ix (Blk.arr w ver [v']))=some L') (h:Is O is keep k Q e ⟨A,false,L'⟩):Is O (⟨none,none,false,.st n a x⟩::is) keep k Q e ⟨A,false,L⟩ :=
 Sd ha hx hg rfl hs hv hL h
theorem HO{bytes:Nat}{s:Opd}{ys:LV}{vx:AV}(hs:ZL e s=some (.ref A.length ix ver 0 n))(hx:ZL e x=some vx)(hg:L[ix]?=some (Blk.arr w ver es))(hy:elems ⟨A,false,L⟩ vx=some ys)(hb:n=es.length)
 (hl:es.length+ys.length<4294967296) (hw:bytes<=4096) (hsm:Qy w ys=true) (hm:mapSt (ZI Zs (A.length+1)) ⟨A,false,L⟩ ys=some (ys,⟨A,false,L⟩))
 (hL:YC (L.set ix (Blk.arr w (ver+1) (es++ys)))=some L') (h:Is O is keep k Q ((d,.ref A.length ix (ver+1) 0 (n+ys.length))::e) ⟨A,false,L'⟩):Is O (⟨some d,none,false,.app w bytes s x⟩::is) keep k Q e ⟨A,false,L⟩:=by
 have hlt:ix<L.length:=by
  rw[List.getElem?_eq_some_iff]at hg;exact hg.1
 rw[<- Qp hL]at h;subst hb;refine Zm (v:=.ref A.length ix (ver+1) 0 (es.length+ys.length)) (st':=⟨A,false,L.set ix (Blk.arr w (ver+1) (es++ys))⟩) ?_ h;simp only[ZW,evalPO,ZB hs,ZB hx,hy,oS,Q8,if_pos hsm,hm,BX,St.get_cur,hg,vis,Ag,true_and,if_pos (show 0+es.length<=es.length/\es.length+ys.length<4294967296/\bytes<=4096 by omega),St.put,if_true,if_false,jB,if_pos hlt,List.drop_zero,List.take_length]
theorem K4{bytes:Nat}{s:Opd}{y:AV}(hs:ZL e s=some (.ref A.length ix ver 0 n))(hx:ZL e x=some (.lit [y]))(hg:L[ix]?=some (Blk.arr w ver es))(hb:n=es.length)
 (hl:es.length+1<4294967296) (hw:bytes<=4096) (hsm:y.wide=some w) (hm:ZI Zs (A.length+1) ⟨A,false,L⟩ y=some (y,⟨A,false,L⟩))
 (hL:YC (L.set ix (Blk.arr w (ver+1) (es++[y])))=some L') (h:Is O is keep k Q ((d,.ref A.length ix (ver+1) 0 (n+1))::e) ⟨A,false,L'⟩):Is O (⟨some d,none,false,.app w bytes s x⟩::is) keep k Q e ⟨A,false,L⟩ :=
 HO (ys:=[y]) hs hx hg rfl hb hl hw (by simp[Qy,hsm]) (by simp only[mapSt,hm,oS,Y3]) hL h
theorem HP{T:Tab}{f:Opd}{args:List Opd}{P:AV->St->Prop}(hf:ZL e f=some (.func (.func g) first cap))(ha:BH e args=some vs)(hw:ZG (ZS (first++vs++cap))=some ws)
 (hc:Sp T g ws st P) (h:∀v st',P v st'->Is (S T) is keep k Q ((d,v)::e) st'):Is (S T) (⟨some d,none,false,.call .norm f args⟩::is) keep k Q e st:=by
 obtain⟨v,st',h1,h2⟩:=hc;refine Zm (v:=v) (st':=st') ?_ (h v st' h2);simp only[ZW,ZB hf,DG ha,AZ,Ji hw,Q5,h1]
theorem ZA{T:Tab}{f:Opd}{args:List Opd}(hf:ZL e f=some (.func (.func g) first cap))(ha:BH e args=some vs)(hw:ZG (ZS (first++vs++cap))=some ws)
 (hc:S T g ws st=some (v,st')) (h:Is (S T) is keep k Q ((d,v)::e) st'):Is (S T) (⟨some d,none,false,.call .norm f args⟩::is) keep k Q e st:=by
 refine Zm (v:=v) (st':=st') ?_ h;simp only[ZW,ZB hf,DG ha,AZ,Ji hw,Q5,hc]
theorem zA0{T:Tab}{f:Opd}{args:List Opd}(hf:ZL e f=some (.func (.func g) first cap))(ha:BH e args=some vs)
 (hc:S T g ws st=some (v,st')) (h:Is (S T) is keep k Q ((d,v)::e) st')(hw:ZG (ZS (first++vs++cap))=some ws:=by first|rfl|(simp only[lE,lN,lC,ZS,ZH,ZG];first|done|rfl)):Is (S T) (⟨some d,none,false,.call .norm f args⟩::is) keep k Q e st:=ZA hf ha hw hc h
theorem XV{T:Tab}{f:Opd}{args:List Opd}(hf:ZL e f=some (.func (.func g) first cap))(ha:BH e args=some vs)(hw:ZG (ZS (first++vs++cap))=some ws)
 (hc:S T g ws st.allRo=some (v,st')) (h:Is (S T) is keep k Q ((d,v)::e) st):Is (S T) (⟨some d,none,false,.call .pure f args⟩::is) keep k Q e st:=by
 refine Zm (v:=v) (st':=st) ?_ h;simp only[ZW,ZB hf,DG ha,AZ,Ji hw,Q5,hc,oS,QF]
theorem X4{T:Tab}{res:List RV}{st2:St}(hT:T f=some (.pf ⟨true,body,res⟩))
 (h:Ru (S T) body [] (fun x e st'=>QT true res (x,e,st')=some (v,st2)) (QB 0 args) st):S T f args st=some (v,st2):=by
 obtain⟨⟨x,e',st',h1,h2⟩⟩:=h;refine FF hT ?_;simp only[Jp,if_true,h1,oS];exact h2
theorem Se{T:Tab}{res:List RV}{P:AV->St->Prop}(hT:T f=some (.pf ⟨true,body,res⟩))
 (h:Ru (S T) body [] (fun x e st'=>∃v st'',QT true res (x,e,st')=some (v,st'')/\P v st'') (QB 0 args) st):Sp T f args st P:=by
 obtain⟨⟨x,e',st',h1,v,st'',h2,h3⟩⟩:=h;refine⟨v,st'',FF hT ?_,h3⟩;simp only[Jp,if_true,h1,oS];exact h2
theorem K5{T:Tab}{res:List RV}{P:AV->St->Prop}(hT:T f=some (.pf ⟨false,body,res⟩))
 (h:Ru (S T) body [] (fun x e st'=>∃v st'',QT false res (x,e,st')=some (v,st'')/\P v st'') (QB 0 args) ⟨st.A++[(st.ro,st.L)],false,[]⟩):Sp T f args st P:=by
 obtain⟨⟨x,e',st',h1,v,st'',h2,h3⟩⟩:=h;refine⟨v,st'',FF hT ?_,h3⟩;simp only[Jp,jB,if_false,St.push,h1,oS];exact h2
theorem Zv{T:Tab}{res:List RV}(hT:T f=some (.pf ⟨false,body,res⟩))
 (h:∀A,A=st.A++[(st.ro,st.L)]->Ru (S T) body [] (fun x e st'=>QT false res (x,e,st')=some (v,st)) (QB 0 args) ⟨A,false,[]⟩):S T f args st=some (v,st):=by
 obtain⟨⟨x,e',st',h1,h2⟩⟩:=h _ rfl;refine FF hT ?_;simp only[Jp,jB,if_false,St.push,h1,oS];exact h2
theorem Bi{r:Bool × List Blk}{A0:List (Bool × List Blk)}{L:List Blk}{res:List RV}{x:Ex}{L':List Blk}(hA:A=A0++[r])(hx:x=.norm\/x=.ret)(hr:QE ⟨A,false,L⟩ e res=some v)
 (hs:ZI Zs A.length ⟨A,false,L⟩ v=some (v',⟨A,ro,L'⟩)) (hst:st=⟨A0,r.1,r.2⟩):QT false res (x,e,⟨A,false,L⟩)=some (v',st):=by
 have:AY ⟨A,false,L⟩ v=some (v',st):=by
  unfold AY;rw[show (⟨A,false,L⟩:St).A.length=A.length from rfl,hs];simp only[oS,Je];rw[hA,KE,hst];rfl
 rcases hx with rfl|rfl<;>simp only[QT,hr,oS,jB,if_false,this]
end
theorem ZD{L:List Blk}(hA:A=st.A++[(st.ro,st.L)]){lv:Nat}{b:Blk}(h:st.get lv ix=some b):St.get ⟨A,ro,L⟩ lv ix=some b:=by
 have:=St.get_le h;rw[hA,St.get_push,if_neg (by omega)];exact h
theorem Jy{O:Orc}{k:List Fr}{Q:JD}{keep:List Nat}{is:List PI}{d:Nat}{α:Type}{f:α->AV}{l:List α}{i:Opd}{n:Int}(hx:ZL e x=some (.lit (l.map f)))(hi:ZL e i=some (.int .i64 n))(hn:0<=n/\n<l.length)(hw:∀a,(f a).wide=some w)
 (h:∀a,l[n.toNat]?=some a->Is O is keep k Q ((d,.lptr (f a) 0)::e) st):Is O (⟨some d,none,false,.ixS w x i⟩::is) keep k Q e st:=by
 have hlt:n.toNat<l.length:=by omega
 refine cg hx hi (by simpa using hn) (v:=f l[n.toNat]) (by simp[hlt]) (hw _) (h _ ?_);simp[hlt]
theorem K6{T:Tab}{k:List Fr}{Q:JD}{keep:List Nat}{is:List PI}{d:Nat}{f:Opd}{args:List Opd}[Decidable p](hf:ZL e f=some (.func (.func g) first cap))(ha:BH e args=some vs)(hw:ZG (ZS (first++vs++cap))=some ws)
 (hc:S T g ws st=some (.bool (decide p),st')) (hT:p->Is (S T) is keep k Q ((d,.bool true)::e) st') (hF:¬ p->Is (S T) is keep k Q ((d,.bool false)::e) st'):Is (S T) (⟨some d,none,false,.call .norm f args⟩::is) keep k Q e st:=by
 by_cases q:p
 ·rw[decide_eq_true q]at hc;exact ZA hf ha hw hc (hT q)
 ·rw[decide_eq_false q]at hc;exact ZA hf ha hw hc (hF q)
def B4(st:St)(e:Env):List RV->Option LV
 | []=>some []
 | .s t::rs=>match JZ e t with
  | some v=>match B4 st e rs with
   | some r=>some (v::r)
   | none=>none
  | none=>none
 | .c t agg n::rs=>match JZ e t with
  | some a=>match loadP st agg n a with
   | some v=>match B4 st e rs with
    | some r=>some (v::r)
    | none=>none
   | none=>none
  | none=>none
theorem HQ{st:St}{e:Env}:∀ {rs:List RV} {vs:LV},B4 st e rs=some vs->AM st e rs=some vs
 | [],vs,h=>h
 | .s t::rs,vs,h=>by
  simp only[B4]at h;split at h
  ·rename_i v hv
   split at h
   ·rename_i r hr
    simp only[oJ]at h;simp only[AM,AH,oS,HQ hr,Option.map_some,Z0 hv,h]
   ·simp at h
  ·simp at h
 | .c t agg n::rs,vs,h=>by
  simp only[B4]at h;split at h
  ·rename_i a ha
   split at h
   ·rename_i v hv
    split at h
    ·rename_i r hr
     simp only[oJ]at h;simp only[AM,AH,Z0 ha,hv,oS,HQ hr,Option.map_some,h]
    ·simp at h
   ·simp at h
  ·simp at h
def EQ:LV->Option AV
 | [v]=>some v
 | vs=>some (.tup vs)
theorem HR(h:EQ vs=some v):BE vs=v:=by
 unfold EQ at h;split at h
 ·simpa [BE] using h
 ·rename_i hn
  simp only[oJ]at h;subst h;unfold BE;split
  ·rename_i u
   exact absurd Y (hn u)
  ·rfl
def ER:AV->Option AV
 | .agg cs=>match ZG cs with
  | some r=>some (.agg r)
  | none=>none
 | .tup cs=>match ZG cs with
  | some r=>some (.tup r)
  | none=>none
 | v=>some v
theorem HS{r:AV}(h:ER v=some r):v=r:=by
 unfold ER at h;split at h
 ·split at h
  ·rename_i q hq
   simp only[oJ]at h;rw[<- h,Ji hq]
  ·simp at h
 ·split at h
  ·rename_i q hq
   simp only[oJ]at h;rw[<- h,Ji hq]
  ·simp at h
 ·simpa using h
theorem ZQ{L:List Blk}{res:List RV}{x:Ex}{w:AV}(hA:A=st.A++[(st.ro,st.L)])(hx:x=.norm\/x=.ret)(hr:B4 ⟨A,false,L⟩ e res=some vs)(ht:EQ vs=some v)
 (hs:ZI Zs A.length ⟨A,false,L⟩ v=some (v',⟨A,ro,L'⟩)) (hw:ER v'=some w) (hu:w=u):QT false res (x,e,⟨A,false,L⟩)=some (u,st):=by
 subst hu;rw[<- HS hw];refine Bi hA hx ?_ hs Y;simp only[QE,HQ hr,Option.map_some,HR ht]
theorem Jq{res:List RV}{x:Ex}{w:AV}(hx:x=.norm\/x=.ret)(hr:B4 st e res=some vs)(ht:EQ vs=some v)(hw:ER v=some w)(hu:w=u):QT true res (x,e,st)=some (u,st):=by
 subst hu;rw[<- HS hw];have:QE st e res=some v:=by simp only[QE,HQ hr,Option.map_some,HR ht]
 rcases hx with rfl|rfl<;>simp only[QT,this,oS,if_true,QL]
theorem Sf{L:List Blk}{m:Nat}(hg:L[ix]?=some (.arr w ver es))(hn:n=es.length)(he:∀v,v∈es->imm m v=true):
 ZI (m+1) A.length ⟨A,false,L⟩ (.ref A.length ix ver 0 n)=some (.lit es,⟨A,false,L.set ix .dead⟩):=by
 subst hn;simp only[ZI,Nat.lt_irrefl,if_false,and_self,if_true,hg,AG,Nat.zero_add,Nat.le_refl,List.drop_zero,List.take_length,oS,XT (fun u hu=>EA (he u hu)),Bq]
theorem cj{m b:Nat}{x x':AV}{ys:LV}(hx:ZI m b st x=some (x',st1))(hy:∀y,y∈ys->imm m y=true):ZI (m+1) b st (.tup (x::ys))=some (.tup (x'::ys),st1):=by
 simp only[ZI,mapSt,hx,oS,XT (fun u hu=>EA (hy u hu)),Y3,Br]
theorem B5{L:List Blk}{res:List RV}{x:Ex}(hA:A=st.A++[(st.ro,st.L)])(hx:x=.norm\/x=.ret)(hr:B4 ⟨A,false,L⟩ e res=some [.ref A.length ix ver 0 n])
 (hg:L[ix]?=some (.arr w ver es)) (hn:n=es.length) (he:∀v,v∈es->imm 5 v=true) (hu:.lit es=u):QT false res (x,e,⟨A,false,L⟩)=some (u,st) :=
 ZQ hA hx hr rfl (Sf hg hn he) rfl hu
theorem ES{L:List Blk}{res:List RV}{x:Ex}{y:AV}(hA:A=st.A++[(st.ro,st.L)])(hx:x=.norm\/x=.ret)(hr:B4 ⟨A,false,L⟩ e res=some [.ref A.length ix ver 0 n,y])
 (hg:L[ix]?=some (.arr w ver es)) (hn:n=es.length) (he:∀v,v∈es->imm 4 v=true) (hy:imm 5 y=true) (hu:.tup [.lit es,y]=u):QT false res (x,e,⟨A,false,L⟩)=some (u,st) :=
 ZQ hA hx hr rfl (cj (Sf hg hn he) (by intro z hz;simp only[List.mem_singleton]at hz;rw[hz];exact hy)) Y hu
theorem Bj{r:Bool × List Blk}{A0:List (Bool × List Blk)}{L:List Blk}{res:List RV}{x:Ex}[Decidable p]{b:Bool}(hA:A=A0++[r])(hx:x=.norm\/x=.ret)(hr:QE ⟨A,false,L⟩ e res=some (.bool b))
 (hst:st=⟨A0,r.1,r.2⟩) (hb:b=decide p):QT false res (x,e,⟨A,false,L⟩)=some (.bool (decide p),st):=by
 subst hb;exact Bi hA hx hr Y hst
def Ca(L:List Blk)(e:Env):List RV->Option (LV × List Nat)
 | []=>some ([],[])
 | .s t::rs=>match JZ e t with
  | some v=>match Ca L e rs with
   | some r=>some (v::r.1,r.2)
   | none=>none
  | none=>none
 | .c t agg n::rs=>match JZ e t with
  | some (.ptr lv ix ver i o)=>match Ax agg n ver i o (vis L[ix]?) with
   | some v=>match Ca L e rs with
    | some r=>some (v::r.1,lv::r.2)
    | none=>none
   | none=>none
  | _=>none
theorem HT{A:List (Bool × List Blk)}{ro:Bool}{L:List Blk}{e:Env}:∀ {rs:List RV} {r:LV × List Nat},Ca L e rs=some r->(∀l∈r.2,l=A.length)->AM ⟨A,ro,L⟩ e rs=some r.1
 | [],r,h,_=>by simp only[Ca,oJ]at h;subst h;rfl
 | .s t::rs,r,h,hl=>by
  simp only[Ca]at h;split at h
  ·rename_i v hv
   split at h
   ·rename_i q hq
    simp only[oJ]at h;subst h;have:=HT (A:=A) (ro:=ro) hq hl;simp only[AM,AH,oS,this,Option.map_some,Z0 hv]
   ·simp at h
  ·simp at h
 | .c t agg n::rs,r,h,hl=>by
  simp only[Ca]at h;split at h
  ·rename_i lv ix ver i o hv
   split at h
   ·rename_i v hb
    split at h
    ·rename_i q hq
     simp only[oJ]at h;subst h;have h1:lv=A.length:=hl lv (by simp);have:=HT (A:=A) (ro:=ro) hq (fun l hm=>hl l (by simp[hm]));subst h1;simp only[AM,AH,Z0 hv,loadP,St.get_cur,hb,oS,this,Option.map_some]
    ·simp at h
   ·simp at h
  ·simp at h
theorem Sg{a:Nat}{l:List Nat}(h:l=List.replicate k a):∀x∈l,x=a:=by
 intro x hx;rw[h]at hx;exact List.eq_of_mem_replicate hx
theorem Xu{L:List Blk}{res:List RV}{x:Ex}{r:LV × List Nat}{w:AV}(hA:A=st.A++[(st.ro,st.L)])(hx:x=.norm\/x=.ret)(hr:Ca L e res=some r)(hl:r.2=List.replicate r.2.length A.length)(ht:EQ r.1=some v)
 (hs:ZI Zs A.length ⟨A,false,L⟩ v=some (v',⟨A,ro,L'⟩)) (hw:ER v'=some w) (hu:w=u):QT false res (x,e,⟨A,false,L⟩)=some (u,st):=by
 subst hu;rw[<- HS hw];refine Bi hA hx ?_ hs Y;simp only[QE,HT hr (Sg hl),Option.map_some,HR ht]
theorem Si{L:List Blk}{res:List RV}{x:Ex}{r:LV × List Nat}{w:AV}(hx:x=.norm\/x=.ret)(hr:Ca L e res=some r)(hl:r.2=List.replicate r.2.length A.length)(ht:EQ r.1=some v)(hw:ER v=some w)(hu:w=u):QT true res (x,e,⟨A,false,L⟩)=some (u,⟨A,false,L⟩):=by
 subst hu;rw[<- HS hw];have:QE ⟨A,false,L⟩ e res=some v:=by simp only[QE,HT hr (Sg hl),Option.map_some,HR ht]
 rcases hx with rfl|rfl<;>simp only[QT,this,oS,if_true,QL]
def Bk(r:Bool × List Blk)(ix:Nat)(b:Blk):Bool × List Blk:=(r.1,r.2.set ix b)
def St.upd(st:St)(lv ix:Nat)(b:Blk):St :=
 if lv=st.A.length then ⟨st.A,st.ro,st.L.set ix b⟩ else ⟨st.A.set lv (Bk (st.A[lv]?.getD (false,[])) ix b),st.ro,st.L⟩
def St.wr(st:St)(lv:Nat):Prop:=if lv=st.A.length then st.ro=false else ∃r,st.A[lv]?=some (false,r)
theorem HU{L:List Blk}{c:Blk}(h:vis L[ix]?=some c):ix<L.length:=by
 rcases Nat.lt_or_ge ix L.length with q|q
 ·exact q
 ·rw[List.getElem?_eq_none q]at h;simp[vis]at h
theorem St.put_upd{lv:Nat}{b c:Blk}(hw:st.wr lv)(hg:st.get lv ix=some c):st.put lv ix b=some (st.upd lv ix b):=by
 unfold St.wr at hw;unfold St.put St.upd;by_cases h:lv=st.A.length
 ·rw[if_pos h]at hw ⊢
  rw[if_pos h];rw[St.get,if_pos h]at hg;have hlt:=HU hg;rw[if_neg (by rw[hw];simp),if_pos hlt,hw]
 ·rw[if_neg h]at hw ⊢
  rw[if_neg h];obtain⟨r,hr⟩:=hw;rw[St.get,if_neg h,hr]at hg;simp only[oS]at hg;have hlt:=HU hg;rw[hr];simp only[BW,if_pos hlt,Option.getD_some,Bk]
theorem St.get_upd{lv lv' ix':Nat}{b c:Blk}(hg:st.get lv ix=some c)(hb:vis (some b)=some b):(st.upd lv ix b).get lv' ix'=if lv'=lv/\ix'=ix then some b else st.get lv' ix':=by
 unfold St.upd;by_cases h:lv=st.A.length
 ·rw[if_pos h]
  rw[St.get,if_pos h]at hg;have hlt:=HU hg;by_cases h':lv'=st.A.length
  ·simp only[St.get,if_pos h']
   rw[List.getElem?_set];by_cases hi:ix=ix'
   ·subst hi;rw[if_pos rfl,if_pos hlt,if_pos ⟨h'.trans h.symm,rfl⟩];exact hb
   ·rw[if_neg hi,if_neg (fun q=>hi q.2.symm)]
  ·simp only[St.get,if_neg h']
   rw[if_neg (fun q=>h' (q.1.trans h))]
 ·rw[if_neg h]
  rw[St.get,if_neg h]at hg;by_cases h':lv'=st.A.length
  ·simp only[St.get,List.length_set,if_pos h']
   rw[if_neg (fun q=>h (q.1.symm.trans h'))]
  ·simp only[St.get,List.length_set,if_neg h',List.getElem?_set]
   cases hr:st.A[lv]? with
   | none=>rw[hr]at hg;simp at hg
   | some r =>
    have hll:=(List.getElem?_eq_some_iff.1 hr).1;rw[hr]at hg;simp only[oS]at hg;have hlt:=HU hg;by_cases hl:lv=lv'
    ·subst hl
     simp only[if_true,if_pos hll,Option.getD_some,oS,Bk,List.getElem?_set,true_and,hr];by_cases hi:ix=ix'
     ·subst hi;simp[hlt,hb]
     ·simp only[if_neg hi,if_neg (show ¬ (ix'=ix) from fun q=>hi q.symm)]
    ·rw[if_neg (show ¬ (lv'=lv/\ix'=ix) from fun q=>hl q.1.symm),if_neg hl]
theorem St.upd_A{lv:Nat}{b:Blk}:(st.upd lv ix b).A.length=st.A.length:=by
 unfold St.upd;split<;>simp
theorem St.wr_upd{lv lv':Nat}{b:Blk}(hw:st.wr lv)(h:st.wr lv'):(st.upd lv ix b).wr lv':=by
 unfold St.wr at *;rw[St.upd_A];unfold St.upd;by_cases h1:lv=st.A.length
 ·simp only[if_pos h1];exact h
 ·simp only[if_neg h1]
  by_cases h':lv'=st.A.length
  ·simp only[if_pos h']at h ⊢;exact h
  ·rw[if_neg h']at h ⊢
   rw[if_neg h1]at hw;obtain⟨r,hr⟩:=h;obtain⟨r2,hr2⟩:=hw;rw[List.getElem?_set];by_cases hl:lv=lv'
   ·subst hl
    rw[if_pos rfl,if_pos (List.getElem?_eq_some_iff.1 hr).1,hr];exact⟨_,rfl⟩
   ·rw[if_neg hl];exact⟨r,hr⟩
theorem JE{L:List Blk}(hA:A=st.A++[(st.ro,st.L)]){lv:Nat}{b:Blk}(hl:lv<=st.A.length):
 St.upd ⟨A,ro,L⟩ lv ix b=⟨(st.upd lv ix b).A++[((st.upd lv ix b).ro,(st.upd lv ix b).L)],ro,L⟩:=by
 subst hA;unfold St.upd;simp only[lL,List.length_singleton];rw[if_neg (by omega)];by_cases h:lv=st.A.length
 ·rw[if_pos h]
  subst h;simp only[St.mk.injEq,and_true];rw[List.getElem?_append_right (Nat.le_refl _)];simp[Bk]
 ·rw[if_neg h]
  simp only[St.mk.injEq,and_true];rw[jL (by omega),List.set_append_left _ _ (by omega)]
theorem Yj{L:List Blk}(hA:A=st.A++[(st.ro,st.L)]){lv:Nat}(hl:lv<=st.A.length)(h:st.wr lv):St.wr ⟨A,ro,L⟩ lv:=by
 subst hA;unfold St.wr at *;simp only[lL,List.length_singleton];rw[if_neg (by omega)];by_cases q:lv=st.A.length
 ·rw[if_pos q]at h
  subst q;exact⟨st.L,by simp[h]⟩
 ·rw[if_neg q]at h
  obtain⟨r,hr⟩:=h;exact⟨r,by rw[jL (by omega)];exact hr⟩
def DI(f:AV->Option AV):LV->Option LV
 | []=>some []
 | v::vs=>match f v with
  | some u=>match DI f vs with
   | some r=>some (u::r)
   | none=>none
  | none=>none
def fcV:Nat->AV->Option AV
 | 0,v=>some v
 | n+1,v=>match v with
  | .agg cs=>match DI (fcV n) cs with
   | some r=>some (.agg r)
   | none=>none
  | .tup cs=>match DI (fcV n) cs with
   | some r=>some (.tup r)
   | none=>none
  | .lit cs=>match DI (fcV n) cs with
   | some r=>some (.lit r)
   | none=>none
  | v=>some v
theorem HV{f:AV->Option AV}(hf:∀v r,f v=some r->v=r):∀ {l r:LV},DI f l=some r->l=r
 | [],r,h=>by simpa [DI] using h
 | v::vs,r,h=>by
  simp only[DI]at h;split at h
  ·rename_i u hu
   split at h
   ·rename_i q hq
    simp only[oJ]at h;rw[<- h,<- hf v u hu,HV hf hq]
   ·simp at h
  ·simp at h
theorem HW:∀ {n:Nat} {v r:AV},fcV n v=some r->v=r
 | 0,v,r,h=>by simpa [fcV] using h
 | n+1,v,r,h=>by
  cases v<;>simp only[fcV]at h
  case agg cs =>
   split at h
   ·rename_i q hq
    simp only[oJ]at h;rw[<- h,HV (fun v r h=>HW h) hq]
   ·simp at h
  case tup cs =>
   split at h
   ·rename_i q hq
    simp only[oJ]at h;rw[<- h,HV (fun v r h=>HW h) hq]
   ·simp at h
  case lit cs =>
   split at h
   ·rename_i q hq
    simp only[oJ]at h;rw[<- h,HV (fun v r h=>HW h) hq]
   ·simp at h
  all_goals simpa using h
def Fc(e:Env):List (Nat × Nat × Opd)->Option (List (Nat × Nat × AV))
 | []=>some []
 | (a,b,o)::ps=>match ZL e o with
  | some v=>match Fc e ps with
   | some r=>some ((a,b,v)::r)
   | none=>none
  | none=>none
def DJ(e:Env):List (Nat × Opd)->Option (List (Nat × AV))
 | []=>some []
 | (a,o)::ps=>match ZL e o with
  | some v=>match DJ e ps with
   | some r=>some ((a,v)::r)
   | none=>none
  | none=>none
theorem Sj{e:Env}:∀ {ps:List (Nat × Nat × Opd)} {r:List (Nat × Nat × AV)},Fc e ps=some r->Xx e ps=r
 | [],r,h=>by simp only[Fc,oJ]at h;rw[<- h];rfl
 | (a,b,o)::ps,r,h=>by
  simp only[Fc]at h;split at h
  ·rename_i v hv
   split at h
   ·rename_i q hq
    simp only[oJ]at h;rw[<- h,Xx,ZB hv,Sj hq]
   ·simp at h
  ·simp at h
theorem K7{e:Env}:∀ {ps:List (Nat × Opd)} {r:List (Nat × AV)},DJ e ps=some r->JU e ps=r
 | [],r,h=>by simp only[DJ,oJ]at h;rw[<- h];rfl
 | (a,o)::ps,r,h=>by
  simp only[DJ]at h;split at h
  ·rename_i v hv
   split at h
   ·rename_i q hq
    simp only[oJ]at h;rw[<- h,JU,ZB hv,K7 hq]
   ·simp at h
  ·simp at h
theorem Q2{b lv:Nat}(st:St)(h:lv<b):ZI Zs b st (.ref lv ix ver s n)=some (.ref lv ix ver s n,st):=by
 simp only[ZI,Zs,if_pos h]
theorem HX{L:List Blk}{m:Nat}(hg:L[ix]?=some (.arr w ver es))(hm:s+m<=es.length)(he:mapSt (ZI n 0) ⟨A,false,L.set ix .dead⟩ ((es.drop s).take m)=some (es',⟨A,false,L.set ix .dead⟩)):
 ZI (n+1) A.length ⟨A,false,L⟩ (.ref A.length ix ver s m)=some (.lit es',⟨A,false,L.set ix .dead⟩):=by
 simp only[ZI,Nat.lt_irrefl,if_false,and_self,if_true,hg,AG,true_and,if_pos hm,oS,he,Bq]
section
variable {O:Orc}{k:List Fr}{Q:JD}{e:Env}{A:List (Bool × List Blk)}{L L':List Blk}{keep:List Nat}{is:List PI}{d:Nat}
theorem cn{a:Opd}{lv:Nat}{y:AV}(ha:ZL e a=some (.ptr lv ix ver i o))(hx:ZL e x=some v)(hw:st.wr lv)(hg:st.get lv ix=some (Blk.arr w ver es))(hy:es[i]?=some y)
 (hs:ZI Zs (lv+1) st v=some (v,st)) (hv:(Q7 w y o n v).bind Yi=some v') (h:Is O is keep k Q e (st.upd lv ix (Blk.arr w ver (es.set i v')))):Is O (⟨none,none,false,.st n a x⟩::is) keep k Q e st:=by
 have hv':Q7 w y o n v=some v':=by
  simp only[oB]at hv;obtain⟨u,h1,h2⟩:=hv;rw[h1,EO h2]
 refine Zm (od:=none) (v:=.undef) (st':=st.upd lv ix (Blk.arr w ver (es.set i v'))) ?_ h;simp only[ZW,evalPO,ZB ha,ZB hx,A_,hs,oS,Bv,hg,Am,if_true,hy,hv',St.put_upd hw hg,AF]
theorem Cb{a:Opd}{lv:Nat}{y:AV}(hA:A=st.A++[(st.ro,st.L)])(ha:ZL e a=some (.ptr lv ix ver i o))(hx:ZL e x=some v)(hw:st.wr lv)(hg:st.get lv ix=some (Blk.arr w ver es))(hy:es[i]?=some y)
 (hs:ZI Zs (lv+1) ⟨A,false,L⟩ v=some (v,⟨A,false,L⟩)) (hv:(Q7 w y o n v).bind Yi=some v')
 (h:∀A',A'=(st.upd lv ix (Blk.arr w ver (es.set i v'))).A++[((st.upd lv ix (Blk.arr w ver (es.set i v'))).ro,(st.upd lv ix (Blk.arr w ver (es.set i v'))).L)]->Is O is keep k Q e ⟨A',false,L⟩):Is O (⟨none,none,false,.st n a x⟩::is) keep k Q e ⟨A,false,L⟩:=by
 have hl:=St.get_le hg;refine cn ha hx (Yj hA hl hw) (ZD hA hg) hy hs hv ?_;rw[JE hA hl];exact h _ Y
theorem Sk{len:Nat}{i:Opd}{a b:AV}(hx:ZL e x=some a)(hi:ZL e i=some b)(hv:GT agg len w b a=some v)(h:Is O is keep k Q ((d,v)::e) st):Is O (⟨some d,none,false,.ixArr agg len w x i⟩::is) keep k Q e st :=
 Zm (v:=v) (st':=st) (by simp only[ZW,evalPO,ZB hx,ZB hi,hv,oS,QL]) h
theorem YI{kk:Nat}{z:AV}{ok:Bool}{i:Opd}{a b:AV}(hx:ZL e x=some a)(hi:ZL e i=some b)(hv:lookV st kk z ok b a=some v)(h:Is O is keep k Q ((d,v)::e) st):Is O (⟨some d,none,false,.look kk z ok x i⟩::is) keep k Q e st :=
 Zm (v:=v) (st':=st) (by simp only[ZW,evalPO,ZB hx,ZB hi,hv,oS,QL]) h
theorem YL{b:PC}(h:Ru O b (.seq (.loop b)::k) Q e st):Ru O (.loop b) k Q e st:=by
 obtain⟨⟨x,e',st',h1,h2⟩⟩:=h;cases x with
 | norm =>
  obtain⟨x,e2,st2,h3,h4⟩:=h2;exact⟨⟨x,e2,st2,by rw[Dy,Dx,h1,oS,KD];exact h3,h4⟩⟩
 | ex id=>exact⟨⟨.ex id,e',st',by rw[Dy,Dx,h1];rfl,h2⟩⟩
 | ret=>exact⟨⟨.ret,e',st',by rw[Dy,Dx,h1];rfl,h2⟩⟩
def Bl{α:Type}:List α->Option Nat
 | []=>some 0
 | _::l=>match Bl l with
  | some n=>some (n+1)
  | none=>none
theorem DK{α:Type}:∀ {l:List α} {n:Nat},Bl l=some n->l.length=n
 | [],n,h=>by simp only[Bl,oJ]at h;subst h;rfl
 | a::l,n,h=>by
  simp only[Bl]at h;split at h
  ·rename_i m hm
   simp only[oJ]at h;subst h;rw[List.length_cons,DK hm]
  ·simp at h
theorem DL{a:LV}(hx:ZL e x=some (.lit a))(hn:Bl a=some n)(h:Is O is keep k Q ((d,.int .i64 (n:Nat))::e) st):Is O (⟨some d,none,false,.len 1 x⟩::is) keep k Q e st :=
 Kw hx (by rw[DK hn];exact h)
theorem cp{a:B8}(hx:ZL e x=some (.str a))(hn:Bl a=some n)(h:Is O is keep k Q ((d,.int .i64 (n:Nat))::e) st):Is O (⟨some d,none,false,.len 0 x⟩::is) keep k Q e st :=
 JQ hx (by rw[DK hn];exact h)
theorem Zi(hx:ZL e x=some v)(hw:v.wide=some w)(hv:Yi v=some v')(h:Is O is keep k Q ((d,.ptr A.length L.length 0 0 0)::e) ⟨A,false,L++[Blk.arr w 0 [v']]⟩):Is O (⟨some d,none,false,.box x⟩::is) keep k Q e ⟨A,false,L⟩:=by
 rw[<- EO hv]at h;exact Zm (v:=.ptr A.length L.length 0 0 0) (st':=⟨A,false,L++[Blk.arr w 0 [v]]⟩) (by simp only[ZW,evalPO,ZB hx,hw,oS,St.new_cur,BA]) h
theorem QU{a:Opd}{x:AV}(ha:ZL e a=some (.ptr A.length L.length ver i o))(hx:es[i]?=some x)(hv:Qs x agg o n=some v)
 (h:Is O is keep k Q ((d,v)::e) ⟨A,false,L++[Blk.arr w ver es]⟩):Is O (⟨some d,none,false,.ld agg n a⟩::is) keep k Q e ⟨A,false,L++[Blk.arr w ver es]⟩ :=
 ZE (w:=w) ha (by rw[List.getElem?_append_right (Nat.le_refl _)];simp) hx hv h
theorem Jr{a:Opd}{y:AV}(ha:ZL e a=some (.ptr A.length L.length ver i o))(hx:ZL e x=some v)(hy:es[i]?=some y)
 (hs:ZI Zs (A.length+1) ⟨A,false,L++[Blk.arr w ver es]⟩ v=some (v,⟨A,false,L++[Blk.arr w ver es]⟩)) (hv:(Q7 w y o n v).bind Yi=some v') {es':LV} (he:ZG (es.set i v')=some es') (h:Is O is keep k Q e ⟨A,false,L++[Blk.arr w ver es']⟩):Is O (⟨none,none,false,.st n a x⟩::is) keep k Q e ⟨A,false,L++[Blk.arr w ver es]⟩:=by
 refine Qn (w:=w) (es:=es) (y:=y) (by rw[List.getElem?_append_right (Nat.le_refl _)];simp) ha hx hy hs hv ?_;rw[<- Ji he]at h;rw[List.set_append_right _ _ (Nat.le_refl _)];simpa using h
theorem K8{bytes:Nat}{s:Opd}{y:AV}(hs:ZL e s=some (.ref A.length ix ver 0 n))(hx:ZL e x=some (.lit [y]))(hg:L[ix]?=some (Blk.arr w ver es))(hb:n=es.length)
 (hl:es.length+1<4294967296) (hw:bytes<=4096) (hsm:y.wide=some w) (hm:ZI Zs (A.length+1) ⟨A,false,L⟩ y=some (y,⟨A,false,L⟩))
 (h:Is O is keep k Q ((d,.ref A.length ix (ver+1) 0 (n+1))::e) ⟨A,false,L.set ix (Blk.arr w (ver+1) (es++[y]))⟩):Is O (⟨some d,none,false,.app w bytes s x⟩::is) keep k Q e ⟨A,false,L⟩:=by
 have hlt:ix<L.length:=by
  rw[List.getElem?_eq_some_iff]at hg;exact hg.1
 subst hb;refine Zm (v:=.ref A.length ix (ver+1) 0 (es.length+1)) (st':=⟨A,false,L.set ix (Blk.arr w (ver+1) (es++[y]))⟩) ?_ h;have hm2:mapSt (ZI Zs (A.length+1)) ⟨A,false,L⟩ [y]=some ([y],⟨A,false,L⟩):=by simp only[mapSt,hm,oS,Y3]
 have hw2:Qy w [y]=true:=by simp[Qy,hsm]
 simp only[ZW,evalPO,ZB hs,ZB hx,elems,oS,Q8,if_pos hw2,hm2,BX,St.get_cur,hg,vis,Ag,true_and,List.length_singleton,if_pos (show 0+es.length<=es.length/\es.length+1<4294967296/\bytes<=4096 by omega),St.put,if_true,if_false,jB,if_pos hlt,List.drop_zero,List.take_length]
theorem Zf{ps:List (Nat × Nat × Opd)}{qs:List (Nat × Nat × AV)}(hq:Fc e ps=some qs)(hf:fillV z qs=some cs)(hv:ZG cs=some vs)(h:Is O is keep k Q ((d,.agg vs)::e) st):Is O (⟨some d,none,false,.build z ps⟩::is) keep k Q e st :=
 ce (Sj hq) hf hv h
theorem Z7{ps:List (Nat × Opd)}{qs:List (Nat × AV)}(hq:DJ e ps=some qs)(hf:fillE w z qs=some es)(hb:BZ false w st es=some (v,st'))(hv:fcV 3 v=some u)(h:Is O is keep k Q ((d,u)::e) st'):Is O (⟨some d,none,false,.bslice false w z ps⟩::is) keep k Q e st:=by
 rw[<- HW hv]at h;exact K2 (K7 hq) hf hb h
theorem cq{ps:List (Nat × Opd)}{qs:List (Nat × AV)}(hq:DJ e ps=some qs)(hf:fillE w z qs=some es)(he:ZG es=some es')(hL:YC (L++[Blk.arr w 0 es'])=some L')(h:Is O is keep k Q ((d,.ref A.length L.length 0 0 es'.length)::e) ⟨A,false,L'⟩):Is O (⟨some d,none,false,.bslice true w z ps⟩::is) keep k Q e ⟨A,false,L⟩ :=
 ci (K7 hq) hf he hL h
end
section
variable {O:Orc}{k:List Fr}{Q:JD}{e:Env}{A:List (Bool × List Blk)}{L L':List Blk}{keep:List Nat}{is:List PI}{d:Nat}
theorem cr{a:Opd}{y:AV}(hg:L[ix]?=some (Blk.arr w ver es))(ha:ZL e a=some (.ptr A.length ix ver i o))(hx:ZL e x=some v)(hy:es[i]?=some y)
 (hs:ZI Zs (A.length+1) ⟨A,false,L⟩ v=some (u,⟨A,false,L⟩)) (hv:(Q7 w y o n u).bind Yi=some v') (h:Is O is keep k Q e ⟨A,false,L.set ix (Blk.arr w ver (es.set i v'))⟩):Is O (⟨none,none,false,.st n a x⟩::is) keep k Q e ⟨A,false,L⟩:=by
 have hlt:ix<L.length:=by
  rw[List.getElem?_eq_some_iff]at hg;exact hg.1
 have hv':Q7 w y o n u=some v':=by
  simp only[oB]at hv;obtain⟨u,h1,h2⟩:=hv;rw[h1,EO h2]
 refine Zm (od:=none) (v:=.undef) (st':=⟨A,false,L.set ix (Blk.arr w ver (es.set i v'))⟩) ?_ h;simp only[ZW,evalPO,ZB ha,ZB hx,A_,hs,oS,Bv,St.get_cur,hg,vis,Am,if_true,hy,hv',St.put,if_false,jB,if_pos hlt,AF]
theorem Sm{a:Opd}{y:AV}(ha:ZL e a=some (.ptr A.length ix ver i o))(hx:ZL e x=some .nils)(hg:L[ix]?=some (Blk.arr w ver es))(hy:es[i]?=some y)
 (hv:(Q7 w y o n (.lit [])).bind Yi=some v') (h:Is O is keep k Q e ⟨A,false,L.set ix (Blk.arr w ver (es.set i v'))⟩):Is O (⟨none,none,false,.st n a x⟩::is) keep k Q e ⟨A,false,L⟩ :=
 cr hg ha hx hy rfl hv h
end
end Go.QAbs
