/- A part of the proof: R3, R4, P5, P6, P7, P8, P9, YR, YR2, YR3, YR4, S1, S2, W, W2, W3. No condition. -/
import Derived.Orders
import Derived.OrdersIn
import Derived.RangeFuncIn
import Derived.LoopN
import Derived.LoopNIn
import Derived.Scope
import Derived.RangeFuncRecord
import Derived.Shelf.SlicesE.Clone
import Derived.Test.YtnbialakgbcbfaaGreatSaT2
set_option linter.unusedVariables false
set_option linter.unusedSimpArgs false
namespace Go.QAbs
section
variable {P:Program} {O:Orc} {W0:World} {B0:Bse} {st st':St} {ρ:Rho} {W:World} {e:Env} {a:Act}
theorem box_inv {own:Bool} {cm:CM} {o:Oper} {x:Opd} (h:compOp P own cm o=some (.box x)):(∃ el z,o.op=.alloc el∧zeroC P el=some z∧x=.v z)∨(∃ el y,o.op=.box el y∧opd y=some x):=by
 cases hop:o.op with
 | alloc el =>
  left
  simp only [compOp,hop] at h
  repeat' first
   | (exfalso;simp at h;done)
   | (exfalso;simp only [oB] at h;obtain ⟨_,_,h⟩:=h;repeat' split at h<;>simp at h;done)
   | split at h
  all_goals
   simp only [oM,PO.box.injEq] at h
   obtain ⟨z,hz,rfl⟩:=h
   exact ⟨el,z,rfl,hz,rfl⟩
 | box el y =>
  right
  simp only [compOp,hop] at h
  split at h
  ·exfalso
   repeat' first
    | (simp at h;done)
    | split at h
    | (simp only [oB] at h;obtain ⟨_,_,h⟩:=h)
  ·simp only [oM,PO.box.injEq] at h
   obtain ⟨z,hz,rfl⟩:=h
   exact ⟨el,_,rfl,hz⟩
 | call c =>
  exfalso
  simp only [compOp,hop] at h
  split at h
  ·unfold compBuiltin at h
   repeat' split at h
   all_goals simp [oB,oM] at h
   all_goals (split at h<;>simp at h)
  ·simp [oB,oM] at h
  ·simp at h
 | makeMap t r=>exfalso;cases r<;>simp [compOp,hop] at h
 | slice t x lo hi mx =>
  exfalso
  cases mx<;>simp only [compOp,hop] at h
  all_goals repeat' first
   | (exfalso;simp at h;done)
   | split at h
   | (simp only [oB] at h;obtain ⟨_,_,h⟩:=h)
 | _ =>
  exfalso
  simp only [compOp,hop] at h
  repeat' first
   | (exfalso;simp at h;done)
   | split at h
   | (simp only [oB] at h;obtain ⟨_,_,h⟩:=h)
   | (simp only [oM] at h;obtain ⟨_,_,h⟩:=h)
   | unfold eqsOf at h
theorem no_w {own:Bool} {cm:CM} {o:Oper} {k:WK} {q:PO} (h:compOp P own cm o=some (.w k q)):False:=by
 cases hop:o.op with
 | call c =>
  simp only [compOp,hop] at h
  split at h
  ·unfold compBuiltin at h
   repeat' split at h
   all_goals simp [oB,oM] at h
   all_goals (split at h<;>simp at h)
  ·simp [oB,oM] at h
  ·simp at h
 | makeMap t r=>cases r<;>simp [compOp,hop] at h
 | slice t x lo hi mx =>
  cases mx<;>simp only [compOp,hop] at h
  all_goals repeat' first
   | (exfalso;simp at h;done)
   | split at h
   | (simp only [oB] at h;obtain ⟨_,_,h⟩:=h)
 | _ =>
  simp only [compOp,hop] at h
  repeat' first
   | (exfalso;simp at h;done)
   | split at h
   | (simp only [oB] at h;obtain ⟨_,_,h⟩:=h)
   | (simp only [oM] at h;obtain ⟨_,_,h⟩:=h)
   | unfold eqsOf at h
theorem mksl_inv {own:Bool} {cm:CM} {o:Oper} {w bytes:Nat} {z:AV} {l c:Opd} (h:compOp P own cm o=some (.mkslice w bytes z l c)) :
 ∃ t l' c' el i,o.op=.makeSlice t l' c'∧P.underlying t=some (.slice el)∧P.info? el=some i∧i.size≠0∧zeroC P el=some z∧z.wide=some i.size∧opd l'=some l∧opd c'=some c∧i.size=w∧i.bytes=bytes:=by
 cases hop:o.op with
 | makeSlice t l' c' =>
  simp only [compOp,hop] at h
  split at h
  ·rename_i el hu
   simp only [oB] at h
   obtain ⟨i,hi,h⟩:=h
   split at h
   ·simp at h
   ·rename_i hw0
    simp only [oB] at h
    obtain ⟨z',hz,h⟩:=h
    split at h
    ·rename_i hzw
     simp only [oB,oM,PO.mkslice.injEq] at h
     obtain ⟨l2,hl,c2,hc,rfl,rfl,rfl,rfl,rfl⟩:=h
     exact ⟨t,l',c',el,i,rfl,hu,hi,hw0,hz,hzw,hl,hc,rfl,rfl⟩
    ·simp at h
  ·simp at h
 | call c =>
  exfalso
  simp only [compOp,hop] at h
  split at h
  ·unfold compBuiltin at h
   repeat' split at h
   all_goals simp [oB,oM] at h
   all_goals (split at h<;>simp at h)
  ·simp [oB,oM] at h
  ·simp at h
 | makeMap t r=>exfalso;cases r<;>simp [compOp,hop] at h
 | slice t x lo hi mx =>
  exfalso
  cases mx<;>simp only [compOp,hop] at h
  all_goals repeat' first
   | (exfalso;simp at h;done)
   | split at h
   | (simp only [oB] at h;obtain ⟨_,_,h⟩:=h)
 | _ =>
  exfalso
  simp only [compOp,hop] at h
  repeat' first
   | (exfalso;simp at h;done)
   | split at h
   | (simp only [oB] at h;obtain ⟨_,_,h⟩:=h)
   | (simp only [oM] at h;obtain ⟨_,_,h⟩:=h)
   | unfold eqsOf at h
theorem here_fin (hr:Rel W0 B0 st ρ W) (he:EnvR (cx st ρ W st.A.length) e a.tmps) {o:Oper} {own:Bool} {cm:CM} {po:PO} {j:Nat} {v:AV} (hc:compOp P own cm o=some po)
 (h:evalW e st po (.here j)=some (v,st')):Fin W0 B0 st ρ W ((execOp a.eval o).run P W) v st':=by
 obtain ⟨⟨blk,mk⟩,k,hb,hro,him,hk,rfl,rfl⟩:=here_inv h
 simp only at him ⊢
 have hvis:vis (some blk)=some blk:=by
  cases blk<;>first|rfl|simp [immB] at him
 have hn:News st blk k { st with L:=st.L.set k blk }:=.of_fill hro (findH_some hk) hvis
 unfold newOf at hb
 split at hb
 ·rename_i x
  simp only [oB,oJ,Prod.mk.injEq] at hb
  obtain ⟨w,hw,rfl,rfl⟩:=hb
  have boxN:∀ {s:Sem Value} {t:TypeId} {y:Value},R (cx st ρ W st.A.length) (x.get e) y→(∀ r W',(newVar t y).run P W=.ok r W'→s.run P W=.ok (.pointer (some r)) W') →
   (execOp a.eval o).run P W=(do pure (Next.value (← s)):Sem Next).run P W→Fin W0 B0 st ρ W ((execOp a.eval o).run P W) (.ptr st.A.length k 0 0 0) { st with L:=st.L.set k (.arr w 0 [x.get e]) }:=by
   intro s t y hx hs hrun
   obtain ⟨ρ',W',e1,g,hv⟩:=box_ok (P:=P) (t:=t) hr hx hw hn
   exact ⟨_,_,_,_,by rw [hrun];exact run_v (hs _ _ e1),.inl rfl,g,hv⟩
  rcases box_inv hc with ⟨el,z,hop,hz,rfl⟩|⟨el,y,hop,hy⟩
  ·obtain ⟨zv,hzr,hzc,_⟩:=run_zero (W:=W) hz
   exact boxN (s:=Instr.alloc el true (.tuple #[])) (t:=el) (hzc _) (fun r W' hn=>by simp [Instr.alloc,hzr,hn]) (by simp [execOp,hop])
  ·exact boxN (s:=Instr.box el (a.eval y)) (t:=el) (opd_ok hy he) (fun r W' hn=>by simp [Instr.box,hn]) (by simp [execOp,hop])
 ·rename_i w bytes z l c
  simp only [oB,oJ,Prod.mk.injEq] at hb
  obtain ⟨⟨b,n⟩,hb,rfl,rfl⟩:=hb
  obtain ⟨t,l',c',el,i,hop,hu,hi,hw0,hz,hzw,hl,hc',rfl,rfl⟩:=mksl_inv hc
  obtain ⟨x,ρ',W',hx,g,hv⟩:=mkslV_okN (P:=P) hr hb hn (opd_ok hl he) (opd_ok hc' he) hu hi rfl rfl hw0 hz hzw
  exact ⟨_,_,_,_,by simp only [execOp,hop];exact run_v hx,.inl rfl,g,hv⟩
 ·simp at hb
theorem w_fin (hr:Rel W0 B0 st ρ W) (he:EnvR (cx st ρ W st.A.length) e a.tmps) {o:Oper} {own:Bool} {cm:CM} {po:PO} {k:WK} {v:AV} (hc:compOp P own cm o=some po)
 (h:evalW e st po k=some (v,st')):Fin W0 B0 st ρ W ((execOp a.eval o).run P W) v st':=by
 have nc:∀ {po:PO} {r:AV × St},compOp P own cm o=some po→evalPO e st po=some r→Fin W0 B0 st ρ W ((execOp a.eval o).run P W) r.1 r.2:=by
  intro po r hc h
  exact op_fin hr he hc (fun m f l q=>by subst q;simp [evalPO] at h) h
 cases k with
 | blind =>
  simp only [evalW] at h
  split at h
  ·rename_i hrd
   simp only [oB,pureK,oJ,Prod.mk.injEq] at h
   obtain ⟨⟨q1,q2⟩,hq,rfl,rfl⟩:=h
   exact nc hc (reads_mono hrd (.blank st) hq).1
  ·simp at h
 | hide _ =>
  simp only [evalW] at h
  split at h
  ·rename_i hrd
   simp only [oB,pureK,oJ,Prod.mk.injEq] at h
   obtain ⟨⟨q1,q2⟩,hq,rfl,rfl⟩:=h
   exact nc hc (reads_mono hrd (.hide _ st) hq).1
  ·simp at h
 | only b =>
  simp only [evalW] at h
  split at h
  ·rename_i hrd
   simp only [oB,pureK,oJ,Prod.mk.injEq] at h
   obtain ⟨⟨q1,q2⟩,hq,rfl,rfl⟩:=h
   exact nc hc (reads_mono hrd (.hide _ st) hq).1
  ·simp at h
 | imm =>
  simp only [evalW] at h
  unfold immW at h
  split at h
  ·rename_i w z ps
   simp only [oB,immK] at h
   obtain ⟨es,hes,h⟩:=h
   split at h
   ·rename_i hi
    simp only [oJ,Prod.mk.injEq] at h
    obtain ⟨rfl,rfl⟩:=h
    refine nc (r:=(if es.isEmpty=true then .nils else .lit es,st)) hc ?_
    simp only [evalPO,hes,oS,bslK,Bool.false_eq_true,if_false]
    by_cases he':es.isEmpty=true
    ·simp [he']
    ·rw [if_neg he',if_neg he']
     have:=mapSt_id (f:=sealV deep 0) (st:=st) (es:=es) fun v hv=>seal_imm (List.all_eq_true.1 hi v hv)
     rw [this];rfl
   ·simp at h
  ·simp at h
 | app0 =>
  simp only [evalW] at h
  unfold app0W at h
  split at h
  ·split at h
   ·exact nc hc h
   ·simp at h
  ·simp at h
 | off b =>
  simp only [evalW] at h
  unfold offW at h
  split at h
  ·split at h
   ·exact nc hc h
   ·simp at h
  ·simp at h
 | plain b =>
  simp only [evalW] at h
  unfold plainW at h
  split at h
  ·split at h
   ·exact nc hc h
   ·simp at h
  ·simp at h
 | here j=>exact here_fin hr he hc h
 | grow b =>
  simp only [evalW] at h
  unfold growW at h
  split at h
  ·split at h
   ·exact nc hc h
   ·simp at h
  ·simp at h
end
end Go.QAbs
namespace Go.QAbs
open Go.RowKit (Below)
section
variable {P:Program} {O:Orc} {W0:World} {B0:Bse} {st s:St} {ρ ρ2:Rho} {W W2:World}
theorem imm_R:∀ {n:Nat} {C D:Cx} {v:AV} {x:Value},imm n v=true→R C v x→(∀ b o u,C.im b o u→D.im b o u)→R D v x
 | 0,C,D,v,x,h,_,_=>by simp [imm] at h
 | n+1,C,D,v,x,h,hR,hm=>by
  have hp:C.pure.le D.pure:=⟨hm,fun _ _ _ _ _ _ q=>q,fun _ _ _ _ _ _ q=>q,fun _ _ _ q=>q,fun _ _ _ q=>q⟩
  cases hR with
  | any=>exact .any _
  | undef=>exact .undef
  | bool b=>exact .bool b
  | int k n=>exact .int k n
  | str s=>exact .str s
  | nilptr=>exact .nilptr
  | lptr h1 h2=>exact .lptr (h1.mono hp) (h2.mono hm)
  | nils a=>simp [imm] at h
  | lit0 a c=>exact .lit0 a c
  | lit xs h1 h2 h3=>exact .lit xs (fun i e he=>(h1 i e he).mono hp) (fun i hi=>⟨(h2 i hi).1,(h2 i hi).2.mono hm⟩) h3
  | nilmap=>exact .nilmap
  | nilfunc=>exact .nilfunc
  | niliface=>exact .niliface
  | agg hl h1 =>
   simp only [imm,List.all_eq_true] at h
   refine .agg hl fun i v x hv hx=>?_
   have h2:=h v (List.mem_of_getElem? hv)
   have h3:=h1 i v x hv hx
   cases v with
   | nils=>cases h3 with|nils a=>exact .nils a
   | _=>exact imm_R (by simpa [isNils] using h2) h3 hm
  | tup hl h1 =>
   simp only [imm,List.all_eq_true] at h
   exact .tup hl fun i v x hv hx=>imm_R (h v (List.mem_of_getElem? hv)) (h1 i v x hv hx) hm
  | ptr _=>simp [imm] at h
  | ref _=>simp [imm] at h
  | map _=>simp [imm] at h
  | func _ _ _ _ _=>simp [imm] at h
  | yld _ _ _=>simp [imm] at h
  | iface _ _=>simp [imm] at h
theorem adopt_ok (hr:Rel W0 B0 s ρ2 W2) (he:Ev st.push ρ W s ρ2 W2) {A':List (Bool × List Blk)} {r:Bool × List Blk} (hp:pop s.A=some (A',r)) (hro:r.1=false) {ix w ver b n:Nat} {es0:List AV}
 (hL:s.L[ix]?=some (.arr w ver es0)) (hbn:b+n≤es0.length) (him:((es0.drop b).take n).all (imm 6)=true) {x:Value} (hx:(cx s ρ2 W2 s.A.length).ref s.A.length ix ver b n x) :
 ∃ ρ4,Goes W0 B0 st ρ W ⟨A',r.1,r.2++[.arr w 0 ((es0.drop b).take n)]⟩ ρ4 W2∧(∀ m,m≤st.A.length→(cx s ρ2 W2 m).le (cx ⟨A',r.1,r.2++[.arr w 0 ((es0.drop b).take n)]⟩ ρ4 W2 m)) ∧
  R (cx ⟨A',r.1,r.2++[.arr w 0 ((es0.drop b).take n)]⟩ ρ4 W2 A'.length) (.ref A'.length r.2.length 0 0 n) x:=by
 have hA:=pop_eq hp
 have hlen:A'.length=st.A.length:=by have:=he.len;rw [hA] at this;simp [St.push] at this;exact this
 have hsA:s.A.length=A'.length+1:=by rw [hA];simp
 have hst2:s=⟨A'++[(r.1,r.2)],s.ro,s.L⟩:=by rw [← hA]
 have hget0:s.get s.A.length ix=some (.arr w ver es0):=by simp [St.get,hL,vis]
 have hold:∀ lv' ix',lv'≤A'.length→s.get lv' ix'=St.get ⟨A',r.1,r.2⟩ lv' ix':=by
  intro lv' ix' h
  rw [hst2,St.get_push,if_neg (by omega)]
 generalize hes:(es0.drop b).take n=es at *
 have hesl:es.length=n:=by rw [← hes];simp;omega
 let l0:=ρ2 s.A.length ix
 let ρ4:=upd ρ2 A'.length r.2.length ⟨l0.b,l0.o+b*w,l0.c-b⟩
 have hg0:St.get ⟨A',r.1,r.2++[.arr w 0 es]⟩ A'.length r.2.length=some (.arr w 0 es):=by simp [St.get,vis]
 have hg1:∀ lv' ix',¬ (lv'=A'.length∧ix'=r.2.length)→St.get ⟨A',r.1,r.2++[.arr w 0 es]⟩ lv' ix'=St.get ⟨A',r.1,r.2⟩ lv' ix':=by
  intro lv' ix' hne
  simp only [St.get]
  split
  ·rename_i h1
   by_cases h3:ix'<r.2.length
   ·rw [List.getElem?_append_left h3]
   ·have:¬ ix'=r.2.length:=fun he=>hne ⟨h1,he⟩
    rw [List.getElem?_eq_none (by simp;omega),List.getElem?_eq_none (by omega)]
  ·rfl
 have hnone:St.get ⟨A',r.1,r.2⟩ A'.length r.2.length=none:=by simp [St.get,vis]
 have hr4:∀ lv' ix',¬ (lv'=A'.length∧ix'=r.2.length)→ρ4 lv' ix'=ρ2 lv' ix':=fun lv' ix' h=>upd_ne _ _ _ _ h
 have hr0:ρ4 A'.length r.2.length=⟨l0.b,l0.o+b*w,l0.c-b⟩:=upd_same _ _ _ _
 have aok:=hr.arr _ _ _ _ _ hget0
 have hclen:=aok.len
 -- what t shows,s shows
 have hback:∀ lv' ix' blk,St.get ⟨A',r.1,r.2++[.arr w 0 es]⟩ lv' ix'=some blk→¬ (lv'=A'.length∧ix'=r.2.length)→s.get lv' ix'=some blk∧lv'≤A'.length:=by
  intro lv' ix' blk h hne
  have hl:=St.get_le h
  rw [hg1 _ _ hne,← hold _ _ hl] at h
  exact ⟨h,hl⟩
 have hfwd:∀ lv' ix',lv'≤A'.length→(s.get lv' ix').isSome=true→¬ (lv'=A'.length∧ix'=r.2.length):=by
  rintro lv' ix' h1 h2 ⟨rfl,rfl⟩
  rw [hold _ _ h1,hnone] at h2;simp at h2
 have heq:∀ lv' ix',lv'≤A'.length→¬ (lv'=A'.length∧ix'=r.2.length)→St.get ⟨A',r.1,r.2++[.arr w 0 es]⟩ lv' ix'=s.get lv' ix':=by
  intro lv' ix' h1 h2
  rw [hg1 _ _ h2,hold _ _ h1]
 have hmul:∀ j,j<(l0.c-b)*w→b*w+j<l0.c*w:=by
  intro j hj
  have:(l0.c-b)*w+b*w=l0.c*w:=by rw [← Nat.add_mul];congr 1;show (ρ2 s.A.length ix).c-b+b=(ρ2 s.A.length ix).c;omega
  omega
 have hle:∀ m,m≤A'.length→(cx s ρ2 W2 m).le (cx ⟨A',r.1,r.2++[.arr w 0 es]⟩ ρ4 W2 m):=by
  intro m hm
  refine ⟨?_,?_,?_,?_,fun _ _ _ q=>q⟩
  ·rintro b' o' v ⟨h1,h2⟩
   refine ⟨h1,fun hmut=>h2 ?_⟩
   obtain ⟨lv',ix',w',ver',es',hg,hr1,hr2,hr3⟩:=hmut
   by_cases hne:lv'=A'.length∧ix'=r.2.length
   ·obtain ⟨rfl,rfl⟩:=hne
    rw [hg0] at hg
    simp only [oJ,Blk.arr.injEq] at hg
    obtain ⟨rfl,_,_⟩:=hg
    rw [hr0] at hr1 hr2 hr3
    simp only at hr1 hr2 hr3
    refine ⟨s.A.length,ix,w,ver,es0,hget0,hr1,by show l0.o≤o';omega,?_⟩
    have:=hmul (o'-(l0.o+b*w)) (by omega)
    show o'<l0.o+l0.c*w
    omega
   ·rw [hr4 _ _ hne] at hr1 hr2 hr3
    exact ⟨lv',ix',w',ver',es',(hback _ _ _ hg hne).1,hr1,hr2,hr3⟩
  ·rintro lv' ix' ver' i o' v ⟨h1,h2,h3,h4,h5⟩
   have hne:=hfwd lv' ix' (by omega) h2
   have e:=heq lv' ix' (by omega) hne
   exact ⟨h1,by rw [e];exact h2,h3,fun w u es hg=>h4 w u es (by rw [← e];exact hg),fun w es hg=>by rw [hr4 _ _ hne];exact h5 w es (by rw [← e];exact hg)⟩
  ·rintro lv' ix' ver' i o' v ⟨h1,h2,h3,a,c,h4,h5⟩
   have hne:=hfwd lv' ix' (by omega) h2
   have e:=heq lv' ix' (by omega) hne
   exact ⟨h1,by rw [e];exact h2,fun w u es hg=>h3 w u es (by rw [← e];exact hg),a,c,h4,fun w es hg=>by rw [hr4 _ _ hne];exact h5 w es (by rw [← e];exact hg)⟩
  ·rintro lv' ix' v ⟨h1,h2,r',h3,h5⟩
   have hne:=hfwd lv' ix' (by omega) h2
   have e:=heq lv' ix' (by omega) hne
   exact ⟨h1,by rw [e];exact h2,r',h3,fun es hg=>by rw [hr4 _ _ hne];exact h5 es (by rw [← e];exact hg)⟩
 have hrel:Rel W0 B0 ⟨A',r.1,r.2++[.arr w 0 es]⟩ ρ4 W2:=by
  have selfNe:∀ lv' ix',lv'≤A'.length→¬ (lv'=s.A.length∧ix'=ix):=by rintro lv' ix' h ⟨rfl,_⟩;omega
  refine ⟨hr.below,hr.b0,hr.yl,?_,?_,?_,?_⟩
  ·intro lv' ix' w' ver' es' hg
   by_cases hne:lv'=A'.length∧ix'=r.2.length
   ·obtain ⟨rfl,rfl⟩:=hne
    rw [hg0] at hg
    simp only [oJ,Blk.arr.injEq] at hg
    obtain ⟨rfl,_,rfl⟩:=hg
    rw [hr0]
    refine ⟨by show es.length≤l0.c-b;have:es0.length≤l0.c:=hclen;omega,fun i e hi=>?_,fun j hj=>?_⟩
    ·have hi':=lt_of_get hi
     rw [← hes,List.getElem?_take] at hi
     split at hi
     ·rw [List.getElem?_drop] at hi
      obtain ⟨y,q1,q2,q3⟩:=aok.el _ _ hi
      have himm:imm 6 e=true:=List.all_eq_true.1 him e (by rw [← hes];rw [← hes] at hi';exact List.mem_of_getElem? (i:=i) (by rw [List.getElem?_take,if_pos (by omega),List.getElem?_drop];exact hi))
      refine ⟨y,imm_R himm q1 ?_,q2,?_⟩
      ·exact (hle A'.length (Nat.le_refl _)).im
      ·show Lies _ l0.b (l0.o+b*w+i*w) y
       have e1:l0.o+b*w+i*w=l0.o+(b+i)*w:=by rw [Nat.add_mul];omega
       rw [e1];exact q3
     ·simp at hi
    ·have:=aok.mem (b*w+j) (hmul j hj)
     have e1:(ρ2 s.A.length ix).o+(b*w+j)=l0.o+b*w+j:=by show l0.o+(b*w+j)=_;omega
     rw [e1] at this;exact this
   ·obtain ⟨h1,h2⟩:=hback _ _ _ hg hne
    obtain ⟨a1,a2,a3⟩:=hr.arr _ _ _ _ _ h1
    rw [hr4 _ _ hne]
    refine ⟨a1,fun i e he=>?_,a3⟩
    obtain ⟨y,q1,q2⟩:=a2 i e he
    exact ⟨y,q1.mono (hle lv' h2),q2⟩
  ·intro lv1 ix1 w1 ver1 es1 lv2 ix2 w2 ver2 es2 hg1' hg2' hne12 j1 j2 hj1 hj2
   by_cases hn1:lv1=A'.length∧ix1=r.2.length
   ·obtain ⟨rfl,rfl⟩:=hn1
    have hn2:¬ (lv2=A'.length∧ix2=r.2.length):=fun q=>hne12 ⟨q.1.symm,q.2.symm⟩
    obtain ⟨k1,k2⟩:=hback _ _ _ hg2' hn2
    rw [hg0] at hg1'
    simp only [oJ,Blk.arr.injEq] at hg1'
    obtain ⟨rfl,_,_⟩:=hg1'
    rw [hr0] at hj1
    rw [hr0,hr4 _ _ hn2]
    rw [hr4 _ _ hn2] at hj2
    have:=hr.sep _ _ _ _ _ _ _ _ _ _ hget0 k1 (fun q=>selfNe _ _ k2 ⟨q.1.symm,q.2.symm⟩) (b*w+j1) j2 (hmul j1 hj1) hj2
    rintro ⟨p1,p2⟩
    exact this ⟨p1,by simp only at p2;show l0.o+(b*w+j1)=_;omega⟩
   ·obtain ⟨k1,k2⟩:=hback _ _ _ hg1' hn1
    by_cases hn2:lv2=A'.length∧ix2=r.2.length
    ·obtain ⟨rfl,rfl⟩:=hn2
     rw [hg0] at hg2'
     simp only [oJ,Blk.arr.injEq] at hg2'
     obtain ⟨rfl,_,_⟩:=hg2'
     rw [hr0] at hj2
     rw [hr0,hr4 _ _ hn1]
     rw [hr4 _ _ hn1] at hj1
     have:=hr.sep _ _ _ _ _ _ _ _ _ _ k1 hget0 (selfNe _ _ k2) j1 (b*w+j2) hj1 (hmul j2 hj2)
     rintro ⟨p1,p2⟩
     exact this ⟨p1,by simp only at p2;show _=l0.o+(b*w+j2);omega⟩
    ·obtain ⟨m1,m2⟩:=hback _ _ _ hg2' hn2
     rw [hr4 _ _ hn1] at hj1
     rw [hr4 _ _ hn2] at hj2
     rw [hr4 _ _ hn1,hr4 _ _ hn2]
     exact hr.sep _ _ _ _ _ _ _ _ _ _ k1 m1 hne12 j1 j2 hj1 hj2
  ·intro lv' ix' es' hg
   have hne:¬ (lv'=A'.length∧ix'=r.2.length):=by rintro ⟨rfl,rfl⟩;rw [hg0] at hg;simp at hg
   obtain ⟨h1,h2⟩:=hback _ _ _ hg hne
   obtain ⟨m1,en,clock,m2,m3,m4⟩:=hr.map _ _ _ h1
   rw [hr4 _ _ hne]
   refine ⟨m1,en,clock,m2,m3,fun i k v hk=>?_⟩
   obtain ⟨n1,x,n2,n3,n4⟩:=m4 i k v hk
   exact ⟨n1,x,n2,n3.mono (hle _ h2),n4.mono (hle _ h2)⟩
  ·intro lv1 ix1 es1 lv2 ix2 es2 hg1' hg2' hne12
   have hn1:¬ (lv1=A'.length∧ix1=r.2.length):=by rintro ⟨rfl,rfl⟩;rw [hg0] at hg1';simp at hg1'
   have hn2:¬ (lv2=A'.length∧ix2=r.2.length):=by rintro ⟨rfl,rfl⟩;rw [hg0] at hg2';simp at hg2'
   rw [hr4 _ _ hn1,hr4 _ _ hn2]
   exact hr.msep _ _ _ _ _ _ (hback _ _ _ hg1' hn1).1 (hback _ _ _ hg2' hn2).1 hne12
 have hA0:st.push.A[st.A.length]?=some (st.ro,st.L):=by simp [St.push]
 obtain ⟨r',h1,h2,h3⟩:=he.old _ _ hA0
 have hr':r'=r:=by
  rw [hA,← hlen] at h1
  simpa using h1.symm
 subst hr'
 refine ⟨ρ4,⟨hrel,hlen,?_,?_,h2,fun hro'=>?_,he.yl⟩,fun m hm=>hle m (by omega),?_⟩
 ·intro m hm
  exact ((Sub.push st).cx hm).trans ((he.le m (by simp [St.push];omega)).trans (hle m (by omega)))
 ·intro lv x hx
  have hlt:=lt_of_get hx
  have hx':st.push.A[lv]?=some x:=by simp only [St.push];rw [List.getElem?_append_left hlt];exact hx
  obtain ⟨y,k1,k2,k3⟩:=he.old _ _ hx'
  refine ⟨y,?_,k2,k3⟩
  rw [hA,List.getElem?_append_left (by omega)] at k1
  exact k1
 ·have h2':r'.1=st.ro:=h2
  rw [hro] at h2';rw [← h2'] at hro';simp at hro'
 ·obtain ⟨p1,p2,p3,a,c,rfl,p4⟩:=hx
  obtain ⟨q1,q2,q3⟩:=p4 w es0 hget0
  refine .ref ⟨Nat.le_refl _,by rw [hg0];rfl,fun w' u es' hg=>Nat.zero_le _,a,c,rfl,fun w' es' hg=>?_⟩
  rw [hg0] at hg
  simp only [oJ,Blk.arr.injEq] at hg
  obtain ⟨rfl,_,rfl⟩:=hg
  rw [hr0]
  refine ⟨by omega,by show c+0=l0.c-b;have:c+b=l0.c:=q2;omega,fun hlt=>?_⟩
  have:=q3 (by have:c+b=l0.c:=q2;have:0<l0.c-b:=hlt;show b<l0.c;omega)
  rw [this]
  simp only [oJ]
  congr 1
  show l0.o+b*w=l0.o+b*w+0*w
  omega
theorem adopt1_ok (hr:Rel W0 B0 s ρ2 W2) (he:Ev st.push ρ W s ρ2 W2) {v:AV} {r:AV × St} (h:adopt1 s v=some r) {x:Value} (hx:R (cx s ρ2 W2 s.A.length) v x) :
 ∃ ρ4,Goes W0 B0 st ρ W r.2 ρ4 W2∧(∀ m,m≤st.A.length→(cx s ρ2 W2 m).le (cx r.2 ρ4 W2 m))∧R (cx r.2 ρ4 W2 r.2.A.length) r.1 x:=by
 cases v with
 | ref lv ix ver b n =>
  simp only [adopt1] at h
  split at h
  ·rename_i hl
   subst hl
   unfold adoptR at h
   split at h
   ·rename_i w ver' es hL
    split at h
    ·rename_i hv
     subst hv
     simp only [oB] at h
     obtain ⟨⟨A',rr⟩,hp,h⟩:=h
     unfold adoptB at h
     split at h
     ·simp at h
     ·rename_i hc
      simp only [oJ] at h;subst h
      simp only [not_or,Bool.not_eq_true,Bool.not_eq_false] at hc
      cases hx with
      | ref hx=>exact adopt_ok hr he hp hc.1 hL (by omega) hc.2.2 hx
    ·simp at h
   ·simp at h
  ·simp at h
 | nils =>
  simp only [adopt1,leaveK,oB,popK,oJ] at h
  obtain ⟨⟨A',rr⟩,hp,rfl⟩:=h
  obtain ⟨g,hle⟩:=leave_ok hr he hp
  have hA:=pop_eq hp
  have hlen:A'.length=st.A.length:=g.ev.len
  refine ⟨ρ2,g,fun m hm=>?_,?_⟩
  ·have hsub : Sub st.A.length s ⟨A', rr.1, rr.2⟩ := by
    refine ⟨fun lv ix hlv=>?_,fun lv ix b hg=>by have:=St.get_le hg;simp only [hlen] at this;exact this⟩
    have hst2:s=⟨A'++[(rr.1,rr.2)],s.ro,s.L⟩:=by rw [← hA]
    rw [hst2,St.get_push,if_neg (by omega)]
   exact hsub.cx hm
  ·cases hx with
   | nils a=>exact .nils a
 | _=>simp [adopt1] at h
theorem adoptK_ok (hr:Rel W0 B0 s ρ2 W2) (he:Ev st.push ρ W s ρ2 W2) {v:AV} {r:AV × St} (h:adoptK (v,s)=some r) {x:Value} (hx:R (cx s ρ2 W2 s.A.length) v x) :
 ∃ ρ4,Goes W0 B0 st ρ W r.2 ρ4 W2∧R (cx r.2 ρ4 W2 r.2.A.length) r.1 x:=by
 unfold adoptK at h
 split at h
 ·rename_i v0 vs hv
  simp only at hv
  subst hv
  split at h
  ·rename_i hc
   simp only [oB,tup1,oJ] at h
   obtain ⟨q,hq,rfl⟩:=h
   cases hx with
   | @tup _ _ xs hl h1 =>
    obtain ⟨y,ys,rfl,q1,q2⟩:=RL.cons_inv (C:=cx s ρ2 W2 s.A.length) (v:=v0) (vs:=vs) (ys:=xs) ⟨hl,h1⟩
    obtain ⟨ρ4,g,hle,hv⟩:=adopt1_ok hr he hq q1
    refine ⟨ρ4,g,R.tup' (.cons hv ⟨q2.1,fun i u z hu hz=>?_⟩)⟩
    have himm:=List.all_eq_true.1 hc u (List.mem_of_getElem? hu)
    exact imm_R himm (q2.2 i u z hu hz) (hle 0 (Nat.zero_le _)).im
  ·simp at h
 ·obtain ⟨ρ4,g,_,hv⟩:=adopt1_ok hr he h hx
  exact ⟨ρ4,g,hv⟩
end
end Go.QAbs
namespace Go.QAbs
open Go.RowKit (Below)
def fen (ro:Option Nat):Fence:={ Fence.wide with round:=ro }
def YCalls (P:Program) (l:Nat) (xs:Array Value) (W:World) (R:Ending→World→Prop):Prop :=
 ∃ fn tmps assign body,(Instr.yield l xs).run P W=.ok (.round l fn tmps assign body) W∧RoundIn .wide 0 P l fn tmps assign body W R
def CallsY (P:Program) (B0:Bse) (f:FuncId) (xs:List Value) (W:World) (R:Ending→World→Prop):Prop :=
 (f<yB→Calls P f xs.toArray W R)∧∀ lv ys,f=yB+lv→xs=ys++(B0.y lv).2→YCalls P (B0.y lv).1 ys.toArray W R
theorem CallsY.mono {P:Program} {B0:Bse} {f:FuncId} {xs:List Value} {W:World} {R R':Ending→World→Prop} (h:CallsY P B0 f xs W R) (hr:∀ e w',R e w'→R' e w'):CallsY P B0 f xs W R':=by
 refine ⟨fun hf=>(h.1 hf).mono hr,fun lv ys hl hx=>?_⟩
 obtain ⟨fn,tmps,assign,body,h1,h2⟩:=h.2 lv ys hl hx
 exact ⟨fn,tmps,assign,body,h1,h2.mono hr⟩
structure OSound (P:Program) (K:World→Bse→Prop) (O:Orc):Prop where
 frame:FrO O
 enter:∀ {f:FuncId} {args:List AV} {st:St} {r:AV × St},f<yB→O f args st=some r→∀ (xs:Array Value) (W:World),(callFunc f xs).run P W=.ok (.enter f xs) W
 calls:∀ {f:FuncId} {args:List AV} {st:St} {v:AV} {st':St},O f args st=some (v,st')→∀ {W0:World} {B0:Bse} {ρ:Rho} {W:World} {xs:List Value},K W0 B0→Rel W0 B0 st ρ W→RL (cx st ρ W st.A.length) args xs →
  CallsY P B0 f xs W fun e W'=>∃ x ρ',e=.returned x∧Goes W0 B0 st ρ W st' ρ' W'∧R (cx st' ρ' W' st'.A.length) v x
section
variable {P:Program} {KW:World→Bse→Prop} {O:Orc} {W0:World} {B0:Bse} {st st':St} {ρ:Rho} {W:World} {e:Env} {a:Act}
theorem weak_ok {C:Cx} {v:AV} {x:Value} (h:R C v x):R C (weak v) x:=by
 unfold weak
 split
 ·cases h;exact .lit0 _ _
 ·exact h
theorem weaks_ok {C:Cx}:∀ {vs:List AV} {xs:List Value},RL C vs xs→RL C (weaks vs) xs
 | [],xs,h=>h
 | v::vs,xs,h=>by
  obtain ⟨x,ys,rfl,h1,h2⟩:=h.cons_inv
  exact .cons (weak_ok h1) (weaks_ok h2)
theorem inner_ok (hO:OSound P KW O) (hKW:KW W0 B0) {f:FuncId} {args:List AV} {v:AV} (h:callM O .inner f args st=some (v,st')) (hr:Rel W0 B0 st ρ W) {xs:List Value} (hx:RL (cx st ρ W st.A.length) args xs) :
 (f<yB→∀ (ys:Array Value) (W:World),(callFunc f ys).run P W=.ok (.enter f ys) W) ∧
  CallsY P B0 f xs W fun e W'=>∃ x ρ',e=.returned x∧Goes W0 B0 st ρ W st' ρ' W'∧R (cx st' ρ' W' st'.A.length) v x:=by
 simp only [callM,oB,scopeK,sealK,leaveK,popK,oJ,Prod.mk.injEq] at h
 obtain ⟨⟨v0,st1⟩,h0,⟨v1,st2⟩,hseal,⟨A',r0⟩,hpop,rfl,rfl⟩:=h
 simp only at hseal hpop
 have hpl:st.push.A.length=st.A.length+1:=by simp [St.push]
 have hpush:=Sub.push st
 refine ⟨fun hf=>hO.enter hf h0,(hO.calls h0 hKW (hpush.rel hr) ((hx.mono (hpush.cx (Nat.le_refl _))).mono (cx_lv (by omega)))).mono ?_⟩
 rintro e' W' ⟨x,ρ',rfl,g,hv⟩
 have hl1:st1.A.length=st.A.length+1:=by rw [g.ev.len,hpl]
 obtain ⟨g2,hv2⟩:=sealV_ok deep st1.A.length st1 v0 x v1 st2 g.rel (by omega) hv hseal
 obtain ⟨g3,hle⟩:=leave_ok g2.rel (g.ev.trans g2.ev) hpop
 refine ⟨x,ρ',rfl,g3,?_⟩
 rw [hl1] at hv2
 have hl3:(⟨A',r0.1,r0.2⟩:St).A.length=st.A.length:=g3.ev.len
 rw [hl3]
 exact R.mono (show R (cx st2 ρ' W' st.A.length) v1 x from hv2) hle
theorem callM_ok (hO:OSound P KW O) (hKW:KW W0 B0) {m:CM} {f:FuncId} {args:List AV} {v:AV} (h:callM O m f args st=some (v,st')) (hr:Rel W0 B0 st ρ W) {xs:List Value} (hx:RL (cx st ρ W st.A.length) args xs) :
 (f<yB→∀ (ys:Array Value) (W:World),(callFunc f ys).run P W=.ok (.enter f ys) W) ∧
  CallsY P B0 f xs W fun e W'=>∃ x ρ',e=.returned x∧Goes W0 B0 st ρ W st' ρ' W'∧R (cx st' ρ' W' st'.A.length) v x:=by
 cases m with
 | norm=>exact ⟨fun hf=>hO.enter hf h,hO.calls h hKW hr hx⟩
 | own =>
  simp only [callM,oB,ownK] at h
  obtain ⟨⟨v0,st2⟩,h0,h⟩:=h
  split at h
  ·simp only [oJ,Prod.mk.injEq] at h
   obtain ⟨rfl,rfl⟩:=h
   have hs:Sub st.A.length st { st with ro:=true }:=Sub.same (s:=st) (t:={ st with ro:=true }) (fun lv ix=>rfl)
   refine ⟨fun hf=>hO.enter hf h0,(hO.calls h0 hKW (hs.rel hr) hx).mono ?_⟩
   rintro e' W' ⟨x,ρ',rfl,g,hv⟩
   obtain ⟨g',hle⟩:=own_ok (st:=st) g.rel g.ev
   have hL:st2.L=st.L:=g.ev.cur rfl
   have he:(⟨st2.A,st.ro,st.L⟩:St)={ st2 with ro:=st.ro }:=by rw [← hL]
   rw [he]
   exact ⟨x,ρ',rfl,g',hv.mono (hle _)⟩
  ·simp at h
 | pure =>
  simp only [callM,oB,pureK,oJ,Prod.mk.injEq] at h
  obtain ⟨⟨v0,st2⟩,h0,h1,rfl⟩:=h
  simp only at h1;subst h1
  have hl1:st.allRo.A.length=st.A.length:=by simp [St.allRo]
  have hcx:∀ m,cx st.allRo ρ W m=cx st ρ W m:=by
   intro m
   unfold cx Mut
   simp only [allRo_get]
  have hs:Sub st.A.length st st.allRo:=by
   have:=Sub.same (s:=st) (t:=st.allRo) (allRo_get st)
   rw [hl1] at this
   exact this
  refine ⟨fun hf=>hO.enter hf h0,(hO.calls h0 hKW (hs.rel hr) (by rw [hl1,hcx];exact hx)).mono ?_⟩
  rintro e' W' ⟨x,ρ',rfl,g,hv⟩
  obtain ⟨g',hle⟩:=pure_ok (st:=st) g.rel g.ev
  have hl2:st2.A.length=st.A.length:=by rw [g.ev.len,hl1]
  rw [hl2] at hv
  exact ⟨x,ρ',rfl,g',hv.mono (hle _ (Nat.le_refl _))⟩
 | inner=>exact inner_ok hO hKW h hr hx
 | move =>
  simp only [callM,oB] at h
  obtain ⟨⟨v0,st1⟩,h0,h⟩:=h
  have hpl:st.push.A.length=st.A.length+1:=by simp [St.push]
  have hpush:=Sub.push st
  refine ⟨fun hf=>hO.enter hf h0,(hO.calls h0 hKW (hpush.rel hr) ((hx.mono (hpush.cx (Nat.le_refl _))).mono (cx_lv (by omega)))).mono ?_⟩
  rintro e' W' ⟨x,ρ',rfl,g,hv⟩
  obtain ⟨ρ4,g4,hv4⟩:=adoptK_ok g.rel g.ev h hv
  exact ⟨x,ρ4,rfl,g4,hv4⟩
 | pin =>
  have h':(callM O .inner f args st.allRo).bind (pureK st)=some (v,st'):=h
  clear h
  simp only [oB,pureK,oJ,Prod.mk.injEq] at h'
  obtain ⟨⟨v0,st2⟩,h0,h1,rfl⟩:=h'
  simp only at h1;subst h1
  have hl1:st.allRo.A.length=st.A.length:=by simp [St.allRo]
  have hcx:∀ m,cx st.allRo ρ W m=cx st ρ W m:=by
   intro m
   unfold cx Mut
   simp only [allRo_get]
  have hs:Sub st.A.length st st.allRo:=by
   have:=Sub.same (s:=st) (t:=st.allRo) (allRo_get st)
   rw [hl1] at this
   exact this
  obtain ⟨e1,e2⟩:=inner_ok hO hKW h0 (hs.rel hr) (by rw [hl1,hcx];exact hx)
  refine ⟨e1,e2.mono ?_⟩
  rintro e' W' ⟨x,ρ',rfl,g,hv⟩
  obtain ⟨g',hle⟩:=pure_ok (st:=st) g.rel g.ev
  have hl2:st2.A.length=st.A.length:=by rw [g.ev.len,hl1]
  rw [hl2] at hv
  exact ⟨x,ρ',rfl,g',hv.mono (hle _ (Nat.le_refl _))⟩
theorem call_run {o:Oper} {c:Call} {f:Operand} (hop:o.op=.call c) (hf:c.callee=.value f) {g:FuncId} {xs ys:List Value} (hv:a.eval f=.func (.func g) xs.toArray ys.toArray)
 (hrun:∀ (zs:Array Value) (W:World),(callFunc g zs).run P W=.ok (.enter g zs) W):(execOp a.eval o).run P W=.ok (.enter g (xs++c.args.toList.map a.eval++ys).toArray) W:=by
 have e1:(c.args.map a.eval)=(c.args.toList.map a.eval).toArray:=by rw [← Array.toList_map,Array.toArray_toList]
 simp only [execOp,hop,resolve,hf,hv,Deferred.ofValue,invoke,Sem.run_bind,Sem.run_pure,Result.andThen_ok,hrun,e1]
 simp
theorem call_runY {o:Oper} {c:Call} {f:Operand} (hop:o.op=.call c) (hf:c.callee=.value f) {l:Nat} (hv:a.eval f=.func (.yield l) #[] #[]) :
 (execOp a.eval o).run P W=(Instr.yield l (c.args.toList.map a.eval).toArray).run P W:=by
 have e1:(c.args.map a.eval)=(c.args.toList.map a.eval).toArray:=by rw [← Array.toList_map,Array.toArray_toList]
 simp only [execOp,hop,resolve,hf,hv,Deferred.ofValue,invoke,Sem.run_bind,Sem.run_pure,Result.andThen_ok,e1]
 simp
theorem put_env {C:Cx} {nt:Nat} {d:Option Nat} {v:AV} {x:Value} (he:EnvR C e a.tmps) (hv:R C v x) (hd:dstOk nt d=true) (hs:nt≤a.tmps.size):EnvR C (setD e d v) (a.put d x).tmps:=by
 intro t
 cases d with
 | none=>exact he t
 | some d =>
  simp only [dstOk,decide_eq_true_eq] at hd
  simp only [setD,look,Act.put]
  split
  ·rename_i h;subst h
   have:(a.tmps.setIfInBounds d x).getD d Go.undef=x:=by
    simp [Array.getElem?_setIfInBounds]
    rw [if_pos (by omega)];rfl
   rw [this];exact hv
  ·rename_i h
   have:(a.tmps.setIfInBounds d x).getD t Go.undef=a.tmps.getD t Go.undef:=by
    simp [Array.getElem?_setIfInBounds_ne h]
   rw [this];exact he t
theorem put_size {d:Option Nat} {x:Value}:(a.put d x).tmps.size=a.tmps.size∧(a.put d x).defers=a.defers:=by
 cases d with
 | none=>exact ⟨rfl,rfl⟩
 | some d=>exact ⟨by simp [Act.put],rfl⟩
theorem wanted_ok {ops:Array Oper} {o:Oper} {g:Option (Nat × Bool)} (hg:guardOf ops o.guard=some g) {C:Cx} (he:EnvR C e a.tmps) {b:Bool} (hb:wantedV e g=some b):Region.wanted o (yielded ops a.tmps)=b:=by
 unfold Region.wanted
 cases hgo:o.guard with
 | none =>
  rw [hgo] at hg
  simp only [guardOf,oJ] at hg;subst hg
  simp only [wantedV,oJ] at hb
  exact hb
 | some q =>
  obtain ⟨j,want⟩:=q
  rw [hgo] at hg
  simp only [guardOf,oM] at hg
  obtain ⟨t,ht,rfl⟩:=hg
  simp only [wantedV] at hb
  have het:=he t
  unfold wantedB at hb
  unfold yielded
  simp only [ht,oS]
  have hgd:a.tmps.getD t Go.undef=(a.tmps[t]?).getD Go.undef:=by simp
  rw [hgd] at het
  split at hb
  ·rename_i b' hb'
   rw [hb'] at het
   simp only [oJ] at hb;subst hb
   have:=getBool het
   cases hx:a.tmps[t]? with
   | none=>rw [hx] at this;simp [Go.undef] at this
   | some x=>rw [hx] at this;simp only [Option.getD_some] at this;subst this;rfl
  ·rename_i hb'
   rw [hb'] at het
   simp only [oJ] at hb;subst hb
   cases hx:a.tmps[t]? with
   | none=>rfl
   | some x =>
    rw [hx] at het
    simp only [Option.getD_some] at het
    cases het
    rfl
  ·simp at hb
theorem call_inv {own:Bool} {cm m:CM} {o:Oper} {f:Opd} {l:List Opd} (h:compOp P own cm o=some (.call m f l)):∃ c fo,o.op=.call c∧c.callee=.value fo∧opd fo=some f∧opds c.args.toList=some l:=by
 cases hop:o.op with
 | call c =>
  simp only [compOp,hop] at h
  split at h
  ·exfalso
   unfold compBuiltin at h
   repeat' split at h
   all_goals simp [oB,oM] at h
   all_goals (split at h<;>simp at h)
  ·rename_i fo hfo
   simp only [oB,oM] at h
   obtain ⟨f',hf,l',hl,h⟩:=h
   simp only [PO.call.injEq] at h
   obtain ⟨_,rfl,rfl⟩:=h
   exact ⟨c,fo,rfl,hfo,hf,hl⟩
  ·simp at h
 | makeMap t r=>exfalso;cases r<;>simp [compOp,hop] at h
 | slice t x lo hi mx =>
  exfalso
  cases mx<;>simp only [compOp,hop] at h
  all_goals repeat' first
   | (exfalso;simp at h;done)
   | split at h
   | (simp only [oB] at h;obtain ⟨_,_,h⟩:=h)
 | _ =>
  exfalso
  simp only [compOp,hop] at h
  repeat' first
   | (exfalso;simp at h;done)
   | split at h
   | (simp only [oB] at h;obtain ⟨_,_,h⟩:=h)
   | (simp only [oM] at h;obtain ⟨_,_,h⟩:=h)
   | unfold eqsOf at h
theorem wkOf_cases (o:PO) (i:Nat):∀ l:List (Nat × WK),wkOf l i o=o∨∃ k,wkOf l i o=.w k o
 | []=>.inl rfl
 | (j,k)::l=>by
  simp only [wkOf]
  split
  ·exact .inr ⟨k,rfl⟩
  ·exact wkOf_cases o i l
theorem val_ok {ro:Option Nat} (hO:OSound P KW O) (hKW:KW W0 B0) {ops:Array Oper} {nt:Nat} {h:Hint} {i:Nat} {o:Oper} {p:PI} (ho:ops[i]?=some o) (hc:compI P nt ops h i o=some p) {Q:Exit→Act→World→Prop} {K:Act→World→Prop}
 (hr:Rel W0 B0 st ρ W) (he:EnvR (cx st ρ W st.A.length) e a.tmps) (hs:nt≤a.tmps.size) {v:AV} (hv:valI O p e st=some (v,st'))
 (hK:∀ a' ρ' W',Goes W0 B0 st ρ W st' ρ' W'→EnvR (cx st' ρ' W' st'.A.length) (setD e p.dst v) a'.tmps→a'.tmps.size=a.tmps.size→a'.defers=a.defers→K a' W'):wpOpIn (fen ro) 0 P ops Q i K a W:=by
 unfold compI at hc
 split at hc
 case isFalse=>simp at hc
 rename_i hd
 simp only [oB,oM] at hc
 obtain ⟨po0,hpo,g,hg,rfl⟩:=hc
 generalize hpe:wkOf h.wk i po0=po at *
 simp only [valI,oB] at hv
 obtain ⟨b,hb,hv⟩:=hv
 have hw:=wanted_ok hg he hb
 unfold wpOpIn
 simp only [ho,hw]
 have putK:∀ x ρ' W',Goes W0 B0 st ρ W st' ρ' W'→R (cx st' ρ' W' st'.A.length) v x→K (a.put o.dst x) W':=by
  intro x ρ' W' gs hx
  have hlen:=gs.ev.len
  exact hK _ ρ' W' gs (put_env (he.mono (by rw [hlen];exact gs.ev.le _ (Nat.le_refl _))) hx hd hs) put_size.1 put_size.2
 cases b with
 | false =>
  simp only [stepT,oJ,Prod.mk.injEq] at hv
  obtain ⟨rfl,rfl⟩:=hv
  simp only [Bool.false_eq_true,if_false]
  exact ⟨fun _ _=>trivial,putK _ ρ W (.refl hr) .undef⟩
 | true =>
  simp only [if_true]
  have hnd:∀ c,o.op≠.defer c:=by
   intro c hop
   simp only [compOp,hop] at hpo
   simp at hpo
  simp only [stepT] at hv
  have fin:Fin W0 B0 st ρ W ((execOp a.eval o).run P W) v st'→o.wpIn (fen ro) 0 P a W K Q:=by
   rintro ⟨nx,x,ρ',W',hrun,hnx,gs,hx⟩
   refine ⟨fun _ _=>trivial,?_⟩
   rw [Oper.semAt_eq _ _ _ hnd,hrun]
   rcases hnx with rfl|⟨rfl,rfl⟩
   ·exact putK x ρ' W' gs hx
   ·exact putK _ ρ' W' gs hx
  rcases wkOf_cases po0 i h.wk with hw0|⟨kk,hw0⟩
  case inr =>
   rw [hpe] at hw0;subst hw0
   unfold evalI at hv
   simp only [PO.reads,Bool.false_eq_true,if_false] at hv
   split at hv
   ·simp at hv
   ·exact fin (w_fin hr he hpo hv)
  rw [hpe] at hw0;subst hw0
  have plain:(∀ m f l,po≠.call m f l)→evalPO e st po=some (v,st')→o.wpIn (fen ro) 0 P a W K Q:=fun hn hev=>fin (op_fin hr he hpo hn hev)
  unfold evalI at hv
  simp only at hv
  split at hv
  ·split at hv
   ·rename_i hrd
    simp only [oB,pureK,oJ,Prod.mk.injEq] at hv
    obtain ⟨⟨v0,s0⟩,h0,h1,rfl⟩:=hv
    simp only at h1;subst h1
    exact plain (fun m f l q=>by rw [q] at hrd;simp [PO.reads] at hrd) (reads_mono hrd (.mask st) h0).1
   ·simp at hv
  ·by_cases hcall:∃ m f l,po=.call m f l
   ·obtain ⟨m,f,l,rfl⟩:=hcall
    simp only [evalPI] at hv
    unfold callV at hv
    split at hv
    ·rename_i g' first cap hfe
     obtain ⟨c,fo,hop,hcal,hfo,hl⟩:∃ c fo,o.op=.call c∧c.callee=.value fo∧opd fo=some f∧opds c.args.toList=some l:=call_inv hpo
     have hfv:=opd_ok hfo he
     rw [hfe] at hfv
     generalize hu:a.eval fo=u at hfv
     cases hfv with
     | @func _ _ hn _ _ xs ys hf hc rf rc =>
      have hargs:RL (cx st ρ W st.A.length) (first++gets e l++cap) (xs++c.args.toList.map a.eval++ys):=(RL.append ⟨hf,rf⟩ (opds_ok hl he)).append ⟨hc,rc⟩
      obtain ⟨h1,h2⟩:=callM_ok hO hKW hv hr (weaks_ok hargs)
      have hg':g'<yB:=of_decide_eq_true hn
      refine ⟨fun _ _=>trivial,?_⟩
      rw [Oper.semAt_eq _ _ _ hnd,call_run hop hcal hu (h1 hg')]
      refine ⟨fun h=>absurd h (by simp [fen,Fence.wide]),?_⟩
      refine (callsIn_wide (n:=0)).2 ((h2.1 hg').mono ?_)
      rintro e' W' ⟨x,ρ',rfl,gs,hx⟩
      exact putK x ρ' W' gs hx
    ·rename_i l' cs hfe
     obtain ⟨c,fo,hop,hcal,hfo,hl⟩:∃ c fo,o.op=.call c∧c.callee=.value fo∧opd fo=some f∧opds c.args.toList=some l:=call_inv hpo
     have hfv:=opd_ok hfo he
     rw [hfe] at hfv
     generalize hu:a.eval fo=u at hfv
     cases hfv with
     | func _ hn=>simp [fnOk] at hn
     | @yld _ _ ll tm _ hy hl2 rc =>
      obtain ⟨h1,h2⟩:=callM_ok hO hKW hv hr (weaks_ok ((opds_ok hl he).append ⟨hl2,rc⟩))
      have hyl:B0.y l'=(ll,tm):=by rw [← hr.yl];exact hy.2
      obtain ⟨fn,tmps,assign,body,h3,h4⟩:=h2.2 l' (c.args.toList.map a.eval) rfl (by rw [hyl])
      rw [hyl] at h3 h4
      refine ⟨fun _ _=>trivial,?_⟩
      rw [Oper.semAt_eq _ _ _ hnd,call_runY hop hcal hu,h3]
      refine ⟨fun h=>absurd h (by simp [fen,Fence.wide]),?_⟩
      refine RoundIn.mono (F:=.wide) h4 ?_
      rintro e' W' ⟨x,ρ',rfl,gs,hx⟩
      exact putK x ρ' W' gs hx
    ·simp at hv
   ·refine plain (fun m f l q=>hcall ⟨m,f,l,q⟩) ?_
    rw [← hv]
    have hnw:∀ k q,po≠.w k q:=fun k q hq=>by rw [hq] at hpo;exact no_w hpo
    cases hpp:po with
    | call m f l=>exact absurd ⟨m,f,l,hpp⟩ hcall
    | w k q=>exact absurd hpp (hnw k q)
    | _=>rfl
end
end Go.QAbs
namespace Go.QAbs
open Go.RowKit (Below)
section
variable {P:Program} {KW:World→Bse→Prop} {ro:Option Nat} {O:Orc} {W0:World} {B0:Bse} {st st':St} {ρ:Rho} {W:World} {e:Env} {a:Act} {ops:Array Oper} {nt:Nat} {h:Hint}
theorem compIs_get:∀ {os:List Oper} {k:Nat} {is:List PI},compIs P nt ops h k os=some is→is.length=os.length∧∀ (j:Nat) (o:Oper),os[j]?=some o→∃ p,is[j]?=some p∧compI P nt ops h (k+j) o=some p
 | [],k,is,hc=>by simp only [compIs,oJ] at hc;subst hc;exact ⟨rfl,by simp⟩
 | o::os,k,is,hc=>by
  simp only [compIs,oB,oM] at hc
  obtain ⟨p,hp,ps,hps,rfl⟩:=hc
  obtain ⟨h1,h2⟩:=compIs_get hps
  refine ⟨by simp [h1],fun j o' hj=>?_⟩
  cases j with
  | zero=>simp only [List.getElem?_cons_zero,oJ] at hj;subst hj;exact ⟨p,rfl,hp⟩
  | succ j =>
   simp only [List.getElem?_cons_succ] at hj ⊢
   obtain ⟨q,hq,hc⟩:=h2 j o' hj
   exact ⟨q,hq,by rw [show k+(j+1)=k+1+j by omega];exact hc⟩
def EndOk (W0:World) (B0:Bse) (st:St) (ρ:Rho) (W:World) (a:Act) (r:Env × St) (Q:Exit→Act→World→Prop):Prop :=
 ∀ a' ρ' W',Goes W0 B0 st ρ W r.2 ρ' W'→EnvR (cx r.2 ρ' W' r.2.A.length) r.1 a'.tmps→a'.tmps.size=a.tmps.size→a'.defers=a.defers→Q .normal a' W'
def Known (P:Program) (nt:Nat) (ops:Array Oper) (h:Hint) (q:Nat × PI):Prop:=∃ o,ops[q.1]?=some o∧compI P nt ops h q.1 o=some q.2
theorem seq_ok (hO:OSound P KW O) (hKW:KW W0 B0) {Q:Exit→Act→World→Prop} {r:Env × St}:∀ (l:List (Nat × PI)) (e:Env) (st:St) (ρ:Rho) (W:World) (a:Act),(∀ q∈l,Known P nt ops h q)→runIs O (l.map (·.2)) e st=some r →
 Rel W0 B0 st ρ W→EnvR (cx st ρ W st.A.length) e a.tmps→nt≤a.tmps.size→EndOk W0 B0 st ρ W a r Q→wpOpsIn (fen ro) 0 P ops Q (l.map (·.1)) a W
 | [],e,st,ρ,W,a,_,hr,hrel,he,_,hQ=>by
  simp only [List.map_nil,runIs,oJ] at hr;subst hr
  exact hQ a ρ W (.refl hrel) he rfl rfl
 | q::l,e,st,ρ,W,a,hk,hr,hrel,he,hs,hQ=>by
  simp only [List.map_cons] at hr ⊢
  rw [runIs_val,oB] at hr
  obtain ⟨⟨v,st1⟩,hv,hr⟩:=hr
  obtain ⟨o,ho,hc⟩:=hk q (by simp)
  rw [wpOpsIn_cons]
  refine val_ok hO hKW ho hc hrel he hs hv fun a' ρ' W' g he' hs' hd'=>?_
  exact seq_ok hO hKW l _ _ ρ' W' a' (fun x hx=>hk x (by simp [hx])) hr g.rel he' (by omega) fun a'' ρ'' W'' g' h1 h2 h3=>hQ a'' ρ'' W'' (g.trans g') h1 (h2.trans hs') (h3.trans hd')
def ClosedS (ops:Array Oper) (S:Nat→Prop):Prop:=∀ (j:Nat) (o:Oper),ops[j]?=some o→S j→∀ x∈edgesOf o,S x
theorem maskOf_ok {S:Nat→Prop} {ms:List Nat} {k:Nat} (hms:∀ j,j<k→S j→∀ i,(ms.getD j 0).testBit i=true→S i) :
 ∀ {es:List Nat},(∀ x∈es,S x∧x<k)→∀ i,(maskOf ms es).testBit i=true→S i
 | [],_,i,hi=>by simp [maskOf] at hi
 | x::es,hx,i,hi=>by
  simp only [maskOf,Nat.testBit_or,Bool.or_eq_true] at hi
  obtain ⟨h1,h2⟩:=hx x (by simp)
  rcases hi with hi|hi|hi
  ·rw [Nat.testBit_two_pow] at hi
   simp only [decide_eq_true_eq] at hi
   subst hi;exact h1
  ·exact hms x h2 h1 i hi
  ·exact maskOf_ok hms (fun y hy=>hx y (by simp [hy])) i hi
theorem apartAll_ok {m:Nat} {p:PI}:∀ {xs:List PI} {k:Nat},apartAll m p k xs=true→∀ i x,xs[i]?=some x→m.testBit (k+i)=true∨commB x p=true
 | [],k,_,i,x,hx=>by simp at hx
 | y::xs,k,hh,i,x,hx=>by
  simp only [apartAll,Bool.and_eq_true,Bool.or_eq_true] at hh
  cases i with
  | zero=>simp only [List.getElem?_cons_zero,oJ] at hx;subst hx;exact hh.1
  | succ i =>
   simp only [List.getElem?_cons_succ] at hx
   have:=apartAll_ok hh.2 i x hx
   rw [show k+(i+1)=k+1+i by omega]
   exact this
theorem drawGo_ok {S:Nat→Prop} (hS:ClosedS ops S):∀ {os:List Oper} {ps prev:List PI} {k:Nat} {ms:List Nat},drawGo k ms prev os ps=true→(∀ j,os[j]?=ops[k+j]?)→ms.length=k→prev.length=k →
 (∀ j,j<k→S j→∀ i,(ms.getD j 0).testBit i=true→S i)→∀ (j:Nat) (o:Oper) (p:PI),os[j]?=some o→ps[j]?=some p →
  (∀ x∈edgesOf o,x<k+j)∧((∀ x∈edgesOf o,S x)→∀ i x,i<k+j→(prev++ps)[i]?=some x→¬ S i→commB x p=true)
 | [],ps,prev,k,ms,_,_,_,_,_,j,o,p,ho,_=>by simp at ho
 | o0::os,[],prev,k,ms,_,_,_,_,_,j,o,p,_,hp=>by simp at hp
 | o0::os,p0::ps,prev,k,ms,hd,hops,hl,hl',hms,j,o,p,ho,hp=>by
  simp only [drawGo,Bool.and_eq_true] at hd
  obtain ⟨h1,h2,h3⟩:=hd
  have hlt:∀ x∈edgesOf o0,x<k:=fun x hx=>by have:=List.all_eq_true.1 h1 x hx;simpa using this
  cases j with
  | zero =>
   simp only [List.getElem?_cons_zero,oJ] at ho hp
   subst ho;subst hp
   refine ⟨fun x hx=>by have:=hlt x hx;omega,fun hSe i x hi hx hn=>?_⟩
   have hi':i<prev.length:=by omega
   rw [List.getElem?_append_left hi'] at hx
   rcases apartAll_ok h2 i x hx with hb|hb
   ·rw [Nat.zero_add] at hb
    exact absurd (maskOf_ok hms (fun y hy=>⟨hSe y hy,hlt y hy⟩) i hb) hn
   ·exact hb
  | succ j =>
   simp only [List.getElem?_cons_succ] at ho hp
   have:=drawGo_ok hS (os:=os) (ps:=ps) h3 (fun j=>by have:=hops (j+1);simp only [List.getElem?_cons_succ] at this;rw [this];congr 1;omega) (by simp [hl]) (by simp [hl']) ?_ j o p ho hp
   ·rw [show k+(j+1)=k+1+j by omega]
    refine ⟨this.1,fun hSe i x hi hx hn=>this.2 hSe i x hi ?_ hn⟩
    simpa using hx
   ·intro j' hj' hSj i hi
    by_cases hjk:j'<k
    ·refine hms j' hjk hSj i ?_
     rw [← hi]
     simp [List.getD_eq_getElem?_getD,List.getElem?_append_left (show j'<ms.length by omega)]
    ·have:j'=k:=by omega
     subst this
     have h0:ops[j']?=some o0:=by have:=hops 0;simpa using this.symm
     have hm:(ms++[maskOf ms (edgesOf o0)]).getD j' 0=maskOf ms (edgesOf o0):=by
      simp [List.getD_eq_getElem?_getD,← hl]
     rw [hm] at hi
     exact maskOf_ok hms (fun y hy=>⟨hS j' o0 h0 hSj y hy,hlt y hy⟩) i hi
theorem mem_edges {o:Oper} {x:Nat}:x∈edgesOf o↔∃ y∈o.after,Region.binds .any y=true∧y.on=x:=by
 simp only [edgesOf,List.mem_map,List.mem_filter,Array.mem_toList_iff]
 constructor
 ·rintro ⟨y,⟨h1,h2⟩,h3⟩;exact ⟨y,h1,h2,h3⟩
 ·rintro ⟨y,h1,h2,h3⟩;exact ⟨y,⟨h1,h2⟩,h3⟩
theorem any_ok (hO:OSound P KW O) (hKW:KW W0 B0) {Q:Exit→Act→World→Prop} {is:List PI} (hdraw:drawOk ops.toList is=true) (hlen:is.length=ops.size) (hcomp:∀ (j:Nat) (o:Oper),ops[j]?=some o→∃ p,is[j]?=some p∧compI P nt ops h j o=some p) :
 ∀ (fuel:Nat) (listed:Array Bool) (zs:List (Nat × PI)) (r:Env × St) (e:Env) (st:St) (ρ:Rho) (W:World) (a:Act),
  listed.size=ops.size→ClosedS ops (fun i=>listed.getD i false=true)→(∀ q∈zs,is[q.1]?=some q.2)→zs.Pairwise (fun x y=>x.1<y.1) →
  (∀ i,i<ops.size→(listed.getD i false=false↔∃ p,(i,p)∈zs))→zs.length=fuel→runIs O (zs.map (·.2)) e st=some r →
  Rel W0 B0 st ρ W→EnvR (cx st ρ W st.A.length) e a.tmps→nt≤a.tmps.size→EndOk W0 B0 st ρ W a r Q→wpAnyIn (fen ro) 0 P .any ops Q fuel listed a W:=by
 intro fuel
 have getDs:∀ (l:Array Bool) (i:Nat),l.size=ops.size→i<ops.size→l.getD i true=l.getD i false:=by
  intro l i hl hi
  simp [Array.getElem?_eq_getElem (show i<l.size by omega)]
 induction fuel with
 | zero =>
  intro listed zs r e st ρ W a hls hcl hzs hpw hrem hfl hr hrel he hs hQ
  have hz:zs=[]:=List.length_eq_zero_iff.1 hfl
  subst hz
  simp only [List.map_nil,runIs,oJ] at hr;subst hr
  refine ⟨?_,hQ a ρ W (.refl hrel) he rfl rfl⟩
  rw [List.eq_nil_iff_forall_not_mem]
  intro j hj
  obtain ⟨h1,o,ho,_⟩:=mem_ready.1 hj
  have hlt:=lt_of_getA ho
  rw [getDs _ _ hls hlt] at h1
  obtain ⟨p,hp⟩:=(hrem j hlt).1 h1
  simp at hp
 | succ fuel ih =>
  intro listed zs r e st ρ W a hls hcl hzs hpw hrem hfl hr hrel he hs hQ
  have hdr:∀ (j:Nat) (o:Oper) (p:PI),ops[j]?=some o→is[j]?=some p→(∀ x∈edgesOf o,x<j)∧((∀ x∈edgesOf o,listed.getD x false=true)→∀ i x,i<j→is[i]?=some x→¬ listed.getD i false=true→commB x p=true):=by
   intro j o p ho hp
   have:=drawGo_ok hcl (os:=ops.toList) (ps:=is) (prev:=[]) (k:=0) (ms:=[]) hdraw (by simp) rfl rfl (by simp) j o p (by simpa using ho) hp
   simpa using this
  refine ⟨fun hnil=>?_,fun i hi=>?_⟩
  ·exfalso
   cases zs with
   | nil=>simp at hfl
   | cons q zs =>
    have hq:=hzs q (by simp)
    have hlt:q.1<ops.size:=by rw [← hlen];exact lt_of_get hq
    have ho:ops[q.1]?=some ops[q.1]:=Array.getElem?_eq_getElem hlt
    have hed:=(hdr q.1 _ q.2 ho hq).1
    have hin:q.1∈Region.ready .any ops listed:=by
     refine mem_ready.2 ⟨?_,_,ho,fun y hy hb=>?_⟩
     ·rw [getDs _ _ hls hlt]
      exact (hrem q.1 hlt).2 ⟨q.2,by simp⟩
     ·have hlt':=hed y.on (mem_edges.2 ⟨y,hy,hb,rfl⟩)
      cases hl:listed.getD y.on false with
      | true=>rfl
      | false =>
       obtain ⟨p,hp⟩:=(hrem y.on (by omega)).1 hl
       rcases List.mem_cons.1 hp with hp|hp
       ·have:y.on=q.1:=by rw [← hp]
        omega
       ·have:=(List.pairwise_cons.1 hpw).1 _ hp
        simp only at this
        omega
    rw [hnil] at hin
    simp at hin
  ·obtain ⟨h1,o,ho,hall⟩:=mem_ready.1 hi
   have hlt:=lt_of_getA ho
   have h1':=h1
   rw [getDs _ _ hls hlt] at h1'
   obtain ⟨p,hp⟩:=(hrem i hlt).1 h1'
   obtain ⟨pre,post,rfl⟩:=List.append_of_mem hp
   have hip:=hzs (i,p) hp
   simp only at hip
   have hSe:∀ x∈edgesOf o,listed.getD x false=true:=fun x hx=>by
    obtain ⟨y,hy,hb,rfl⟩:=mem_edges.1 hx
    exact hall y hy hb
   have hcom:∀ x∈pre.map (·.2),commB x p=true:=by
    intro x hx
    obtain ⟨q,hq,rfl⟩:=List.mem_map.1 hx
    have hqi:q.1<i:=(List.pairwise_append.1 hpw).2.2 q hq (i,p) (by simp)
    refine (hdr i o p ho hip).2 hSe q.1 q.2 hqi (hzs q (by simp [hq])) ?_
    have:=(hrem q.1 (by omega)).2 ⟨q.2,by simp [hq]⟩
    rw [this];simp
   simp only [List.map_append,List.map_cons] at hr
   obtain ⟨r',hr',hE,hst⟩:=front_ok hO.frame hcom hr
   rw [runIs_val,oB] at hr'
   obtain ⟨⟨v,st1⟩,hv,hr'⟩:=hr'
   obtain ⟨p',hp',hc⟩:=hcomp i o ho
   rw [hip] at hp'
   simp only [oJ] at hp';subst hp'
   refine val_ok hO hKW ho hc hrel he hs hv fun a' ρ' W' g he' hs' hd'=>?_
   have hpw':(pre++post).Pairwise (fun x y=>x.1<y.1):=hpw.sublist (by simp)
   have hne:∀ q∈pre++post,q.1≠i:=by
    intro q hq
    rcases List.mem_append.1 hq with hq|hq
    ·have:=(List.pairwise_append.1 hpw).2.2 q hq (i,p) (by simp)
     simp only at this;omega
    ·have:=(List.pairwise_cons.1 (List.pairwise_append.1 hpw).2.1).1 q hq
     simp only at this;omega
   refine ih (listed.setIfInBounds i true) (pre++post) r' _ _ ρ' W' a' (by simp [hls]) ?_ (fun q hq=>hzs q ?_) hpw' ?_ (by simp at hfl ⊢;omega) (by simpa using hr') g.rel he' (by omega) ?_
   ·intro j oj hj hSj x hx
    by_cases hji:i=j
    ·subst hji
     rw [ho] at hj;simp only [oJ] at hj;subst hj
     exact getD_set_true (hSe x hx)
    ·have hSj':(listed.setIfInBounds i true).getD j false=true:=hSj
     rw [getD_set_ne false hji] at hSj'
     exact getD_set_true (hcl j oj hj hSj' x hx)
   ·rcases List.mem_append.1 hq with hq|hq<;>simp [hq]
   ·intro j hj
    by_cases hji:i=j
    ·subst hji
     constructor
     ·intro hf
      have:(listed.setIfInBounds i true).getD i false=true:=by
       simp [hls,hlt]
      rw [this] at hf;simp at hf
     ·rintro ⟨q,hq⟩
      exact absurd rfl (hne _ hq)
    ·rw [getD_set_ne false hji,hrem j hj]
     constructor
     ·rintro ⟨q,hq⟩
      refine ⟨q,?_⟩
      rcases List.mem_append.1 hq with hq|hq
      ·simp [hq]
      ·rcases List.mem_cons.1 hq with hq|hq
       ·exact absurd (by rw [Prod.mk.injEq] at hq;exact hq.1.symm) hji
       ·simp [hq]
     ·rintro ⟨q,hq⟩
      refine ⟨q,?_⟩
      rcases List.mem_append.1 hq with hq|hq<;>simp [hq]
   ·intro a'' ρ'' W'' g' h1 h2 h3
    rw [hst] at g' h1
    exact hQ a'' ρ'' W'' (g.trans g') (fun t=>by rw [hE t];exact h1 t) (h2.trans hs') (h3.trans hd')
theorem region_ok (hO:OSound P KW O) (hKW:KW W0 B0) (hm:P.follows .mixedOrders=true) {Q:Exit→Act→World→Prop} {id:Nat} {draw:Bool} {is:List PI} (hc:(compIs P nt ops h 0 ops.toList).bind (drawK draw ops.toList)=some is) {r:Env × St}
 (hr:runIs O is e st=some r) (hrel:Rel W0 B0 st ρ W) (he:EnvR (cx st ρ W st.A.length) e a.tmps) (hs:nt≤a.tmps.size) (hQ:EndOk W0 B0 st ρ W a r Q):(Code.region id ops draw).wpIn (fen ro) 0 P Q a W:=by
 simp only [oB] at hc
 obtain ⟨is',hc,hd⟩:=hc
 obtain ⟨hl,hg⟩:=compIs_get hc
 have hl':is'.length=ops.size:=by rw [hl];simp
 have hcomp:∀ (j:Nat) (o:Oper),ops[j]?=some o→∃ p,is'[j]?=some p∧compI P nt ops h j o=some p:=fun j o ho=>by
  have:=hg j o (by simpa using ho)
  simpa using this
 have hz:∀ q∈(List.range ops.size).zip is',is'[q.1]?=some q.2:=by
  intro q hq
  obtain ⟨i,hi⟩:=List.getElem?_of_mem hq
  rw [List.getElem?_zip_eq_some] at hi
  obtain ⟨h1,h2⟩:=hi
  rw [List.getElem?_range (by rw [← hl'];exact lt_of_get h2)] at h1
  simp only [oJ] at h1
  rw [← h1];exact h2
 have h1:((List.range ops.size).zip is').map (·.1)=List.range ops.size:=List.map_fst_zip (by simp [hl'])
 have h2:((List.range ops.size).zip is').map (·.2)=is':=List.map_snd_zip (by simp [hl'])
 unfold drawK at hd
 split at hd
 ·rename_i hdraw
  split at hd
  ·rename_i hok
   simp only [oJ] at hd;subst hd
   subst hdraw
   refine wpIn_region_any hm ?_
   have gd:Goes W0 B0 st ρ W st ρ W.drew:=Goes.drew hrel
   refine any_ok (W0:=W0) (B0:=B0) hO hKW hok hl' hcomp ops.size (Array.replicate ops.size false) ((List.range ops.size).zip is') r e st ρ W.drew a (by simp) ?_ hz ?_ ?_ (by simp [hl']) (by rw [h2];exact hr) gd.rel (he.mono (gd.ev.le _ (Nat.le_refl _))) hs ?_
   ·intro j o ho hS x hx
    exfalso
    have hS':(Array.replicate ops.size false).getD j false=true:=hS
    by_cases hj:j<ops.size<;>simp [hj] at hS'
   ·have hp:(List.range ops.size).Pairwise (·<·):=List.pairwise_lt_range
    rw [← h1,List.pairwise_map] at hp
    exact hp
   ·intro i hi
    constructor
    ·intro _
     have hi':i<is'.length:=by omega
     refine ⟨is'[i],?_⟩
     rw [List.mem_iff_getElem?]
     exact ⟨i,by rw [List.getElem?_zip_eq_some];exact ⟨by rw [List.getElem?_range hi],List.getElem?_eq_getElem hi'⟩⟩
    ·intro _;simp [hi]
   ·intro a' ρ' W' g q1 q2 q3
    exact hQ a' ρ' W' (gd.trans g) q1 q2 q3
  ·simp at hd
 ·rename_i hdraw
  simp only [oJ] at hd;subst hd
  have:draw=false:=by simpa using hdraw
  subst this
  refine wpIn_region ?_
  have:=seq_ok (ro:=ro) hO hKW (ops:=ops) (nt:=nt) (h:=h) (Q:=Q) (r:=r) ((List.range ops.size).zip is') e st ρ W a (fun q hq=>?_) (by rw [h2];exact hr) hrel he hs hQ
  ·rw [h1] at this;exact this
  ·have hq':=hz q hq
   have hlt:q.1<ops.size:=by rw [← hl'];exact lt_of_get hq'
   obtain ⟨p,hp,hc⟩:=hcomp q.1 _ (Array.getElem?_eq_getElem hlt)
   rw [hq'] at hp
   simp only [oJ] at hp;subst hp
   exact ⟨_,Array.getElem?_eq_getElem hlt,hc⟩
end
end Go.QAbs
namespace Go.QAbs
open Go.RowKit (Below)
def Ex.exit:Ex→Exit
 | .norm=>.normal
 | .ex id=>.exit id
 | .ret=>.ret
section
variable {P:Program} {KW:World→Bse→Prop} {ro:Option Nat} {O:Orc} {W0:World} {B0:Bse} {st st':St} {ρ:Rho} {W:World} {e:Env} {a:Act} {nt:Nat}
def CodeEnd (W0:World) (B0:Bse) (st:St) (ρ:Rho) (W:World) (a:Act) (r:Ex × Env × St) (Q:Exit→Act→World→Prop):Prop :=
 ∀ a' ρ' W',Goes W0 B0 st ρ W r.2.2 ρ' W'→EnvR (cx r.2.2 ρ' W' r.2.2.A.length) r.2.1 a'.tmps→a'.tmps.size=a.tmps.size→a'.defers=a.defers→Q r.1.exit a' W'
theorem CodeEnd.after {st1:St} {ρ1:Rho} {W1:World} {a1:Act} {r:Ex × Env × St} {Q:Exit→Act→World→Prop} (h:CodeEnd W0 B0 st ρ W a r Q) (g:Goes W0 B0 st ρ W st1 ρ1 W1) (hs:a1.tmps.size=a.tmps.size) (hd:a1.defers=a.defers) :
 CodeEnd W0 B0 st1 ρ1 W1 a1 r Q:=fun a' ρ' W' g' h1 h2 h3=>h a' ρ' W' (g.trans g') h1 (h2.trans hs) (h3.trans hd)
theorem keepEnv_look (t:Nat):∀ (ks:List Nat) (e:Env),look (keepEnv ks e) t=look e t∨look (keepEnv ks e) t=.any
 | [],e=>.inr rfl
 | k::ks,e=>by
  simp only [keepEnv,look]
  split
  ·rename_i h;subst h;exact .inl rfl
  ·exact keepEnv_look t ks e
theorem EnvR.keep {C:Cx} {tmps:Array Value} (h:EnvR C e tmps) (ks:List Nat):EnvR C (keepEnv ks e) tmps:=by
 intro t
 rcases keepEnv_look t ks e with q|q
 ·rw [q];exact h t
 ·rw [q];exact .any _
def CodeOk (ro:Option Nat) (P:Program) (O:Orc) (nt:Nat) (W0:World) (B0:Bse) (c:Code) (F:Run):Prop :=
 ∀ (e:Env) (st:St) (ρ:Rho) (W:World) (a:Act) (r:Ex × Env × St) (Q:Exit→Act→World→Prop),F e st=some r→Rel W0 B0 st ρ W→EnvR (cx st ρ W st.A.length) e a.tmps→nt≤a.tmps.size→CodeEnd W0 B0 st ρ W a r Q→c.wpIn (fen ro) 0 P Q a W
theorem rounds_ok {c:Code} {F:Run} (hF:CodeOk ro P O nt W0 B0 c F):∀ (n:Nat) (e:Env) (st:St) (ρ:Rho) (W:World) (a:Act) (r:Ex × Env × St) (Q:Exit→Act→World→Prop),iter F n e st=some r→Rel W0 B0 st ρ W →
 EnvR (cx st ρ W st.A.length) e a.tmps→nt≤a.tmps.size→CodeEnd W0 B0 st ρ W a r Q→Code.roundsIn (fen ro) 0 P c Q n a W
 | 0,e,st,ρ,W,a,r,Q,h,_,_,_,_=>by simp [iter] at h
 | n+1,e,st,ρ,W,a,r,Q,h,hr,he,hs,hQ=>by
  simp only [iter,oB] at h
  obtain ⟨⟨x,e1,st1⟩,h1,h2⟩:=h
  rw [roundsIn_succ]
  refine hF e st ρ W a (x,e1,st1) _ h1 hr he hs ?_
  intro a' ρ' W' g he' hs' hd'
  cases x with
  | norm=>exact rounds_ok hF n e1 st1 ρ' W' a' r Q h2 g.rel he' (by omega) (hQ.after g hs' hd')
  | ex id=>simp only [seqK,oJ] at h2;subst h2;exact hQ a' ρ' W' g he' hs' hd'
  | ret=>simp only [seqK,oJ] at h2;subst h2;exact hQ a' ρ' W' g he' hs' hd'
theorem stepR_scope {P:Program} {b:Frame} {a:Act} {k:List Item} {cs:List Frame} {w:World} {c:Code}:step P (lone (b.atR a (.code (.scope c)::k)) cs w)=.next (lone (b.atR a (.code c::.inScope c::k)) cs w) :=
 step_lone_go (by simp [stepG,stepG.exec,Frame.atR])
theorem stepR_inScope {P:Program} {b:Frame} {a:Act} {k:List Item} {cs:List Frame} {w:World} {c:Code}:step P (lone (b.atR a (.inScope c::k)) cs w)=.next (lone (b.atR a k) cs w) :=
 step_lone_go (by simp [stepG,stepG.exec,Frame.atR])
theorem wpIn_scope {F:Fence} {n:Nat} {P:Program} {Q:Exit→Act→World→Prop} {a:Act} {w:World} {c:Code} (h:c.wpIn F n P (Exit.noGoto Q) a w):(Code.scope c).wpIn F n P Q a w:=by
 intro b k cs hro hb hr
 have h0:(lone (b.atR a (.code (.scope c)::k)) cs w).fenced P F:=fenced_calm hb hr rfl
 obtain ⟨e,a₁,w₁,hq,harr⟩:=h b (.inScope c::k) cs hro hb hr
 cases e with
 | normal=>exact ⟨.normal,a₁,w₁,hq,.head h0 stepR_scope (StepsIn.trans harr (.one (fenced_calm hb hr rfl) stepR_inScope))⟩
 | exit id =>
  have hx:exitTo id (.inScope c::k)=exitTo id k:=by simp [exitTo]
  exact ⟨.exit id,a₁,w₁,hq,fun k' hk=>.head h0 stepR_scope (harr.1 k' (by rw [hx];exact hk)),
   fun hr' hk=>let ⟨k₁,h1,h2⟩:=harr.2 hr' (by rw [hx];exact hk);⟨k₁,h1,.head h0 stepR_scope h2⟩⟩
 | goto l=>exact hq.elim
 | ret=>exact ⟨_,a₁,w₁,hq,.of_steps (.one h0 stepR_scope) ⟨harr.1,harr.2⟩⟩
 | panic ch=>exact ⟨_,a₁,w₁,hq,.of_steps (.one h0 stepR_scope) harr⟩
 | outgrown=>exact ⟨_,a₁,w₁,hq,.of_steps (.one h0 stepR_scope) harr⟩
theorem exec_ok (hO:OSound P KW O) (hKW:KW W0 B0) (hm:P.follows .mixedOrders=true) (n:Nat):∀ (c:Code) (hs hs':List Hint) (pc:PC),comp P nt hs c=some (pc,hs')→CodeOk ro P O nt W0 B0 c (exec O (fun F=>iter F n) pc):=by
 intro c
 induction c with
 | skip =>
  intro hs hs' pc hc e st ρ W a r Q h hr he hsz hQ
  cases hs<;>simp only [comp,oJ,Prod.mk.injEq] at hc<;>obtain ⟨rfl,_⟩:=hc<;>simp only [exec,oJ] at h<;>subst h<;>exact wpIn_skip (hQ a ρ W (.refl hr) he rfl rfl)
 | ret =>
  intro hs hs' pc hc e st ρ W a r Q h hr he hsz hQ
  cases hs<;>simp only [comp,oJ,Prod.mk.injEq] at hc<;>obtain ⟨rfl,_⟩:=hc<;>simp only [exec,oJ] at h<;>subst h<;>exact wpIn_ret (hQ a ρ W (.refl hr) he rfl rfl)
 | exit id =>
  intro hs hs' pc hc e st ρ W a r Q h hr he hsz hQ
  cases hs<;>simp only [comp,oJ,Prod.mk.injEq] at hc<;>obtain ⟨rfl,_⟩:=hc<;>simp only [exec,oJ] at h<;>subst h<;>exact wpIn_exit (hQ a ρ W (.refl hr) he rfl rfl)
 | seq x y ihx ihy =>
  intro hs hs' pc hc e st ρ W a r Q h hr he hsz hQ
  have hc':(comp P nt hs x).bind (fun r=>(comp P nt r.2 y).map fun q=>(PC.seq r.1 q.1,q.2))=some (pc,hs'):=by cases hs<;>exact hc
  simp only [oB,oM,Prod.mk.injEq] at hc'
  obtain ⟨⟨p1,h1⟩,hx,⟨p2,h2⟩,hy,rfl,rfl⟩:=hc'
  simp only [exec,oB] at h
  obtain ⟨⟨xx,e1,st1⟩,hx1,hx2⟩:=h
  refine wpIn_seq (ihx hs h1 p1 hx e st ρ W a (xx,e1,st1) _ hx1 hr he hsz ?_)
  intro a' ρ' W' g he' hs' hd'
  cases xx with
  | norm=>exact ihy h1 h2 p2 hy e1 st1 ρ' W' a' r Q hx2 g.rel he' (by omega) (hQ.after g hs' hd')
  | ex id=>simp only [seqK,oJ] at hx2;subst hx2;exact hQ a' ρ' W' g he' hs' hd'
  | ret=>simp only [seqK,oJ] at hx2;subst hx2;exact hQ a' ρ' W' g he' hs' hd'
 | cond c x y ihx ihy =>
  intro hs hs' pc hc e st ρ W a r Q h hr he hsz hQ
  have hc':(opd c).bind (fun c=>(comp P nt hs x).bind fun r=>(comp P nt r.2 y).map fun q=>(PC.ite c r.1 q.1,q.2))=some (pc,hs'):=by cases hs<;>exact hc
  simp only [oB,oM,Prod.mk.injEq] at hc'
  obtain ⟨co,hco,⟨p1,h1⟩,hx,⟨p2,h2⟩,hy,rfl,rfl⟩:=hc'
  simp only [exec] at h
  have hcv:=opd_ok hco he
  unfold iteV at h
  split at h
  ·rename_i hb
   rw [hb] at hcv
   exact wpIn_cond_true (getBool hcv) (ihx hs h1 p1 hx e st ρ W a r Q h hr he hsz hQ)
  ·rename_i hb
   rw [hb] at hcv
   exact wpIn_cond_false (getBool hcv) (ihy h1 h2 p2 hy e st ρ W a r Q h hr he hsz hQ)
  ·simp at h
 | block id x ih =>
  intro hs hs' pc hc e st ρ W a r Q h hr he hsz hQ
  have hc':(comp P nt hs x).map (fun r=>(PC.block id r.1,r.2))=some (pc,hs'):=by cases hs<;>exact hc
  simp only [oM,Prod.mk.injEq] at hc'
  obtain ⟨⟨p1,h1⟩,hx,rfl,rfl⟩:=hc'
  simp only [exec,oB] at h
  obtain ⟨⟨xx,e1,st1⟩,hx1,hx2⟩:=h
  refine wpIn_block (ih hs h1 p1 hx e st ρ W a (xx,e1,st1) _ hx1 hr he hsz ?_)
  intro a' ρ' W' g he' hs' hd'
  cases xx with
  | norm=>simp only [blockK,oJ] at hx2;subst hx2;exact hQ a' ρ' W' g he' hs' hd'
  | ex id' =>
   simp only [blockK] at hx2
   simp only [Ex.exit,Exit.inBlock]
   split at hx2
   ·rename_i hid
    rw [if_pos hid]
    simp only [oJ] at hx2;subst hx2;exact hQ a' ρ' W' g he' hs' hd'
   ·rename_i hid
    rw [if_neg hid]
    simp only [oJ] at hx2;subst hx2;exact hQ a' ρ' W' g he' hs' hd'
  | ret=>simp only [blockK,oJ] at hx2;subst hx2;exact hQ a' ρ' W' g he' hs' hd'
 | loop x ih =>
  intro hs hs' pc hc e st ρ W a r Q h hr he hsz hQ
  have hc':(comp P nt hs x).map (fun r=>(PC.loop r.1,r.2))=some (pc,hs'):=by cases hs<;>exact hc
  simp only [oM,Prod.mk.injEq] at hc'
  obtain ⟨⟨p1,h1⟩,hx,rfl,rfl⟩:=hc'
  simp only [exec] at h
  exact wpIn_loop_rounds n (rounds_ok (ro:=ro) (O:=O) (ih hs h1 p1 hx) n e st ρ W a r Q h hr he hsz hQ)
 | region id ops draw =>
  intro hs hs' pc hc e st ρ W a r Q h hr he hsz hQ
  cases hs with
  | nil=>simp [comp] at hc
  | cons h0 hs =>
   simp only [comp,oM,Prod.mk.injEq] at hc
   obtain ⟨is,his,rfl,_⟩:=hc
   unfold regOf at h
   split at h
   ·simp only [exec,oB,regK,oJ] at h
    obtain ⟨⟨e1,st1⟩,h1,rfl⟩:=h
    refine region_ok hO hKW hm his h1 hr he hsz ?_
    intro a' ρ' W' g he' hs' hd'
    exact hQ a' ρ' W' g (he'.keep _) hs' hd'
   ·simp only [exec,oB,regK,oJ,padH] at h
    obtain ⟨s1,hp,⟨e1,st1⟩,h1,rfl⟩:=h
    split at hp
    ·simp at hp
    ·rename_i hro
     simp only [oJ] at hp;subst hp
     have hget:∀ lv ix,St.get { st with L:=st.L++h0.js.map Blk.hole } lv ix=st.get lv ix:=by
      intro lv ix
      simp only [St.get]
      split
      ·by_cases hi:ix<st.L.length
       ·rw [List.getElem?_append_left hi]
       ·rw [List.getElem?_append_right (by omega),List.getElem?_eq_none (l:=st.L) (by omega),List.getElem?_map]
        cases h0.js[ix-st.L.length]?<;>rfl
      ·rfl
     have hs1:Sub st.A.length st { st with L:=st.L++h0.js.map Blk.hole }:=Sub.same (s:=st) (t:={ st with L:=st.L++h0.js.map Blk.hole }) hget
     have hgo:Goes W0 B0 st ρ W { st with L:=st.L++h0.js.map Blk.hole } ρ W :=
      ⟨hs1.rel hr,rfl,fun m hm=>hs1.cx hm,fun _ r h=>⟨r,h,rfl,fun _=>rfl⟩,rfl,fun h=>absurd h hro,rfl⟩
     refine region_ok hO hKW hm his h1 hgo.rel (he.mono (hs1.cx (Nat.le_refl _))) hsz ?_
     intro a' ρ' W' g he' hs' hd'
     exact hQ a' ρ' W' (hgo.trans g) (he'.keep _) hs' hd'
 | label l =>
  intro hs hs' pc hc e st ρ W a r Q h hr he hsz hQ
  cases hs<;>simp only [comp,oJ,Prod.mk.injEq] at hc<;>obtain ⟨rfl,_⟩:=hc<;>simp only [exec,oJ] at h<;>subst h<;>exact wpIn_label (hQ a ρ W (.refl hr) he rfl rfl)
 | scope x ih =>
  intro hs hs' pc hc e st ρ W a r Q h hr he hsz hQ
  have hc':comp P nt hs x=some (pc,hs'):=by cases hs<;>exact hc
  refine wpIn_scope (ih hs hs' pc hc' e st ρ W a r _ h hr he hsz ?_)
  intro a' ρ' W' g he' hs' hd'
  have:=hQ a' ρ' W' g he' hs' hd'
  cases hx:r.1<;>rw [hx] at this<;>exact this
 | _=>intro hs hs' pc hc;cases hs<;>simp [comp] at hc
def resF (tmps:Array Value):ResultVar→Sem Value
 | .tmp t=>pure (tmps.getD t Go.undef)
 | .cell c t=>do loadVar t (← asAddr (tmps.getD c Go.undef))
theorem results_eq (fn:Func) (tmps:Array Value):results fn tmps=(do let vs ← fn.results.mapM (resF tmps);pure (if h:vs.size=1 then vs[0] else .tuple vs)):=by
 unfold results
 congr 1
 first
  | done
  | (congr 1;funext rv;cases rv<;>rfl)
theorem compRes_ok {rv:ResultVar} {q:RV} (hq:compRes P rv=some q) (hr:Rel W0 B0 st ρ W) (he:EnvR (cx st ρ W st.A.length) e a.tmps) {v:AV} (hv:resV st e q=some v) :
 ∃ x,(resF a.tmps rv).run P W=.ok x W∧R (cx st ρ W st.A.length) v x:=by
 cases rv with
 | tmp t =>
  simp only [compRes,oJ] at hq;subst hq
  simp only [resV,oJ] at hv;subst hv
  exact ⟨_,rfl,he t⟩
 | cell c t =>
  simp only [compRes,oB,oM] at hq
  obtain ⟨g,hg,n,hn,rfl⟩:=hq
  simp only [resV] at hv
  obtain ⟨b,z,hb,hz,hzv⟩:=loadP_ok (P:=P) hr hv (he c) hg hn
  refine ⟨z,?_,hzv⟩
  simp [resF,hb,asAddr,hz]
end
end Go.QAbs
namespace Go.QAbs
open Go.RowKit (Below)
section
variable {P:Program} {O:Orc} {W0:World} {B0:Bse} {st st':St} {ρ:Rho} {W:World} {e:Env} {a:Act} {nt:Nat}
theorem results_list {f:ResultVar→Sem Value}:∀ {rvs:List ResultVar} {rs:List RV} {vs:List AV},rvs.mapM (compRes P)=some rs→resL st e rs=some vs →
 (∀ (rv:ResultVar) (q:RV) (v:AV),compRes P rv=some q→resV st e q=some v→∃ x,(f rv).run P W=.ok x W∧R (cx st ρ W st.A.length) v x) →
 ∃ xs:List Value,(rvs.mapM f).run P W=.ok xs W∧RL (cx st ρ W st.A.length) vs xs
 | [],rs,vs,h,hv,_=>by
  simp at h;subst h
  simp only [resL,oJ] at hv;subst hv
  exact ⟨[],by simp,.nil _⟩
 | rv::rvs,rs,vs,h,hv,hf=>by
  simp only [List.mapM_cons,Option.pure_def,Option.bind_eq_bind,oB,oJ] at h
  obtain ⟨q,hq,qs,hqs,rfl⟩:=h
  simp only [resL,oB,oM] at hv
  obtain ⟨v,hv,vs',hvs,rfl⟩:=hv
  obtain ⟨x,hx,hxv⟩:=hf rv q v hq hv
  obtain ⟨xs,hxs,hxr⟩:=results_list hqs hvs hf
  exact ⟨x::xs,by simp [hx,hxs],.cons hxv hxr⟩
theorem result_ok {fn:Func} {rs:List RV} (hc:fn.results.toList.mapM (compRes P)=some rs) {v:AV} (hv:result st e rs=some v) (hr:Rel W0 B0 st ρ W) (he:EnvR (cx st ρ W st.A.length) e a.tmps) :
 ∃ x,(results fn a.tmps).run P W=.ok x W∧R (cx st ρ W st.A.length) v x:=by
 simp only [result,oM] at hv
 obtain ⟨vs,hvs,rfl⟩:=hv
 obtain ⟨xs,hxs,hxr⟩:=results_list (P:=P) (ρ:=ρ) (W:=W) hc hvs (fun rv q v hq hv=>compRes_ok hq hr he hv)
 have hm:(fn.results.mapM (resF a.tmps)).run P W=.ok xs.toArray W:=by
  rw [← Array.toArray_toList (xs:=fn.results),List.mapM_toArray,Sem.run_map,Array.toArray_toList,hxs]
  rfl
 refine ⟨if h:xs.toArray.size=1 then xs.toArray[0] else .tuple xs.toArray,?_,?_⟩
 ·rw [results_eq,Sem.run_bind,hm]
  simp only [Result.andThen_ok,Sem.run_pure]
 ·match vs,xs,hxr with
  | [],xs,h=>rw [h.nil_inv];simpa [tupOf] using R.tup' (C:=cx st ρ W st.A.length) (.nil _)
  | [v],xs,h =>
   obtain ⟨x,ys,rfl,h1,h2⟩:=h.cons_inv
   rw [h2.nil_inv]
   simpa [tupOf] using h1
  | v::w::vs,xs,h =>
   obtain ⟨x,ys,rfl,h1,h2⟩:=h.cons_inv
   obtain ⟨y,zs,rfl,h3,h4⟩:=h2.cons_inv
   rw [dif_neg (by simp)]
   exact R.tup' (.cons h1 (.cons h3 h4))
theorem initEnv_look:∀ {vs:List AV} {xs:List Value} {n t:Nat} {C:Cx},RL C vs xs→look (initEnv n vs) t=.any∨(n≤t∧∃ x,xs[t-n]?=some x∧R C (look (initEnv n vs) t) x)
 | [],xs,n,t,C,_=>.inl rfl
 | v::vs,xs,n,t,C,h=>by
  obtain ⟨x,ys,rfl,h1,h2⟩:=h.cons_inv
  simp only [initEnv,look]
  split
  ·rename_i hk;subst hk
   exact .inr ⟨Nat.le_refl _,x,by simp,h1⟩
  ·rcases initEnv_look (n:=n+1) (t:=t) h2 with q|⟨q,y,hy,hr⟩
   ·exact .inl q
   ·refine .inr ⟨by omega,y,?_,hr⟩
    rw [show t-n=(t-(n+1))+1 by omega]
    simpa using hy
theorem initEnv_ok {C:Cx} {vs:List AV} {xs:List Value} (h:RL C vs xs) (k:Nat):EnvR C (initEnv 0 vs) (xs.toArray++Array.replicate k Go.undef):=by
 intro t
 rcases initEnv_look (n:=0) (t:=t) h with q|⟨_,x,hx,hr⟩
 ·rw [q];exact .any _
 ·have hlt:=lt_of_get hx
  simp only [Nat.sub_zero] at hx hlt
  have:(xs.toArray++Array.replicate k Go.undef).getD t Go.undef=x:=by
   simp only [Array.getD_eq_getD_getElem?]
   rw [Array.getElem?_append_left (by simpa using hlt)]
   simp [hx]
  rw [this];exact hr
theorem body_ok {KW:World→Bse→Prop} (hO:OSound P KW O) (hKW:KW W0 B0) (hm:P.follows .mixedOrders=true) (n:Nat) {f:FuncId} {fn:Func} {keep:Bool} {hs:List Hint} {pf:PF} (hf:P.funcs[f]?=some fn) (hc:compF P keep hs fn=some pf)
 {args:List AV} {v:AV} (h:callBody O (fun F=>iter F n) pf args st=some (v,st')) (hr:Rel W0 B0 st ρ W) {xs:List Value} (hx:RL (cx st ρ W st.A.length) args xs) :
 Calls P f xs.toArray W fun e W'=>∃ x ρ',e=.returned x∧Goes W0 B0 st ρ W st' ρ' W'∧R (cx st' ρ' W' st'.A.length) v x:=by
 simp only [compF,oB,oM] at hc
 obtain ⟨c,hb,⟨pc,hs'⟩,hcc,rs,hrs,rfl⟩:=hc
 simp only [callBody,oB] at h
 obtain ⟨⟨ex,e1,st1⟩,hex,hend⟩:=h
 refine calls_of_wp hf hb ((wpIn_wide (n:=0)).1 ?_)
 have hsz:fn.ntmps≤(xs.toArray++Array.replicate (fn.ntmps-xs.toArray.size) Go.undef).size:=by simp;omega
 cases keep with
 | true =>
  simp only [if_true] at hex
  refine exec_ok (ro:=none) hO hKW hm n c hs hs' pc hcc (initEnv 0 args) st ρ W { tmps:=xs.toArray++Array.replicate (fn.ntmps-xs.toArray.size) Go.undef,defers:=[] } (ex,e1,st1) _ hex hr (initEnv_ok hx _) hsz ?_
  intro a' ρ' W' g he' _ hd'
  have key:(result st1 e1 rs).bind (ret1 st1)=some (v,st')→a'.defers=[]∧∃ w,(results fn a'.tmps).run P W'=.ok w W'∧∃ x ρ',Ending.returned w=.returned x∧Goes W0 B0 st ρ W st' ρ' W'∧R (cx st' ρ' W' st'.A.length) v x:=by
   intro hend
   simp only [oB] at hend
   obtain ⟨v0,hv,hend⟩:=hend
   obtain ⟨rfl,rfl⟩:=ret1_inv hend
   obtain ⟨x,hx,hxv⟩:=result_ok hrs hv g.rel he'
   exact ⟨hd',x,hx,x,ρ',rfl,g,hxv⟩
  cases ex with
  | norm=>exact key (by simpa [endK] using hend)
  | ret=>exact key (by simpa [endK] using hend)
  | ex id=>simp [endK] at hend
 | false =>
  simp only [Bool.false_eq_true,if_false] at hex
  have hpl:st.push.A.length=st.A.length+1:=by simp [St.push]
  have hpush:=Sub.push st
  refine exec_ok (ro:=none) hO hKW hm n c hs hs' pc hcc (initEnv 0 args) st.push ρ W { tmps:=xs.toArray++Array.replicate (fn.ntmps-xs.toArray.size) Go.undef,defers:=[] } (ex,e1,st1) _ hex (hpush.rel hr)
   (initEnv_ok ((hx.mono (hpush.cx (Nat.le_refl _))).mono (cx_lv (by omega))) _) hsz ?_
  intro a' ρ' W' g he' _ hd'
  have key:(result st1 e1 rs).bind (sealK st1)=some (v,st')→a'.defers=[]∧∃ w,(results fn a'.tmps).run P W'=.ok w W'∧∃ x ρ',Ending.returned w=.returned x∧Goes W0 B0 st ρ W st' ρ' W'∧R (cx st' ρ' W' st'.A.length) v x:=by
   intro hend
   simp only [oB,sealK,leaveK,popK,oJ,Prod.mk.injEq] at hend
   obtain ⟨v0,hv,⟨v1,st2⟩,hseal,⟨A',r0⟩,hpop,rfl,rfl⟩:=hend
   obtain ⟨x,hx,hxv⟩:=result_ok hrs hv g.rel he'
   have hl1:st1.A.length=st.A.length+1:=by rw [g.ev.len,hpl]
   obtain ⟨g2,hv2⟩:=sealV_ok deep st1.A.length st1 v0 x v1 st2 g.rel (by omega) hxv hseal
   obtain ⟨g3,hle⟩:=leave_ok g2.rel (g.ev.trans g2.ev) hpop
   refine ⟨hd',x,hx,x,ρ',rfl,g3,?_⟩
   rw [hl1] at hv2
   have hl3:(⟨A',r0.1,r0.2⟩:St).A.length=st.A.length:=g3.ev.len
   rw [hl3]
   exact R.mono (show R (cx st2 ρ' W' st.A.length) v1 x from hv2) hle
  cases ex with
  | norm=>exact key (by simpa [endK] using hend)
  | ret=>exact key (by simpa [endK] using hend)
  | ex id=>simp [endK] at hend
def Bse.of (W:World):Bse:=⟨W.heap.size,fun _=>(0,[])⟩
def KG (P : Program) (W0 : World) (B0 : Bse) : Prop := ∀ g, P.globalNamed "internal/bytealg.MaxLen" = some g → ∃ m, W0.cell? ⟨g, 0, none⟩ = some (.int .i64 m) ∧ g < B0.n
theorem KG.below {P:Program} {W0 W:World} {B0 B1:Bse} (h:KG P W0 B0) (hb:BelowS B0.n W0 W) (hB:B0.n≤B1.n):KG P W B1:=fun g hg=>by
 obtain ⟨m,h1,h2⟩:=h g hg
 exact ⟨m,by rw [hb.b.cell (p:=⟨g,0,none⟩) h2];exact h1,by omega⟩
theorem KG.rel {P:Program} {W0 W:World} {B0:Bse} {st:St} {ρ:Rho} (h:KG P W0 B0) (hr:Rel W0 B0 st ρ W):KG P W B0:=h.below hr.below (Nat.le_refl _)
theorem KG.of {P:Program} {W0 W:World} {B0:Bse} {st:St} {ρ:Rho} (h:KG P W0 B0) (hr:Rel W0 B0 st ρ W):KG P W (Bse.of W):=(h.rel hr).below (.refl _ _) hr.b0
theorem KG.none {P : Program} (h : P.globalNamed "internal/bytealg.MaxLen" = none) (W0 : World) (B0 : Bse) : KG P W0 B0 := fun g hg => by rw [h] at hg; exact absurd hg (by simp)
def EntOk (P:Program) (f:FuncId):Ent→Prop
 | .pf pf=>∃ fn keep hs,P.funcs[f]?=some fn∧compF P keep hs fn=some pf
 | .base o=>(∀ args,FrP fun st=>o args st)∧∀ (args:List AV) (st:St) (v:AV) (st':St),o args st=some (v,st')→∀ (W0:World) (B0:Bse) (ρ:Rho) (W:World) (xs:List Value),KG P W0 B0→Rel W0 B0 st ρ W→RL (cx st ρ W st.A.length) args xs →
  Calls P f xs.toArray W fun e W'=>∃ x ρ',e=.returned x∧Goes W0 B0 st ρ W st' ρ' W'∧R (cx st' ρ' W' st'.A.length) v x
def TabOk (P:Program) (T:Tab):Prop:=∀ (f:FuncId) (x:Ent),T f=some x→f<yB∧(∀ (ys:Array Value) (W:World),(callFunc f ys).run P W=.ok (.enter f ys) W)∧EntOk P f x
theorem yB_abs {f:FuncId} {l:Nat} (h:f<yB) (e:f=yB+l):False:=by
 rw [e] at h
 exact Nat.not_lt_of_le (Nat.le_add_right _ _) h
def YEntOk (P:Program) (K:World→Bse→Prop) (lv:Nat):Ent→Prop
 | .pf _=>False
 | .base o=>(∀ args,FrP fun st=>o args st)∧∀ (args:List AV) (st:St) (v:AV) (st':St),o args st=some (v,st')→∀ (W0:World) (B0:Bse) (ρ:Rho) (W:World) (xs ys:List Value),K W0 B0→KG P W0 B0→Rel W0 B0 st ρ W→RL (cx st ρ W st.A.length) args xs →
  xs=ys++(B0.y lv).2→YCalls P (B0.y lv).1 ys.toArray W fun e W'=>∃ x ρ',e=.returned x∧Goes W0 B0 st ρ W st' ρ' W'∧R (cx st' ρ' W' st'.A.length) v x
def TabOkY (P:Program) (K:World→Bse→Prop) (T:Tab):Prop:=∀ (f:FuncId) (x:Ent),T f=some x→(f<yB∧(∀ (ys:Array Value) (W:World),(callFunc f ys).run P W=.ok (.enter f ys) W)∧EntOk P f x)∨∃ l,f=yB+l∧YEntOk P K l x
theorem TabOk.y {P:Program} {K:World→Bse→Prop} {T:Tab} (h:TabOk P T):TabOkY P K T:=fun f x hx=>.inl (h f x hx)
theorem callN_ok (hm:P.follows .mixedOrders=true) {K:World→Bse→Prop} {T:Tab} (hT:TabOkY P K T):∀ n,OSound P (fun W B=>K W B∧KG P W B) (callN T n)
 | 0=>⟨fun f args=>FrP.nope,fun _ h=>by simp [callN] at h,fun h=>by simp [callN] at h⟩
 | n+1=>by
  have ih:=callN_ok hm hT n
  refine ⟨fun f args=>?_,fun {f args st r} hf h=>?_,fun {f args st v st'} h=>?_⟩
  ·show FrP fun st=>(T f).bind (entK (callN T n) (fun F=>iter F n) args st)
   cases hx:T f with
   | none=>exact FrP.nope
   | some x =>
    cases x with
    | pf pf=>exact fr_body ih.frame n pf args
    | base o =>
     rcases hT f _ hx with ⟨_,_,hk⟩|⟨l,_,hk⟩
     ·exact hk.1 args
     ·exact hk.1 args
  ·simp only [callN,oB] at h
   obtain ⟨x,hx,_⟩:=h
   rcases hT f x hx with ⟨_,he,_⟩|⟨l,hl,_⟩
   ·exact he
   ·exact (yB_abs hf hl).elim
  ·intro W0 B0 ρ W xs hKW hr hxs
   simp only [callN,oB] at h
   obtain ⟨x,hx,h⟩:=h
   rcases hT f x hx with ⟨hf,_,hk⟩|⟨l,hl,hk⟩
   ·refine ⟨fun _=>?_,fun l ys hl _=>(yB_abs hf hl).elim⟩
    cases x with
    | pf pf =>
     obtain ⟨fn,keep,hs,hf,hc⟩:=hk
     exact body_ok ih hKW hm n hf hc h hr hxs
    | base o=>exact hk.2 args st v st' h W0 B0 ρ W xs hKW.2 hr hxs
   ·refine ⟨fun hf=>(yB_abs hf hl).elim,fun l' ys hl' hys=>?_⟩
    obtain rfl:l'=l:=Nat.add_left_cancel (hl'.symm.trans hl)
    cases x with
    | pf pf=>exact hk.elim
    | base o=>exact hk.2 args st v st' h W0 B0 ρ W xs ys hKW.1 hKW.2 hr hxs hys
theorem S_okY (hm:P.follows .mixedOrders=true) {K:World→Bse→Prop} {T:Tab} (hT:TabOkY P K T):OSound P (fun W B=>K W B∧KG P W B) (S T):=by
 refine ⟨fun f args st r h=>?_,fun {f args st r} hf h=>?_,fun {f args st v st'} h=>?_⟩
 ·obtain ⟨n,hn⟩:=S_iff.1 h
  obtain ⟨h1,h2⟩:=(callN_ok hm hT n).frame f args st r hn
  exact ⟨h1,fun M i B hh=>S_iff.2 ⟨n,h2 M i B hh⟩⟩
 ·obtain ⟨n,hn⟩:=S_iff.1 h
  exact (callN_ok hm hT n).enter hf hn
 ·intro W0 B0 ρ W xs hKW hr hxs
  obtain ⟨n,hn⟩:=S_iff.1 h
  exact (callN_ok hm hT n).calls hn hKW hr hxs
theorem S_small {T:Tab} (hT:TabOk P T) {f:FuncId} {args:List AV} {st:St} {r:AV × St} (h:S T f args st=some r):f<yB:=by
 obtain ⟨n,hn⟩:=S_iff.1 h
 cases n with
 | zero=>simp [callN] at hn
 | succ n =>
  simp only [callN,oB] at hn
  obtain ⟨x,hx,_⟩:=hn
  exact (hT f x hx).1
theorem S_calls (hm:P.follows .mixedOrders=true) {T:Tab} (hT:TabOk P T) {f:FuncId} {args:List AV} {st:St} {v:AV} {st':St} (h:S T f args st=some (v,st')) {W0:World} {B0:Bse} {ρ:Rho} {W:World} {xs:List Value} (hg:KG P W0 B0) (hr:Rel W0 B0 st ρ W) (hx:RL (cx st ρ W st.A.length) args xs) :
 Calls P f xs.toArray W fun e W'=>∃ x ρ',e=.returned x∧Goes W0 B0 st ρ W st' ρ' W'∧R (cx st' ρ' W' st'.A.length) v x :=
 ((S_okY hm (K:=fun _ _=>True) hT.y).calls h ⟨trivial,hg⟩ hr hx).1 (S_small hT h)
def lookT:List (FuncId × Ent)→Tab
 | [],_=>none
 | (g,x)::l,f=>if g=f then some x else lookT l f
def AllOk (P:Program):List (FuncId × Ent)→Prop
 | []=>True
 | (f,x)::l=>((∀ (ys:Array Value) (W:World),(callFunc f ys).run P W=.ok (.enter f ys) W)∧EntOk P f x)∧AllOk P l
def smallL (l:List (FuncId × Ent)):Bool:=l.all fun p=>Nat.blt p.1 yB
theorem tabOk_ofS:∀ {l:List (FuncId × Ent)},AllOk P l→smallL l=true→TabOk P (lookT l)
 | [],_,_,f,x,h=>by simp [lookT] at h
 | (g,y)::l,⟨h1,h2⟩,hy,f,x,h=>by
  have hy2:(Nat.blt g yB && smallL l)=true:=hy
  rw [Bool.and_eq_true] at hy2
  simp only [lookT] at h
  split at h
  ·rename_i hg;subst hg
   simp only [oJ] at h;subst h
   exact ⟨Nat.le_of_ble_eq_true hy2.1,h1⟩
  ·exact tabOk_ofS h2 hy2.2 f x h
theorem tabOk_of {l:List (FuncId × Ent)} (h:AllOk P l) (hy:smallL l=true:=by rfl):TabOk P (lookT l):=tabOk_ofS h hy
def St.empty:St:=⟨[],false,[]⟩
theorem rel_empty (W:World):Rel W (.of W) .empty ⟨fun _ _=>⟨0,0,0⟩,fun _=>(0,[])⟩ W:=by
 have hget:∀ lv ix,St.empty.get lv ix=none:=by
  intro lv ix
  unfold St.empty St.get
  split<;>simp [vis]
 refine ⟨.refl _ _,Nat.le_refl _,rfl,?_,?_,?_,?_⟩<;>intro lv ix
 ·intro w ver es h;rw [hget] at h;simp at h
 ·intro w ver es lv' ix' w' ver' es' h;rw [hget] at h;simp at h
 ·intro es h;rw [hget] at h;simp at h
 ·intro es lv' ix' es' h;rw [hget] at h;simp at h
theorem str_eq (s:ByteArray):Value.string s=.string ⟨s.data.toList.toArray⟩:=by simp
end
end Go.QAbs
namespace Go.QAbs
open Go.RowKit (Below)
section
variable {P:Program} {W0:World} {B0:Bse} {st:St} {ρ:Rho} {W W':World}
theorem cell_below (h:Below W.heap.size W W') {b o:Nat} {v:Value} (hc:cellP W b o v):cellP W' b o v:=by
 have hlt:=cell_lt hc
 unfold cellP at hc ⊢
 rw [h.cell (by exact hlt)];exact hc
theorem quiet (hr:Rel W0 B0 st ρ W) (h:Below W.heap.size W W'):Goes W0 B0 st ρ W st ρ W':=by
 have hle:∀ m,(cx st ρ W m).le (cx st ρ W' m):=fun m=>⟨fun b o v q=>⟨cell_below h q.1,q.2⟩,fun _ _ _ _ _ _ q=>q,fun _ _ _ _ _ _ q=>q,fun _ _ _ q=>q,fun _ _ _ q=>q⟩
 refine ⟨⟨hr.below.trans (.of_all hr.b0 h),by have:=hr.b0;have:=h.size;omega,hr.yl,?_,hr.sep,?_,hr.msep⟩,⟨rfl,fun m _=>hle m,fun _ r h=>⟨r,h,rfl,fun _=>rfl⟩,rfl,fun _=>rfl,rfl⟩⟩
 ·intro lv ix w ver es hg
  obtain ⟨a1,a2,a3⟩:=hr.arr lv ix w ver es hg
  refine ⟨a1,fun i e he=>?_,fun j hj=>?_⟩
  ·obtain ⟨x,h1,h2,h3⟩:=a2 i e he
   exact ⟨x,h1.mono (hle lv),h2,h3.mono fun _ _ _=>cell_below h⟩
  ·obtain ⟨m1,m2,m3⟩:=a3 j hj
   obtain ⟨u,hu⟩:=Option.isSome_iff_exists.1 m2
   have hc:cellP W' _ _ u:=cell_below h hu
   have hlt:=cell_lt (W:=W) hu
   unfold cellP at hc
   exact ⟨m1,by rw [hc];rfl,by rw [h.frozen (by exact hlt)];exact m3⟩
 ·intro lv ix es hg
  obtain ⟨m1,en,clock,m2,m3,m4⟩:=hr.map lv ix es hg
  have hlt:(ρ lv ix).b<W.heap.size:=lt_of_getA m2
  refine ⟨m1,en,clock,by rw [h.block _ hlt];exact m2,m3,fun i k v hk=>?_⟩
  obtain ⟨n1,x,n2,n3,n4⟩:=m4 i k v hk
  exact ⟨n1,x,n2,n3.mono (hle lv),n4.mono (hle lv)⟩
def plain:AV→Bool
 | .bool _=>true
 | .int _ _=>true
 | .str _=>true
 | _=>false
open Classical in
noncomputable def known (T:Tab) (f:FuncId):Ent:=.base fun args st =>
 if h:∃ v st',S T f args .empty=some (v,st')∧args.all plain=true∧plain v=true then some (h.choose,st) else none
end
end Go.QAbs
namespace Go.QAbs
open Go.RowKit (Below)
structure Rng where
 g:Opd
 ps:List Nat
 assign:PC
 body:PC
structure RF where
 nt:Nat
 pre:PC
 rng:Rng
 post:PC
 res:List RV
def setPs:List Nat→List AV→Env→Env
 | p::ps,v::vs,e=>setPs ps vs ((p,v)::e)
 | _,_,e=>e
def endRK:Ex × Env × St→Option (AV × St)
 | (.norm,_,st)=>leaveK (.bool true,st)
 | _=>none
def roundK (F:Run):Ex × Env × St→Option (AV × St)
 | (.norm,e,st)=>(F e st).bind endRK
 | _=>none
def roundG (O:Orc) (I:Run→Run) (nt:Nat) (rg:Rng) (args:List AV) (st:St):Option (AV × St) :=
 if args.length=rg.ps.length+nt then (exec O I rg.assign (setPs rg.ps args (initEnv 0 (args.drop rg.ps.length))) st.push).bind (roundK (exec O I rg.body)) else none
def capsE (nt:Nat) (e:Env):List AV:=(List.range nt).map (look e)
def rngK (e:Env) (q:AV × St):Option (Ex × Env × St):=(leaveK q).bind fun r=>some (.norm,e,r.2)
def rngG (OT:Nat→Orc) (nt:Nat) (rg:Rng) (e:Env) (st:St):Option (Ex × Env × St) :=
 match rg.g.get e with
 | .func (.func f) first cap=>if f<yB then (OT (st.A.length+1) f (weaks (first++[.func (.yield (st.A.length+1)) [] (capsE nt e)]++cap)) st.push).bind (rngK e) else none
 | _=>none
def execR (O:Orc) (I:Run→Run) (OT:Nat→Orc) (nt:Nat) (pre:PC) (rg:Rng) (post:PC):Run :=
 fun e st=>(exec O I pre e st).bind (seqK fun e st=>(rngG OT nt rg e st).bind (seqK (exec O I post)))
def rfG (O:Orc) (I:Run→Run) (OT:Nat→Orc) (rf:RF) (args:List AV) (st:St):Option (AV × St) :=
 (execR O I OT rf.nt rf.pre rf.rng rf.post (initEnv 0 args) st.push).bind (endK false rf.res)
def tabY (T:Tab) (lv:Nat) (o:List AV→St→Option (AV × St)):Tab:=fun f=>if f=yB+lv then some (.base o) else T f
noncomputable def rfO (T:Tab) (rf:RF):List AV→St→Option (AV × St) :=
 rfG (S T) itS (fun lv=>S (tabY T lv (roundG (S T) itS rf.nt rf.rng))) rf
section
variable {P:Program} {W0:World} {B0:Bse} {st st':St} {ρ:Rho} {W:World} {e:Env}
theorem Rel.base {W1:World} (hr:Rel W1 B0 st ρ W) (hb:BelowS B0 W0 W):Rel W0 B0 st ρ W:=⟨hb,hr.b0,hr.yl,hr.arr,hr.sep,hr.map,hr.msep⟩
end
end Go.QAbs
namespace Go.QAbs
open Go.RowKit (Below)
end Go.QAbs
namespace Go.QAbs
open Go.RowKit (Below)
section
variable {P:Program} {T:Tab} {W0:World} {B0:Bse} {st st':St} {ρ:Rho} {W:World} {e:Env} {a:Act}
theorem Goes.after {st1 st2:St} {ρ1 ρ2:Rho} {W1 W2:World} (g1:Goes W B0 st ρ W st1 ρ1 W1) (g2:Goes W1 B0 st1 ρ1 W1 st2 ρ2 W2):Goes W B0 st ρ W st2 ρ2 W2 :=
 ⟨g2.rel.base (g1.rel.below.trans g2.rel.below),g1.ev.trans g2.ev⟩
def DefOk (W W':World) (ds:List Deferred):Prop :=
 ∃ k d,ds=[d]∧d.target=.collected k∧W'.heap[k]?=some (.deferred (some []))∧W.heap.size≤k
def DefR (W W':World) (ds:List Deferred):Prop:=ds=[]∨DefOk W W' ds
theorem DefOk.pre {W1 W2:World} {ds:List Deferred} (h:DefOk W1 W2 ds) (hs:W.heap.size≤W1.heap.size):DefOk W W2 ds:=by
 obtain ⟨k,d,h1,h2,h3,h4⟩:=h
 exact ⟨k,d,h1,h2,h3,by omega⟩
theorem DefR.pre {W1 W2:World} {ds:List Deferred} (h:DefR W1 W2 ds) (hs:W.heap.size≤W1.heap.size):DefR W W2 ds:=h.imp id fun h=>h.pre hs
theorem DefR.post {B:Nat} {W1 W2:World} {ds:List Deferred} (h:DefR W W1 ds) (hb:BelowS B W1 W2):DefR W W2 ds:=by
 refine h.imp id ?_
 rintro ⟨k,d,h1,h2,h3,h4⟩
 exact ⟨k,d,h1,h2,hb.s _ _ h3 rfl,h4⟩
def CodeEndR (B0:Bse) (st:St) (ρ:Rho) (W:World) (a:Act) (r:Ex × Env × St) (Q:Exit→Act→World→Prop):Prop :=
 ∀ a' ρ' W',Goes W B0 st ρ W r.2.2 ρ' W'→EnvR (cx r.2.2 ρ' W' r.2.2.A.length) r.2.1 a'.tmps→a'.tmps.size=a.tmps.size→DefR W W' a'.defers→Q r.1.exit a' W'
end
end Go.QAbs
namespace Go.QAbs
open Go.RowKit (Below)
section
variable {P:Program} {T:Tab} {W0:World} {B0:Bse} {st st':St} {ρ:Rho} {W:World} {e:Env} {a:Act}
theorem CodeEndR.after {st1:St} {ρ1:Rho} {W1:World} {a1:Act} {r:Ex × Env × St} {Q:Exit→Act→World→Prop} (h:CodeEndR B0 st ρ W a r Q) (g:Goes W B0 st ρ W st1 ρ1 W1) (hs:a1.tmps.size=a.tmps.size):CodeEndR B0 st1 ρ1 W1 a1 r Q :=
 fun a' ρ' W' g' h1 h2 h3=>h a' ρ' W' (g.after g') h1 (h2.trans hs) (h3.pre g.rel.below.b.size)
end
end Go.QAbs
namespace Go.QAbs
open Go.RowKit (Below)
section
variable {P:Program} {W0:World} {B0:Bse} {st:St} {ρ:Rho} {W W':World}
def strsOf:List AV→Option (List (List UInt8))
 | []=>some []
 | .str s::vs=>(strsOf vs).map (s::·)
 | _::_=>none
def elemsS (st:St):AV→Option (List AV)
 | .str _=>none
 | v=>elems st v
theorem elemsS_of {st:St} {v:AV} {es:List AV} (h:elemsS st v=some es):elems st v=some es∧∀ t,elems t v=some es→elemsS t v=some es:=by
 cases v with
 | str s=>simp [elemsS] at h
 | _=>exact ⟨h,fun t q=>q⟩
theorem strsOf_ok:∀ {es:List AV} {ss:List (List UInt8)},strsOf es=some ss→es=ss.map .str
 | [],ss,h=>by simp only [strsOf,oJ] at h;subst h;rfl
 | v::vs,ss,h=>by
  cases v<;>simp only [strsOf,oM,reduceCtorEq] at h
  obtain ⟨r,hr,rfl⟩:=h
  rw [strsOf_ok hr];rfl
theorem strs_at (hr:Rel W0 B0 st ρ W) {v:AV} {es:List AV} {ss:List (List UInt8)} (he:elemsS st v=some es) (hs:strsOf es=some ss) {x:Value} (hx:R (cx st ρ W st.A.length) v x) :
 ∃ a c,x=.slice a ss.length c∧(ss=[]∨∃ b o,a=some ⟨b,o,none⟩∧ss.length≤c∧∀ (j:Nat) (s:List UInt8),ss[j]?=some s→cellP W b (o+j) (.string ⟨s.toArray⟩)):=by
 have hes:=strsOf_ok hs
 have hone:∀ (s:List UInt8),(Value.string ⟨s.toArray⟩).cells.size=1:=fun _=>rfl
 cases v with
 | str s=>simp [elemsS] at he
 | nils =>
  simp only [elemsS,elems,oJ] at he
  subst he
  simp only [strsOf,oJ] at hs;subst hs
  cases hx with
  | nils a=>exact ⟨a,0,rfl,.inl rfl⟩
 | lit es' =>
  simp only [elemsS,elems,oJ] at he
  subst he
  obtain ⟨a,c,rfl,hc,h⟩:=lit_inv hx
  have hlen:es'.length=ss.length:=by rw [hes];simp
  refine ⟨a,c,by rw [hlen],?_⟩
  rcases h with h|⟨b,o,w,xs,rfl,h1,h2⟩
  ·left;rw [h] at hlen;exact List.length_eq_zero_iff.1 hlen.symm
  ·right
   refine ⟨b,o,rfl,by omega,fun j s hj=>?_⟩
   have hlt:=lt_of_get hj
   have hje:es'[j]?=some (.str s):=by rw [hes,List.getElem?_map,hj];rfl
   have hv:=getStr (h1 j _ hje)
   obtain ⟨hw,hl⟩:=h2 j (by omega)
   rw [hv] at hw hl
   rw [hone] at hw;subst hw
   have:=hl 0 (.string ⟨s.toArray⟩) rfl
   rw [Nat.mul_one,Nat.add_zero] at this
   exact this.1
 | ref lv ix ver s n =>
  simp only [elemsS,elems] at he
  unfold refB at he
  split at he
  ·rename_i w ver' es0 hg
   split at he
   ·rename_i hc
    obtain ⟨rfl,hsn⟩:=hc
    simp only [oJ] at he
    cases hx with
    | ref hp =>
     obtain ⟨_,_,_,a,c,rfl,hp⟩:=hp
     obtain ⟨p1,p2,p3⟩:=hp w es0 hg
     have hlen:ss.length=n:=by
      have:es.length=ss.length:=by rw [hes];simp
      rw [← this,← he];simp;omega
     refine ⟨a,c,by rw [hlen],?_⟩
     by_cases hn:n=0
     ·left;exact List.length_eq_zero_iff.1 (by omega)
     ·right
      have ho:=hr.arr lv ix w ver es0 hg
      have hle:=ho.len
      have hw1:w=1:=by
       have h0:(0:Nat)<ss.length:=by omega
       have hj0:es[0]?=some (.str ss[0]):=by rw [hes,List.getElem?_map,List.getElem?_eq_getElem h0];rfl
       rw [← he,List.getElem?_take,if_pos (by omega),List.getElem?_drop] at hj0
       obtain ⟨y,q1,q2,_⟩:=ho.el _ _ hj0
       rw [getStr q1,hone] at q2
       exact q2.symm
      subst hw1
      refine ⟨(ρ lv ix).b,(ρ lv ix).o+s*1,p3 (by omega),by omega,fun j t hj=>?_⟩
      have hlt:=lt_of_get hj
      have hje:es[j]?=some (.str t):=by rw [hes,List.getElem?_map,hj];rfl
      rw [← he,List.getElem?_take,if_pos (by omega),List.getElem?_drop] at hje
      obtain ⟨y,q1,q2,q3⟩:=ho.el _ _ hje
      rw [getStr q1] at q3
      have:=q3 0 (.string ⟨t.toArray⟩) rfl
      rw [show (ρ lv ix).o+s*1+j=(ρ lv ix).o+(s+j)*1+0 by omega]
      exact this
   ·simp at he
  ·simp at he
 | _=>simp [elemsS,elems] at he
def joinO:List AV→St→Option (AV × St)
 | [v,.str sep],st=>(elemsS st v).bind fun es=>(strsOf es).bind fun ss =>
  if ss.length≤140737488355328∧(sep.intercalate ss).length≤140737488355328 then some (.str (sep.intercalate ss),st) else none
 | _,_=>none
theorem join_ok {f:FuncId}
 (h0:∀ (a:Option Addr) (c:Nat) (sep:ByteArray) (w:World),Calls P f #[.slice a 0 c,.string sep] w fun e w'=>e=.returned (.string ⟨#[]⟩)∧w'=w)
 (h1:∀ (bk o c:Nat) (xs:List ByteArray) (sep:ByteArray) (w:World),(∀ (j:Nat) x,xs[j]?=some x→w.cell? ⟨bk,o+j,none⟩=some (.string x))→bk<w.heap.size→xs.length≤140737488355328→xs.length≤c →
  (sep.data.toList.intercalate (xs.map (·.data.toList))).length≤140737488355328 →
  Calls P f #[.slice (some ⟨bk,o,none⟩) xs.length c,.string sep] w fun e w'=>e=.returned (.string ⟨(sep.data.toList.intercalate (xs.map (·.data.toList))).toArray⟩)∧Below w.heap.size w w') :
 EntOk P f (.base joinO):=by
 refine ⟨fun args st r hr=>?_,?_⟩
 ·unfold joinO at hr ⊢
  simp only at hr ⊢
  split at hr
  ·rename_i v0 sep
   simp only [oB] at hr
   obtain ⟨es,he,ss,hs,h⟩:=hr
   split at h
   ·rename_i hb
    simp only [oJ] at h;subst h
    refine ⟨rfl,fun M i B hh=>?_⟩
    have he':elemsS (st.fillA M i B) v0=some es:=by
     obtain ⟨k1,k2⟩:=elemsS_of he
     exact k2 _ ((fill_more hh).elems k1)
    simp only [he',hs,oS,if_pos hb]
   ·simp at h
  ·simp at hr
 intro args st v st' h W0 B0 ρ W xs _ hr hx
 unfold joinO at h
 split at h
 ·rename_i v0 sep
  simp only [oB] at h
  obtain ⟨es,he,ss,hs,h⟩:=h
  split at h
  ·rename_i hb
   simp only [oJ,Prod.mk.injEq] at h
   obtain ⟨rfl,rfl⟩:=h
   obtain ⟨x,ys,rfl,hx1,hx2⟩:=hx.cons_inv
   obtain ⟨y,zs,rfl,hy1,hy2⟩:=hx2.cons_inv
   obtain rfl:=hy2.nil_inv
   have hy:=getStr hy1;subst hy
   obtain ⟨a,c,rfl,hat⟩:=strs_at hr he hs hx1
   rcases hat with rfl|⟨b,o,rfl,hc,hcell⟩
   ·refine (h0 a c ⟨sep.toArray⟩ W).mono ?_
    rintro e' W' ⟨rfl,rfl⟩
    refine ⟨_,ρ,rfl,.refl hr,?_⟩
    have:sep.intercalate ([]:List (List UInt8))=[]:=rfl
    rw [this];exact .str []
   ·have e1 : (ss.map fun s => ByteArray.mk s.toArray).map (·.data.toList) = ss := by
     rw [List.map_map];simp [Function.comp_def]
    by_cases hss:ss=[]
    ·subst hss
     refine (h0 _ c ⟨sep.toArray⟩ W).mono ?_
     rintro e' W' ⟨rfl,rfl⟩
     refine ⟨_,ρ,rfl,.refl hr,?_⟩
     have:sep.intercalate ([]:List (List UInt8))=[]:=rfl
     rw [this];exact .str []
    ·have hpos:=List.length_pos_iff.2 hss
     have hcell0:=hcell 0 ss[0] (List.getElem?_eq_getElem hpos)
     have:=h1 b o c (ss.map fun s=>ByteArray.mk s.toArray) ⟨sep.toArray⟩ W ?_ (cell_lt hcell0) (by simpa using hb.1) (by simpa using hc) (by rw [e1];exact hb.2)
     ·rw [List.length_map] at this
      refine this.mono ?_
      rintro e' W' ⟨rfl,hbel⟩
      have gq:=quiet hr hbel
      refine ⟨_,ρ,rfl,gq,?_⟩
      rw [e1];exact .str _
     ·intro j x hj
      rw [List.getElem?_map,oM] at hj
      obtain ⟨s,hs',rfl⟩:=hj
      exact hcell j s hs'
  ·simp at h
 ·simp at h
end
end Go.QAbs
namespace Go.QAbs
open Go.RowKit (Below)
section
open Go.Shelf Go.RowKit Go.Lib Go.Proofs
variable {P:Program} {ρ:Ren}
set_option maxHeartbeats 2000000 in
set_option maxRecDepth 100000 in
theorem clone_any (L:SlLaysE0.n41 P ρ) (i0:TypeInfo) (z:Value) (size bytes:Nat) (hi:P.info? (ρ.t 23)=some i0) (hz0:i0.zero=some z) (hz1:i0.size=size) (hz2:i0.bytes=bytes) (hzs:z.cells.size=size) (hsz:0<size)
 (z23:∀ w,(Go.sizeOf (ρ.t 23)).run P w=.ok size w) (ad:Addr) (n c:Nat) (news:List Value) (w:World) (hl:news.length=n*size) (hn:n≤maxLen) (hbig:n*bytes≤140737488355328)
 (hc:∀ j u,news[j]?=some u→w.cell? (ad.add j)=some u) (h1:∀ u∈news,u.oneCell'=true) :
 Calls P (ρ.f 41) #[.slice (some ad) n c] w fun e w'=>∃ v',e=.returned v'∧w'.ownsRow w.heap.size (ρ.t 23) size v' n news∧Below w.heap.size w w':=by
 have mixed:=L.mixed;have t4:=L.t4;have a4:=L.a4;have z4:=L.z4;have v4:=L.v4;have t22:=L.t22;have a22:=L.a22;have z22:=L.z22;have v22:=L.v22
 have q22:∀ (w:World) (a:Option Addr) (n c n' c':Nat),(binOp .eql (ρ.t 22) (.slice a n c) (.slice none n' c')).run P w=.ok (.bool a.isNone) w:=fun w a n c n' c'=>Lib.run_eql_slice_nil w _ _ a n c n' c' L.t22
 have u22:∀ w,Sem.run P (underlying (ρ.t 22)) w=.ok (TypeDesc.slice (ρ.t 23)) w:=run_underlying t22
 have A:Aside (∀ j u,news[j]?=some u→w.cell? (ad.add j)=some u):=hc
 clear hc
 obtain ⟨_,_,FG⟩:=L.f41
 go_enter FG,SlBodyN.n41_ntmps ρ
 go_wp2_with (at_builtin;refine wpList_append_own _ rfl _ _ (ρ.t 22) rfl w.heap.size (ρ.t 23) i0 z size bytes t22 hi hz0 hz1 hz2 hzs hsz _ _ _ rfl (World.ownsRow_made w #[] 0 (Nat.le_refl _) (Nat.zero_le _) (by simp)) ad n c news rfl ?qc1 ?qc2 ?qc3 ?qc4 ?qc5 ?qc6 ?_)
 case qc1=>exact hl
 case qc2 =>
  intro j u hj
  exact Lib.cell?_alloc_some _ (A.out j u hj)
 case qc3=>exact h1
 case qc4=>rw [Nat.zero_add];exact hn
 case qc5=>rw [Nat.zero_add];exact hbig
 case qc6=>simp
 intro v' w1 hown hgrow hnil
 go_wp2
 go_ret
 refine ⟨v',rfl,by simpa using hown,?_⟩
 exact ((Below.refl _ w).alloc (Nat.le_refl _) _).grown hgrow (by simp) (by intro k hk;simp [Value.ownBlock] at hk;omega)
end
def cloneO (w:Nat):List AV→St→Option (AV × St)
 | [.lit es],st=>if sameW w es=true∧es.length≤65536 then some (.lit es,st) else none
 | [.ref lv ix ver s n],st=>(refB ver s n (st.get lv ix)).bind fun es=>if (sameW w es=true∧es.length≤65536)∧es.all (imm 6)=true then some (.lit es,st) else none
 | _,_=>none
section
variable {P:Program} {W0:World} {B0:Bse} {st:St} {ρ:Rho} {W W':World}
theorem flat_at {w:Nat} {xs:List Value} (hw:∀ x∈xs,x.cells.size=w) {bb oo:Nat} (hlies:∀ i x,xs[i]?=some x→Lies (cellP W) bb (oo+i*w) x) {j:Nat} {v:Value} (hv:(flatC xs)[j]?=some v) :
 W.cell? ⟨bb,oo+j,none⟩=some v:=by
 have hj:=lt_of_get hv
 rw [flatC_len hw] at hj
 have hw0 : 0 < w := by rcases Nat.eq_zero_or_pos w with h0 | h0; · subst h0; omega
                        ·exact h0
 have hi:j / w<xs.length:=Nat.div_lt_of_lt_mul (by rw [Nat.mul_comm];exact hj)
 have hx:=List.getElem?_eq_getElem hi
 have hxw:=hw _ (List.getElem_mem hi)
 have hjm:j % w<(xs[j / w]).cells.size:=by rw [hxw];exact Nat.mod_lt _ hw0
 have hget:=flatC_get hw hx (j:=j % w) (v:=(xs[j / w]).cells[j % w]) (Array.getElem?_eq_getElem hjm)
 have hdm:j / w*w+j % w=j:=by rw [Nat.mul_comm];exact Nat.div_add_mod j w
 rw [hdm,hv] at hget
 simp only [oJ] at hget
 have:=hlies _ _ hx (j % w) _ (Array.getElem?_eq_getElem hjm)
 rw [← hget] at this
 unfold cellP at this
 rw [show oo+j=oo+j / w*w+j % w by omega]
 exact this
theorem clone_fin {f:FuncId} {w:Nat} {T:TypeId}
 (h1:∀ (ad:Addr) (n c:Nat) (news:List Value) (W:World),news.length=n*w→n≤65536→(∀ j u,news[j]?=some u→W.cell? (ad.add j)=some u)→(∀ u∈news,u.oneCell'=true) →
  Calls P f #[.slice (some ad) n c] W fun e W'=>∃ v',e=.returned v'∧W'.ownsRow W.heap.size T w v' n news∧Below W.heap.size W W')
 (hr:Rel W0 B0 st ρ W) {es:List AV} {b o c:Nat} {xs:List Value} (hsw:sameW w es=true) (hn:es.length≤65536) (hpos:0<es.length) (hv:RL (cx st ρ W st.A.length).pure es xs)
 (hl:∀ i x,xs[i]?=some x→Lies (cellP W) b (o+i*w) x) :
 Calls P f #[.slice (some ⟨b,o,none⟩) es.length c] W fun e W'=>∃ x ρ',e=.returned x∧Goes W0 B0 st ρ W st ρ' W'∧R (cx st ρ' W' st.A.length) (.lit es) x:=by
 have hwide:∀ (i:Nat) (x:Value),xs[i]?=some x→x.cells.size=w∧∀ y∈x.cells.toList,y.oneCell'=true:=by
  intro i x hx
  have hi:=lt_of_get hx
  rw [← hv.1] at hi
  exact (hv.2 i _ x (List.getElem?_eq_getElem hi) hx).wide (pure_cx_ok _) (sameW_mem hsw (List.getElem_mem hi))
 have hsz:∀ x∈xs,x.cells.size=w:=by
  intro x hx
  obtain ⟨i,hi⟩:=List.getElem?_of_mem hx
  exact (hwide i x hi).1
 have hcells:∀ j u,(flatC xs)[j]?=some u→W.cell? ((⟨b,o,none⟩:Addr).add j)=some u:=by
  intro j u hj
  rw [add_mk]
  exact flat_at hsz hl hj
 have hone:∀ u∈flatC xs,u.oneCell'=true:=by
  intro u hu
  simp only [flatC,List.mem_flatMap] at hu
  obtain ⟨y,hy,hyu⟩:=hu
  obtain ⟨i,hi⟩:=List.getElem?_of_mem hy
  exact (hwide i y hi).2 u hyu
 refine (h1 _ es.length c (flatC xs) W (by rw [flatC_len hsz,hv.1]) hn hcells hone).mono ?_
 rintro e W' ⟨v',rfl,hown,hbel⟩
 refine ⟨_,ρ,rfl,quiet hr hbel,?_⟩
 rcases hown.2 with ⟨_,hz⟩|⟨g,cap,cur,rfl,hg,hrow,hcap,_,hcs,htake⟩
 ·omega
 ·have hq:=quiet hr hbel
  have:=lit_ok (C:=cx st ρ W' st.A.length) (es:=es) (xs:=xs) (b:=g) (o:=0) (w:=w) (c:=cap) (a:=some ⟨g,0,none⟩) (hv.mono (hq.ev.le _ (Nat.le_refl _)).pure) ?_ hcap (fun _=>rfl)
  ·exact this
  ·intro i x hx
   refine ⟨hsz x (List.mem_of_getElem? hx),fun j u hu=>?_⟩
   have hfl:=flatC_get hsz hx hu
   have hcell:=hown.cells (g:=g) rfl _ _ hfl
   rw [add_mk] at hcell
   refine ⟨by rw [show 0+i*w+j=0+(i*w+j) by omega];exact hcell,?_⟩
   rintro ⟨lv',ix',w2,ver',es',hg',h2,h3,h4⟩
   have hm:=(hr.arr _ _ _ _ _ hg').mem (0+i*w+j-(ρ lv' ix').o) (by omega)
   obtain ⟨y,hy⟩:=Option.isSome_iff_exists.1 hm.2.1
   have:=cell_lt (W:=W) (b:=(ρ lv' ix').b) hy
   omega
theorem clone_nil {f:FuncId} {w:Nat} {T:TypeId}
 (h0:∀ (n c:Nat) (W:World),Calls P f #[.slice none n c] W fun e W'=>e=.returned (.slice none 0 0)∧W'=W)
 (h1:∀ (ad:Addr) (n c:Nat) (news:List Value) (W:World),news.length=n*w→n≤65536→(∀ j u,news[j]?=some u→W.cell? (ad.add j)=some u)→(∀ u∈news,u.oneCell'=true) →
  Calls P f #[.slice (some ad) n c] W fun e W'=>∃ v',e=.returned v'∧W'.ownsRow W.heap.size T w v' n news∧Below W.heap.size W W')
 (hr:Rel W0 B0 st ρ W) (a:Option Addr) (c:Nat) :
 Calls P f #[.slice a 0 c] W fun e W'=>∃ x ρ',e=.returned x∧Goes W0 B0 st ρ W st ρ' W'∧R (cx st ρ' W' st.A.length) (.lit []) x:=by
 cases a with
 | none =>
  refine (h0 0 c W).mono ?_
  rintro e W' ⟨rfl,rfl⟩
  exact ⟨_,ρ,rfl,.refl hr,.lit0 _ _⟩
 | some ad =>
  refine (h1 ad 0 c [] W (by simp) (by omega) (by simp) (by simp)).mono ?_
  rintro e W' ⟨v',rfl,hown,hbel⟩
  refine ⟨_,ρ,rfl,quiet hr hbel,?_⟩
  rcases hown.2 with ⟨rfl,_⟩|⟨g,cap,cur,rfl,_⟩
  ·exact .lit0 _ _
  ·exact .lit0 _ _
theorem clone_ok {f:FuncId} {w:Nat} {T:TypeId}
 (h0:∀ (n c:Nat) (W:World),Calls P f #[.slice none n c] W fun e W'=>e=.returned (.slice none 0 0)∧W'=W)
 (h1:∀ (ad:Addr) (n c:Nat) (news:List Value) (W:World),news.length=n*w→n≤65536→(∀ j u,news[j]?=some u→W.cell? (ad.add j)=some u)→(∀ u∈news,u.oneCell'=true) →
  Calls P f #[.slice (some ad) n c] W fun e W'=>∃ v',e=.returned v'∧W'.ownsRow W.heap.size T w v' n news∧Below W.heap.size W W') :
 EntOk P f (.base (cloneO w)):=by
 refine ⟨fun args st r hr=>?_,?_⟩
 ·unfold cloneO at hr ⊢
  simp only at hr ⊢
  split at hr
  ·split at hr
   ·rename_i hc
    simp only [oJ] at hr;subst hr
    exact ⟨rfl,fun M i B hh=>by rw [if_pos hc]⟩
   ·simp at hr
  ·rename_i lv ix ver s n
   simp only [oB] at hr
   obtain ⟨es,he,hr⟩:=hr
   split at hr
   ·rename_i hc
    simp only [oJ] at hr;subst hr
    refine ⟨rfl,fun M i B hh=>?_⟩
    have he':elems (st.fillA M i B) (.ref lv ix ver s n)=some es:=(fill_more hh).elems (x:=.ref lv ix ver s n) he
    simp only [elems] at he'
    rw [he',oS,if_pos hc]
   ·simp at hr
  ·simp at hr
 intro args st v st' h W0 B0 ρ W xs _ hr hx
 unfold cloneO at h
 split at h
 ·rename_i es
  split at h
  ·rename_i hc
   obtain ⟨hsw,hn⟩:=hc
   simp only [oJ,Prod.mk.injEq] at h
   obtain ⟨rfl,rfl⟩:=h
   obtain ⟨x,ys,rfl,hx1,hx2⟩:=hx.cons_inv
   obtain rfl:=hx2.nil_inv
   obtain ⟨a,c,rfl,hlc,hk⟩:=lit_inv hx1
   rcases Nat.eq_zero_or_pos es.length with hz|hpos
   ·have:es=[]:=List.length_eq_zero_iff.1 hz
    subst this
    exact clone_nil h0 h1 hr a c
   ·rcases hk with rfl|⟨b,o,w',vs,rfl,hv,hl⟩
    ·simp at hpos
    have hww:w'=w:=by
     have:=(hl 0 hpos).1
     rw [((hv 0 _ (List.getElem?_eq_getElem hpos)).wide (pure_cx_ok _) (sameW_mem hsw (List.getElem_mem hpos))).1] at this
     exact this.symm
    subst hww
    refine clone_fin h1 hr (xs:=(List.range es.length).map vs) hsw hn hpos ⟨by simp,fun i e x he hx=>?_⟩ fun i x hx=>?_
    ·have hi:=lt_of_get he
     rw [List.getElem?_map,List.getElem?_range hi] at hx
     simp only [Option.map_some,oJ] at hx
     subst hx;exact hv i e he
    ·have hi:=lt_of_get hx
     rw [List.length_map,List.length_range] at hi
     rw [List.getElem?_map,List.getElem?_range hi] at hx
     simp only [Option.map_some,oJ] at hx
     subst hx
     exact (hl i hi).2.mono fun _ _ _ q=>q.1
  ·simp at h
 ·rename_i lv ix ver s n
  simp only [oB] at h
  obtain ⟨es,he,h⟩:=h
  split at h
  ·rename_i hc
   obtain ⟨⟨hsw,hn⟩,him⟩:=hc
   simp only [oJ,Prod.mk.injEq] at h
   obtain ⟨rfl,rfl⟩:=h
   obtain ⟨x,ys,rfl,hx1,hx2⟩:=hx.cons_inv
   obtain rfl:=hx2.nil_inv
   cases hx1 with
   | ref hp =>
    obtain ⟨_,_,_,a,c,rfl,hp⟩:=hp
    unfold refB at he
    split at he
    ·rename_i w2 ver' es0 hg
     split at he
     ·rename_i hc
      obtain ⟨rfl,hsn⟩:=hc
      simp only [oJ] at he
      obtain ⟨p1,p2,p3⟩:=hp w2 es0 hg
      have hlen:es.length=n:=by rw [← he];simp;omega
      rcases Nat.eq_zero_or_pos n with hz|hpos
      ·subst hz
       have:es=[]:=List.length_eq_zero_iff.1 hlen
       subst this
       exact clone_nil h0 h1 hr a c
      ·have aok:=hr.arr _ _ _ _ _ hg
       have hle:=aok.len
       obtain ⟨vs,hvs,hlies⟩:=aok.vals
       have hRL:RL (cx st ρ W lv) es ((vs.drop s).take n):=by rw [← he];exact (hvs.drop s).take n
       have hxs:∀ (i:Nat) (x:Value),((vs.drop s).take n)[i]?=some x→vs[s+i]?=some x:=by
        intro i x hx
        rw [List.getElem?_take] at hx
        split at hx
        ·rw [List.getElem?_drop] at hx;exact hx
        ·simp at hx
       have hpos':0<es.length:=by omega
       have hww:w2=w:=by
        obtain ⟨x,hx,hR⟩:=hRL.get (List.getElem?_eq_getElem hpos')
        have q1:=(hR.wide (cx_ok _ _ _ _) (sameW_mem hsw (List.getElem_mem hpos'))).1
        have q2:=(hlies _ _ (hxs 0 x hx)).1
        rw [q1] at q2;exact q2.symm
       subst hww
       have ha:=p3 (by omega)
       subst ha
       rw [← hlen]
       refine clone_fin h1 hr (xs:=(vs.drop s).take n) hsw hn hpos' ⟨hRL.1,fun i e x he hx=>?_⟩ fun i x hx=>?_
       ·exact imm_R (List.all_eq_true.1 him e (List.mem_of_getElem? he)) (hRL.2 i e x he hx) fun _ _ _ q=>q
       ·have:=(hlies _ _ (hxs i x hx)).2
        rwa [show (ρ lv ix).o+s*w2+i*w2=(ρ lv ix).o+(s+i)*w2 by rw [Nat.add_mul];omega]
     ·simp at he
    ·simp at he
  ·simp at h
 ·simp at h
end
end Go.QAbs
namespace Go.QAbs
def lookO:Env→Nat→Option AV
 | [],_=>none
 | (k,v)::e,t=>match Nat.beq k t with
  | true=>some v
  | false=>lookO e t
def opdO (e:Env):Opd→Option AV
 | .s t=>lookO e t
 | .v a=>some a
def getsO (e:Env):List Opd→Option (List AV)
 | []=>some []
 | o::os=>match opdO e o with
  | some v=>match getsO e os with
   | some r=>some (v::r)
   | none=>none
  | none=>none
def keepO:List Nat→Env→Option Env
 | [],_=>some []
 | k::ks,e=>match lookO e k with
  | some v=>match keepO ks e with
   | some r=>some ((k,v)::r)
   | none=>none
  | none=>match keepO ks e with
   | some r=>some ((k,.any)::r)
   | none=>none
def forceL:List AV→Option (List AV)
 | []=>some []
 | v::vs=>match forceL vs with
  | some r=>some (v::r)
  | none=>none
def forceB:List Blk→Option (List Blk)
 | []=>some []
 | v::vs=>match forceB vs with
  | some r=>some (v::r)
  | none=>none
theorem lookO_some:∀ {e:Env} {t:Nat} {v:AV},lookO e t=some v→look e t=v
 | [],_,_,h=>by simp [lookO] at h
 | (k,w)::e,t,v,h=>by
  simp only [lookO] at h
  split at h
  ·rename_i hb
   simp only [oJ] at h
   rw [look,if_pos (Nat.eq_of_beq_eq_true hb)];exact h
  ·rename_i hb
   have hn:k≠t:=fun q=>by subst q;simp at hb
   rw [look,if_neg hn];exact lookO_some h
theorem lookO_none:∀ {e:Env} {t:Nat},lookO e t=none→look e t=.any
 | [],_,_=>rfl
 | (k,w)::e,t,h=>by
  simp only [lookO] at h
  split at h
  ·simp at h
  ·rename_i hb
   have hn:k≠t:=fun q=>by subst q;simp at hb
   rw [look,if_neg hn];exact lookO_none h
theorem opdO_some {e:Env} {o:Opd} {v:AV} (h:opdO e o=some v):o.get e=v:=by
 cases o with
 | s t=>exact lookO_some h
 | v a=>simp only [opdO,oJ] at h;exact h
theorem getsO_some:∀ {e:Env} {os:List Opd} {vs:List AV},getsO e os=some vs→gets e os=vs
 | _,[],vs,h=>by simp only [getsO,oJ] at h;rw [← h];rfl
 | e,o::os,vs,h=>by
  simp only [getsO] at h
  split at h
  ·rename_i v hv
   split at h
   ·rename_i r hr
    simp only [oJ] at h
    rw [← h,gets,opdO_some hv,getsO_some hr]
   ·simp at h
  ·simp at h
theorem keepO_some:∀ {ks:List Nat} {e r:Env},keepO ks e=some r→keepEnv ks e=r
 | [],_,_,h=>by simp only [keepO,oJ] at h;rw [← h];rfl
 | k::ks,e,r,h=>by
  simp only [keepO] at h
  split at h
  ·rename_i v hv
   split at h
   ·rename_i q hq
    simp only [oJ] at h
    rw [← h,keepEnv,lookO_some hv,keepO_some hq]
   ·simp at h
  ·rename_i hv
   split at h
   ·rename_i q hq
    simp only [oJ] at h
    rw [← h,keepEnv,lookO_none hv,keepO_some hq]
   ·simp at h
theorem forceL_some:∀ {l r:List AV},forceL l=some r→l=r
 | [],r,h=>by simpa [forceL] using h
 | v::vs,r,h=>by
  simp only [forceL] at h
  split at h
  ·rename_i q hq
   simp only [oJ] at h
   rw [← h,forceL_some hq]
  ·simp at h
theorem forceB_some:∀ {l r:List Blk},forceB l=some r→l=r
 | [],r,h=>by simpa [forceB] using h
 | v::vs,r,h=>by
  simp only [forceB] at h
  split at h
  ·rename_i q hq
   simp only [oJ] at h
   rw [← h,forceB_some hq]
  ·simp at h
inductive Fr where
 | seq (b:PC)
 | blk (id:Nat)
 | inv (P:Env→St→Prop)
abbrev Post:=Ex→Env→St→Prop
def RkD (O:Orc):List Fr→Post→Ex→Env→St→Prop
 | [],Q,x,e,st=>Q x e st
 | .seq b::k,Q,.norm,e,st=>∃ x e' st',exec O itS b e st=some (x,e',st')∧RkD O k Q x e' st'
 | .seq _::k,Q,x,e,st=>RkD O k Q x e st
 | .blk id::k,Q,.ex id',e,st=>if id'=id then RkD O k Q .norm e st else RkD O k Q (.ex id') e st
 | .blk _::k,Q,x,e,st=>RkD O k Q x e st
 | .inv P::_,_,.norm,e,st=>P e st
 | .inv _::k,Q,x,e,st=>RkD O k Q x e st
structure Rk (O:Orc) (k:List Fr) (Q:Post) (x:Ex) (e:Env) (st:St):Prop where
 h:RkD O k Q x e st
structure Ru (O:Orc) (c:PC) (k:List Fr) (Q:Post) (e:Env) (st:St):Prop where
 h:∃ x e' st',exec O itS c e st=some (x,e',st')∧RkD O k Q x e' st'
structure Is (O:Orc) (is:List PI) (keep:List Nat) (k:List Fr) (Q:Post) (e:Env) (st:St):Prop where
 h:∃ e' st',runIs O is e st=some (e',st')∧RkD O k Q .norm (keepEnv keep e') st'
def Sp (T:Tab) (f:FuncId) (args:List AV) (st:St) (Q:AV→St→Prop):Prop:=∃ v st',S T f args st=some (v,st')∧Q v st'
section
variable {O:Orc} {k:List Fr} {Q:Post} {e:Env} {st:St}
theorem ru_seq {a b:PC} (h:Ru O a (.seq b::k) Q e st):Ru O (.seq a b) k Q e st:=by
 obtain ⟨⟨x,e',st',h1,h2⟩⟩:=h
 cases x with
 | norm =>
  obtain ⟨x,e2,st2,h3,h4⟩:=h2
  exact ⟨⟨x,e2,st2,by rw [exec_seq,h1,oS,seqK_norm];exact h3,h4⟩⟩
 | ex id=>exact ⟨⟨.ex id,e',st',by rw [exec_seq,h1];rfl,h2⟩⟩
 | ret=>exact ⟨⟨.ret,e',st',by rw [exec_seq,h1];rfl,h2⟩⟩
theorem ru_skip (h:Rk O k Q .norm e st):Ru O .skip k Q e st:=⟨⟨_,_,_,rfl,h.h⟩⟩
theorem ru_ret (h:Rk O k Q .ret e st):Ru O .ret k Q e st:=⟨⟨_,_,_,rfl,h.h⟩⟩
theorem ru_exit {id:Nat} (h:Rk O k Q (.ex id) e st):Ru O (.exit id) k Q e st:=⟨⟨_,_,_,rfl,h.h⟩⟩
theorem ru_block {id:Nat} {b:PC} (h:Ru O b (.blk id::k) Q e st):Ru O (.block id b) k Q e st:=by
 obtain ⟨⟨x,e',st',h1,h2⟩⟩:=h
 cases x with
 | norm=>exact ⟨⟨.norm,e',st',by rw [exec_block,h1];rfl,h2⟩⟩
 | ex id' =>
  simp only [RkD] at h2
  by_cases hid:id'=id
  ·rw [if_pos hid] at h2
   exact ⟨⟨.norm,e',st',by rw [exec_block,h1];simp [blockK,hid],h2⟩⟩
  ·rw [if_neg hid] at h2
   exact ⟨⟨.ex id',e',st',by rw [exec_block,h1];simp [blockK,hid],h2⟩⟩
 | ret=>exact ⟨⟨.ret,e',st',by rw [exec_block,h1];rfl,h2⟩⟩
theorem ru_iteT {c:Opd} {a b:PC} (hc:opdO e c=some (.bool true)) (h:Ru O a k Q e st):Ru O (.ite c a b) k Q e st:=by
 obtain ⟨⟨x,e',st',h1,h2⟩⟩:=h
 exact ⟨⟨x,e',st',by rw [exec_ite,opdO_some hc,iteV_true];exact h1,h2⟩⟩
theorem ru_iteF {c:Opd} {a b:PC} (hc:opdO e c=some (.bool false)) (h:Ru O b k Q e st):Ru O (.ite c a b) k Q e st:=by
 obtain ⟨⟨x,e',st',h1,h2⟩⟩:=h
 exact ⟨⟨x,e',st',by rw [exec_ite,opdO_some hc,iteV_false];exact h1,h2⟩⟩
theorem ru_reg {keep:List Nat} {is:List PI} (h:Is O is keep k Q e st):Ru O (.reg keep is) k Q e st:=by
 obtain ⟨⟨e',st',h1,h2⟩⟩:=h
 exact ⟨⟨.norm,keepEnv keep e',st',by rw [exec_reg,h1];rfl,h2⟩⟩
theorem ru_loop {b:PC} (P:Nat→Env→St→Prop) (n:Nat) (h0:P n e st)
 (step:∀ n e st,P n e st→Ru O b (.inv (fun e st=>∃ m,m<n∧P m e st)::k) Q e st):Ru O (.loop b) k Q e st:=by
 have key:∀ n e st,P n e st→Ru O (.loop b) k Q e st:=by
  intro n
  induction n using Nat.strongRecOn with
  | ind n ih =>
   intro e st h
   obtain ⟨⟨x,e',st',h1,h2⟩⟩:=step n e st h
   cases x with
   | norm =>
    obtain ⟨m,hm,hp⟩:=h2
    obtain ⟨⟨x,e2,st2,h3,h4⟩⟩:=ih m hm e' st' hp
    exact ⟨⟨x,e2,st2,by rw [exec_loop,itS_step,h1,oS,seqK_norm];exact h3,h4⟩⟩
   | ex id=>exact ⟨⟨.ex id,e',st',by rw [exec_loop,itS_step,h1];rfl,h2⟩⟩
   | ret=>exact ⟨⟨.ret,e',st',by rw [exec_loop,itS_step,h1];rfl,h2⟩⟩
 exact key n e st h0
theorem ru_loopP {α:Type} {b:PC} (E:α→Env) (X:α→St) (P:α→Prop) (m:α→Nat) (a:α) (he:e=E a) (hs:st=X a) (h0:P a)
 (step:∀ a,P a→Ru O b (.inv (fun e st=>∃ c,(e=E c∧st=X c)∧(P c∧m c<m a))::k) Q (E a) (X a)):Ru O (.loop b) k Q e st:=by
 refine ru_loop (fun n e st=>∃ a,(e=E a∧st=X a)∧(P a∧m a=n)) (m a) ⟨a,⟨he,hs⟩,h0,rfl⟩ ?_
 rintro n e st ⟨a,⟨rfl,rfl⟩,hp,hm⟩
 obtain ⟨⟨x,e',st',h1,h2⟩⟩:=step a hp
 refine ⟨⟨x,e',st',h1,?_⟩⟩
 cases x with
 | norm =>
  obtain ⟨c,hc,hp,hl⟩:=h2
  exact ⟨m c,by omega,c,hc,hp,rfl⟩
 | ex id=>exact h2
 | ret=>exact h2
theorem rk_nil {x:Ex} (h:Q x e st):Rk O [] Q x e st:=⟨h⟩
theorem rk_seq {b:PC} (h:Ru O b k Q e st):Rk O (.seq b::k) Q .norm e st:=⟨h.h⟩
theorem rk_seq_ret {b:PC} (h:Rk O k Q .ret e st):Rk O (.seq b::k) Q .ret e st:=⟨h.h⟩
theorem rk_seq_ex {b:PC} {id:Nat} (h:Rk O k Q (.ex id) e st):Rk O (.seq b::k) Q (.ex id) e st:=⟨h.h⟩
theorem rk_blk {id:Nat} (h:Rk O k Q .norm e st):Rk O (.blk id::k) Q .norm e st:=⟨h.h⟩
theorem rk_blk_ret {id:Nat} (h:Rk O k Q .ret e st):Rk O (.blk id::k) Q .ret e st:=⟨h.h⟩
theorem rk_blk_eq {id id':Nat} (hi:Nat.beq id' id=true) (h:Rk O k Q .norm e st):Rk O (.blk id::k) Q (.ex id') e st:=by
 refine ⟨?_⟩;simp only [RkD];rw [if_pos (Nat.eq_of_beq_eq_true hi)];exact h.h
theorem rk_blk_ne {id id':Nat} (hi:Nat.beq id' id=false) (h:Rk O k Q (.ex id') e st):Rk O (.blk id::k) Q (.ex id') e st:=by
 refine ⟨?_⟩;simp only [RkD];rw [if_neg (fun q=>by subst q;simp at hi)];exact h.h
theorem rk_inv {P:Env→St→Prop} (h:P e st):Rk O (.inv P::k) Q .norm e st:=⟨h⟩
theorem rk_inv_ret {P:Env→St→Prop} (h:Rk O k Q .ret e st):Rk O (.inv P::k) Q .ret e st:=⟨h.h⟩
theorem rk_inv_ex {P:Env→St→Prop} {id:Nat} (h:Rk O k Q (.ex id) e st):Rk O (.inv P::k) Q (.ex id) e st:=⟨h.h⟩
variable {keep:List Nat} {is:List PI}
theorem is_nil {e':Env} (he:keepO keep e=some e') (h:Rk O k Q .norm e' st):Is O [] keep k Q e st :=
 ⟨⟨e,st,rfl,by rw [keepO_some he];exact h.h⟩⟩
variable {d:Nat} {own:Bool} {op:PO}
theorem is_gT {t:Nat} {w:Bool} {od:Option Nat} (hg:lookO e t=some (.bool w)) (h:Is O (⟨od,none,own,op⟩::is) keep k Q e st):Is O (⟨od,some (t,w),own,op⟩::is) keep k Q e st:=by
 obtain ⟨⟨e',st',h1,h2⟩⟩:=h
 refine ⟨⟨e',st',?_,h2⟩⟩
 rw [runIs_cons] at h1 ⊢
 have:wantedV e (some (t,w))=some true:=by simp [wantedV,lookO_some hg,wantedB]
 simp only [this];exact h1
theorem is_gF {t:Nat} {w w':Bool} (hg:lookO e t=some (.bool w')) (hw:(w' == w)=false) (h:Is O is keep k Q ((d,.undef)::e) st):Is O (⟨some d,some (t,w),own,op⟩::is) keep k Q e st:=by
 obtain ⟨⟨e',st',h1,h2⟩⟩:=h
 refine ⟨⟨e',st',?_,h2⟩⟩
 rw [runIs_cons]
 have:wantedV e (some (t,w))=some false:=by simp [wantedV,lookO_some hg,wantedB,hw]
 rw [this,oS,runW_false];exact h1
theorem is_gU {t:Nat} {w:Bool} (hg:lookO e t=some .undef) (h:Is O is keep k Q ((d,.undef)::e) st):Is O (⟨some d,some (t,w),own,op⟩::is) keep k Q e st:=by
 obtain ⟨⟨e',st',h1,h2⟩⟩:=h
 refine ⟨⟨e',st',?_,h2⟩⟩
 rw [runIs_cons]
 have:wantedV e (some (t,w))=some false:=by simp [wantedV,lookO_some hg,wantedB]
 rw [this,oS,runW_false];exact h1
theorem is_gFn {t:Nat} {w w':Bool} (hg:lookO e t=some (.bool w')) (hw:(w' == w)=false) (h:Is O is keep k Q e st):Is O (⟨none,some (t,w),own,op⟩::is) keep k Q e st:=by
 obtain ⟨⟨e',st',h1,h2⟩⟩:=h
 refine ⟨⟨e',st',?_,h2⟩⟩
 rw [runIs_cons]
 have:wantedV e (some (t,w))=some false:=by simp [wantedV,lookO_some hg,wantedB,hw]
 rw [this,oS,runW_false];exact h1
theorem is_gUn {t:Nat} {w:Bool} (hg:lookO e t=some .undef) (h:Is O is keep k Q e st):Is O (⟨none,some (t,w),own,op⟩::is) keep k Q e st:=by
 obtain ⟨⟨e',st',h1,h2⟩⟩:=h
 refine ⟨⟨e',st',?_,h2⟩⟩
 rw [runIs_cons]
 have:wantedV e (some (t,w))=some false:=by simp [wantedV,lookO_some hg,wantedB]
 rw [this,oS,runW_false];exact h1
theorem is_of {od:Option Nat} {v:AV} {st':St} (hv:evalPI O e st op=some (v,st')) (h:Is O is keep k Q (setD e od v) st'):Is O (⟨od,none,false,op⟩::is) keep k Q e st:=by
 obtain ⟨⟨e',st2,h1,h2⟩⟩:=h
 refine ⟨⟨e',st2,?_,h2⟩⟩
 rw [runIs_cons]
 have:wantedV e none=some true:=rfl
 simp only [this,oS,runW_true]
 have h3:evalI O e st ⟨od,none,false,op⟩=some (v,st'):=by simp only [evalI,Bool.false_eq_true,if_false];exact hv
 rw [h3,oS,runK_mk];exact h1
theorem is_mv {x:Opd} {v:AV} (hx:opdO e x=some v) (h:Is O is keep k Q ((d,v)::e) st):Is O (⟨some d,none,false,.mv x⟩::is) keep k Q e st :=
 is_of (v:=v) (st':=st) (by rw [← opdO_some hx];rfl) h
theorem is_pick {c a b:Opd} {t:Bool} {va vb v:AV} (hc:opdO e c=some (.bool t)) (ha:opdO e a=some va) (hb:opdO e b=some vb) (hv:(match t with|true=>some va|false=>some vb)=some v)
 (h:Is O is keep k Q ((d,v)::e) st):Is O (⟨some d,none,false,.pick c a b⟩::is) keep k Q e st :=
 is_of (v:=v) (st':=st) (by simp only [evalPI,evalPO,opdO_some hc,opdO_some ha,opdO_some hb,pickV,oS,ret1];cases t<;>simp at hv<;>simp [hv]) h
theorem is_add {x y:Opd} {kd:IntKind} {a b:Int} (hx:opdO e x=some (.int kd a)) (hy:opdO e y=some (.int kd b)) (h:Is O is keep k Q ((d,.int kd (kd.wrap (a+b)))::e) st):Is O (⟨some d,none,false,.bin .add x y⟩::is) keep k Q e st :=
 is_of (st':=st) (by simp only [evalPI,evalPO,opdO_some hx,opdO_some hy,binV,isSh,if_false,if_true,intBin,Bool.false_eq_true,oS,ret1]) h
theorem is_sub {x y:Opd} {kd:IntKind} {a b:Int} (hx:opdO e x=some (.int kd a)) (hy:opdO e y=some (.int kd b)) (h:Is O is keep k Q ((d,.int kd (kd.wrap (a-b)))::e) st):Is O (⟨some d,none,false,.bin .sub x y⟩::is) keep k Q e st :=
 is_of (st':=st) (by simp only [evalPI,evalPO,opdO_some hx,opdO_some hy,binV,isSh,if_false,if_true,intBin,Bool.false_eq_true,oS,ret1]) h
theorem is_mul {x y:Opd} {kd:IntKind} {a b:Int} (hx:opdO e x=some (.int kd a)) (hy:opdO e y=some (.int kd b)) (h:Is O is keep k Q ((d,.int kd (kd.wrap (a*b)))::e) st):Is O (⟨some d,none,false,.bin .mul x y⟩::is) keep k Q e st :=
 is_of (st':=st) (by simp only [evalPI,evalPO,opdO_some hx,opdO_some hy,binV,isSh,if_false,if_true,intBin,Bool.false_eq_true,oS,ret1]) h
theorem wrap64 {n:Int} (h0:-9223372036854775808≤n) (h1:n<9223372036854775808):IntKind.i64.wrap n=n:=by
 have e1:IntKind.i64.signed=true:=rfl
 have e2:IntKind.i64.bits=64:=rfl
 simp only [IntKind.wrap,e1,e2,Bool.true_and,decide_eq_true_eq]
 split<;>omega
theorem is_addS {x y:Opd} {a b:Int} (hx:opdO e x=some (.int .i64 a)) (hy:opdO e y=some (.int .i64 b)) (hw:-9223372036854775808≤a+b∧a+b<9223372036854775808) (h:Is O is keep k Q ((d,.int .i64 (a+b))::e) st):Is O (⟨some d,none,false,.bin .add x y⟩::is) keep k Q e st:=by
 rw [← wrap64 hw.1 hw.2] at h;exact is_add hx hy h
theorem is_subS {x y:Opd} {a b:Int} (hx:opdO e x=some (.int .i64 a)) (hy:opdO e y=some (.int .i64 b)) (hw:-9223372036854775808≤a-b∧a-b<9223372036854775808) (h:Is O is keep k Q ((d,.int .i64 (a-b))::e) st):Is O (⟨some d,none,false,.bin .sub x y⟩::is) keep k Q e st:=by
 rw [← wrap64 hw.1 hw.2] at h;exact is_sub hx hy h
theorem is_mulS {x y:Opd} {a b:Int} (hx:opdO e x=some (.int .i64 a)) (hy:opdO e y=some (.int .i64 b)) (hw:-9223372036854775808≤a*b∧a*b<9223372036854775808) (h:Is O is keep k Q ((d,.int .i64 (a*b))::e) st):Is O (⟨some d,none,false,.bin .mul x y⟩::is) keep k Q e st:=by
 rw [← wrap64 hw.1 hw.2] at h;exact is_mul hx hy h
theorem is_quoS {x y:Opd} {a b:Int} (hx:opdO e x=some (.int .i64 a)) (hy:opdO e y=some (.int .i64 b)) (hw:0≤a∧0<b∧a<9223372036854775808) (h:Is O is keep k Q ((d,.int .i64 (a / b))::e) st):Is O (⟨some d,none,false,.bin .quo x y⟩::is) keep k Q e st:=by
 refine is_of (st':=st) (v:=.int .i64 (a / b)) ?_ h
 simp only [evalPI,evalPO,opdO_some hx,opdO_some hy,binV,isSh,if_false,if_true,intBin,Bool.false_eq_true,oS,ret1]
 rw [if_neg (by omega),Int.tdiv_eq_ediv_of_nonneg hw.1]
 have h1:a / b≤a:=Int.ediv_le_self b hw.1
 have h2:0≤a / b:=Int.ediv_nonneg hw.1 (by omega)
 rw [wrap64 (by omega) (by omega)]
 rfl
theorem is_remS {x y:Opd} {a b:Int} (hx:opdO e x=some (.int .i64 a)) (hy:opdO e y=some (.int .i64 b)) (hw:0≤a∧0<b) (h:Is O is keep k Q ((d,.int .i64 (a % b))::e) st):Is O (⟨some d,none,false,.bin .rem x y⟩::is) keep k Q e st:=by
 refine is_of (st':=st) (v:=.int .i64 (a % b)) ?_ h
 simp only [evalPI,evalPO,opdO_some hx,opdO_some hy,binV,isSh,if_false,if_true,intBin,Bool.false_eq_true,oS,ret1]
 rw [if_neg (by omega),Int.tmod_eq_emod_of_nonneg hw.1]
 rfl
theorem is_cmp {x y:Opd} {kd:IntKind} {a b:Int} {bop:BinOp} {p:Prop} [Decidable p] (hx:opdO e x=some (.int kd a)) (hy:opdO e y=some (.int kd b)) (hp:intBin bop kd a b=some (.bool (decide p))) (hs:isSh bop=false)
 (hT:p→Is O is keep k Q ((d,.bool true)::e) st) (hF:¬ p→Is O is keep k Q ((d,.bool false)::e) st):Is O (⟨some d,none,false,.bin bop x y⟩::is) keep k Q e st:=by
 have hv:evalPI O e st (.bin bop x y)=some (.bool (decide p),st):=by
  simp only [evalPI,evalPO,opdO_some hx,opdO_some hy,binV,hs,if_false,if_true,Bool.false_eq_true,hp,oS,ret1]
 by_cases q:p
 ·rw [decide_eq_true q] at hv;exact is_of hv (hT q)
 ·rw [decide_eq_false q] at hv;exact is_of hv (hF q)
theorem is_lss {x y:Opd} {kd:IntKind} {a b:Int} (hx:opdO e x=some (.int kd a)) (hy:opdO e y=some (.int kd b)) (hT:a<b→Is O is keep k Q ((d,.bool true)::e) st) (hF:b≤a→Is O is keep k Q ((d,.bool false)::e) st):Is O (⟨some d,none,false,.bin .lss x y⟩::is) keep k Q e st :=
 is_cmp hx hy rfl rfl hT (fun q=>hF (Int.not_lt.1 q))
theorem is_leq {x y:Opd} {kd:IntKind} {a b:Int} (hx:opdO e x=some (.int kd a)) (hy:opdO e y=some (.int kd b)) (hT:a≤b→Is O is keep k Q ((d,.bool true)::e) st) (hF:b<a→Is O is keep k Q ((d,.bool false)::e) st):Is O (⟨some d,none,false,.bin .leq x y⟩::is) keep k Q e st :=
 is_cmp hx hy rfl rfl hT (fun q=>hF (Int.not_le.1 q))
theorem is_gtr {x y:Opd} {kd:IntKind} {a b:Int} (hx:opdO e x=some (.int kd a)) (hy:opdO e y=some (.int kd b)) (hT:b<a→Is O is keep k Q ((d,.bool true)::e) st) (hF:a≤b→Is O is keep k Q ((d,.bool false)::e) st):Is O (⟨some d,none,false,.bin .gtr x y⟩::is) keep k Q e st :=
 is_cmp hx hy rfl rfl hT (fun q=>hF (Int.not_lt.1 q))
theorem is_geq {x y:Opd} {kd:IntKind} {a b:Int} (hx:opdO e x=some (.int kd a)) (hy:opdO e y=some (.int kd b)) (hT:b≤a→Is O is keep k Q ((d,.bool true)::e) st) (hF:a<b→Is O is keep k Q ((d,.bool false)::e) st):Is O (⟨some d,none,false,.bin .geq x y⟩::is) keep k Q e st :=
 is_cmp hx hy rfl rfl hT (fun q=>hF (Int.not_le.1 q))
theorem is_eql {x y:Opd} {kd:IntKind} {a b:Int} (hx:opdO e x=some (.int kd a)) (hy:opdO e y=some (.int kd b)) (hT:a=b→Is O is keep k Q ((d,.bool true)::e) st) (hF:a≠b→Is O is keep k Q ((d,.bool false)::e) st):Is O (⟨some d,none,false,.bin .eql x y⟩::is) keep k Q e st :=
 is_cmp hx hy rfl rfl hT hF
theorem is_neq {x y:Opd} {kd:IntKind} {a b:Int} (hx:opdO e x=some (.int kd a)) (hy:opdO e y=some (.int kd b)) (hT:a≠b→Is O is keep k Q ((d,.bool true)::e) st) (hF:a=b→Is O is keep k Q ((d,.bool false)::e) st):Is O (⟨some d,none,false,.bin .neq x y⟩::is) keep k Q e st :=
 is_cmp hx hy rfl rfl hT (fun q=>hF (Decidable.byContradiction q))
theorem is_eqlS {x y:Opd} {a b:List UInt8} (hx:opdO e x=some (.str a)) (hy:opdO e y=some (.str b)) (hT:a=b→Is O is keep k Q ((d,.bool true)::e) st) (hF:a≠b→Is O is keep k Q ((d,.bool false)::e) st):Is O (⟨some d,none,false,.bin .eql x y⟩::is) keep k Q e st:=by
 have hv:evalPI O e st (.bin .eql x y)=some (.bool (decide (a=b)),st):=by
  simp only [evalPI,evalPO,opdO_some hx,opdO_some hy,binV,strBin,oS,ret1]
 by_cases q:a=b
 ·rw [decide_eq_true q] at hv;exact is_of hv (hT q)
 ·rw [decide_eq_false q] at hv;exact is_of hv (hF q)
theorem is_neqS {x y:Opd} {a b:List UInt8} (hx:opdO e x=some (.str a)) (hy:opdO e y=some (.str b)) (hT:a≠b→Is O is keep k Q ((d,.bool true)::e) st) (hF:a=b→Is O is keep k Q ((d,.bool false)::e) st):Is O (⟨some d,none,false,.bin .neq x y⟩::is) keep k Q e st:=by
 have hv:evalPI O e st (.bin .neq x y)=some (.bool (decide (a≠b)),st):=by
  simp only [evalPI,evalPO,opdO_some hx,opdO_some hy,binV,strBin,oS,ret1]
 by_cases q:a=b
 ·rw [decide_eq_false (fun h=>h q)] at hv;exact is_of hv (hF q)
 ·rw [decide_eq_true q] at hv;exact is_of hv (hT q)
theorem is_cat {x y:Opd} {a b:List UInt8} (hx:opdO e x=some (.str a)) (hy:opdO e y=some (.str b)) (hl:a.length+b.length<4611686018427387904) (h:Is O is keep k Q ((d,.str (a++b))::e) st):Is O (⟨some d,none,false,.bin .add x y⟩::is) keep k Q e st :=
 is_of (st':=st) (by simp only [evalPI,evalPO,opdO_some hx,opdO_some hy,binV,strBin,if_pos hl,oS,ret1]) h
theorem is_bin {bop:BinOp} {x y:Opd} {a b v:AV} (hx:opdO e x=some a) (hy:opdO e y=some b) (hv:binV bop a b=some v) (h:Is O is keep k Q ((d,v)::e) st):Is O (⟨some d,none,false,.bin bop x y⟩::is) keep k Q e st :=
 is_of (v:=v) (st':=st) (by simp only [evalPI,evalPO,opdO_some hx,opdO_some hy,hv,oS,ret1]) h
theorem is_eqs {neg:Bool} {kind:Nat} {ks:List (Nat × Nat)} {x y:Opd} {a b:AV} {t u:Bool} (hx:opdO e x=some a) (hy:opdO e y=some b) (hv:eqV ks kind a b=some t) (hu:(match neg with|true=>!t|false=>t)=u) (h:Is O is keep k Q ((d,.bool u)::e) st) :
 Is O (⟨some d,none,false,.eqs neg kind ks x y⟩::is) keep k Q e st :=
 is_of (v:=.bool u) (st':=st) (by simp only [evalPI,evalPO,opdO_some hx,opdO_some hy,hv,oS];subst hu;cases neg<;>simp) h
theorem is_eqsB {neg:Bool} {kind:Nat} {ks:List (Nat × Nat)} {x y:Opd} {a b:AV} {p:Prop} [Decidable p] (hx:opdO e x=some a) (hy:opdO e y=some b) (hv:eqV ks kind a b=some (decide p))
 (hT:p→Is O is keep k Q ((d,.bool (!neg))::e) st) (hF:¬ p→Is O is keep k Q ((d,.bool neg)::e) st) :
 Is O (⟨some d,none,false,.eqs neg kind ks x y⟩::is) keep k Q e st:=by
 by_cases q:p
 ·refine is_eqs hx hy (t:=true) (u:=!neg) (by rw [hv,decide_eq_true q]) ?_ (hT q)
  cases neg<;>rfl
 ·refine is_eqs hx hy (t:=false) (u:=neg) (by rw [hv,decide_eq_false q]) ?_ (hF q)
  cases neg<;>rfl
theorem is_not {x:Opd} {b c:Bool} (hx:opdO e x=some (.bool b)) (hc:(match b with|true=>some false|false=>some true)=some c) (h:Is O is keep k Q ((d,.bool c)::e) st):Is O (⟨some d,none,false,.un .not x⟩::is) keep k Q e st :=
 is_of (v:=.bool c) (st':=st) (by simp only [evalPI,evalPO,opdO_some hx,unV,oS,ret1];cases b<;>simp at hc<;>simp [← hc]) h
theorem is_cint {x:Opd} {kd kd':IntKind} {a:Int} (hx:opdO e x=some (.int kd' a)) (h:Is O is keep k Q ((d,.int kd (kd.wrap a))::e) st):Is O (⟨some d,none,false,.cint kd x⟩::is) keep k Q e st :=
 is_of (st':=st) (by simp only [evalPI,evalPO,opdO_some hx,cintV,oS,ret1]) h
theorem is_cintW {x:Opd} {kd kd':IntKind} {a:Int} (hx:opdO e x=some (.int kd' a)) (hw:kd.wrap a=a) (h:Is O is keep k Q ((d,.int kd a)::e) st):Is O (⟨some d,none,false,.cint kd x⟩::is) keep k Q e st :=
 is_of (v:=.int kd a) (st':=st) (by simp only [evalPI,evalPO,opdO_some hx,cintV,oS,ret1,hw]) h
theorem is_b2s {x:Opd} {a v:AV} (hx:opdO e x=some a) (hv:b2sV st a=some v) (h:Is O is keep k Q ((d,v)::e) st):Is O (⟨some d,none,false,.b2s x⟩::is) keep k Q e st :=
 is_of (v:=v) (st':=st) (by simp only [evalPI,evalPO,opdO_some hx,hv,oS,ret1]) h
theorem is_mkf {fn:Fn} {f c:List Opd} {vf vc:List AV} (hf:getsO e f=some vf) (hc:getsO e c=some vc) (h:Is O is keep k Q ((d,.func fn vf vc)::e) st):Is O (⟨some d,none,false,.mkf fn f c⟩::is) keep k Q e st :=
 is_of (st':=st) (by simp only [evalPI,evalPO,getsO_some hf,getsO_some hc]) h
theorem is_nilck {x:Opd} {a v:AV} (hx:opdO e x=some a) (hv:nilckV a=some v) (h:Is O is keep k Q ((d,v)::e) st):Is O (⟨some d,none,false,.nilck x⟩::is) keep k Q e st :=
 is_of (v:=v) (st':=st) (by simp only [evalPI,evalPO,opdO_some hx,hv,oS,ret1]) h
theorem is_mnx {mx:Bool} {x y:Opd} {kd:IntKind} {a b:Int} (hx:opdO e x=some (.int kd a)) (hy:opdO e y=some (.int kd b)) (h:Is O is keep k Q ((d,.int kd (if mx=true then max a b else min a b))::e) st):Is O (⟨some d,none,false,.mnx mx x y⟩::is) keep k Q e st:=by
 refine is_of (v:=.int kd (if mx=true then max a b else min a b)) (st':=st) ?_ h
 simp only [evalPI,evalPO,opdO_some hx,opdO_some hy,mnxV,if_true,oS,ret1]
 cases mx
 ·have:(if b<a then b else a)=min a b:=by rw [Int.min_def];split<;>split<;>omega
  simp [this]
 ·have:(if a<b then b else a)=max a b:=by rw [Int.max_def];split<;>split<;>omega
  simp [this]
theorem is_ext {x:Opd} {i:Nat} {vs:List AV} {v:AV} (hx:opdO e x=some (.tup vs)) (hv:vs[i]?=some v) (h:Is O is keep k Q ((d,v)::e) st):Is O (⟨some d,none,false,.ext x i⟩::is) keep k Q e st :=
 is_of (v:=v) (st':=st) (by simp only [evalPI,evalPO,opdO_some hx,extV,hv,oS,ret1]) h
theorem is_lenS {x:Opd} {a:List UInt8} (hx:opdO e x=some (.str a)) (h:Is O is keep k Q ((d,.int .i64 a.length)::e) st):Is O (⟨some d,none,false,.len 0 x⟩::is) keep k Q e st :=
 is_of (st':=st) (by simp only [evalPI,evalPO,opdO_some hx,lenOf,oS]) h
theorem is_lenL {x:Opd} {a:List AV} (hx:opdO e x=some (.lit a)) (h:Is O is keep k Q ((d,.int .i64 a.length)::e) st):Is O (⟨some d,none,false,.len 1 x⟩::is) keep k Q e st :=
 is_of (st':=st) (by simp only [evalPI,evalPO,opdO_some hx,lenOf,oS]) h
theorem is_lenM {α:Type} {f:α→AV} {l:List α} {x:Opd} (hx:opdO e x=some (.lit (l.map f))) (h:Is O is keep k Q ((d,.int .i64 l.length)::e) st):Is O (⟨some d,none,false,.len 1 x⟩::is) keep k Q e st :=
 is_lenL hx (by rw [List.length_map];exact h)
theorem is_lenN {x:Opd} (hx:opdO e x=some .nils) (h:Is O is keep k Q ((d,.int .i64 0)::e) st):Is O (⟨some d,none,false,.len 1 x⟩::is) keep k Q e st :=
 is_of (st':=st) (by simp only [evalPI,evalPO,opdO_some hx,lenOf,oS];rfl) h
theorem is_lenR {x:Opd} {lv ix ver s n:Nat} (hx:opdO e x=some (.ref lv ix ver s n)) (h:Is O is keep k Q ((d,.int .i64 n)::e) st):Is O (⟨some d,none,false,.len 1 x⟩::is) keep k Q e st :=
 is_of (st':=st) (by simp only [evalPI,evalPO,opdO_some hx,lenOf,oS]) h
theorem is_fld {agg:Bool} {off n:Nat} {x:Opd} {cs:List AV} {v:AV} (hx:opdO e x=some (.agg cs)) (hv:cs[off]?=some v) (h:Is O is keep k Q ((d,v)::e) st):Is O (⟨some d,none,false,.fld false off n x⟩::is) keep k Q e st :=
 is_of (v:=v) (st':=st) (by simp only [evalPI,evalPO,opdO_some hx,fldV,partOf,AV.isAny,if_false,Bool.false_eq_true,AV.cells,hv,oS,ret1]) h
theorem is_build {z:List AV} {ps:List (Nat × Nat × Opd)} {qs:List (Nat × Nat × AV)} {cs vs:List AV} (hq:partsV e ps=qs) (hf:fillV z qs=some cs) (hv:forceL cs=some vs) (h:Is O is keep k Q ((d,.agg vs)::e) st):Is O (⟨some d,none,false,.build z ps⟩::is) keep k Q e st :=
 is_of (v:=.agg vs) (st':=st) (by simp only [evalPI,evalPO,hq,hf,forceL_some hv,oS]) h
theorem is_slcS {x:Opd} {lo hi:Option Opd} {s:List UInt8} {l r:Nat} (hx:opdO e x=some (.str s)) (hh:boundV s.length s.length (oget e hi)=some r) (hl:boundV r 0 (oget e lo)=some l) (h:Is O is keep k Q ((d,.str ((s.drop l).take (r-l)))::e) st):Is O (⟨some d,none,false,.slcS x lo hi⟩::is) keep k Q e st :=
 is_of (st':=st) (by simp only [evalPI,evalPO,opdO_some hx,slcSV,hh,hl,oS,ret1]) h
theorem is_slcS_hi {x y:Opd} {s:List UInt8} {n:Int} (hx:opdO e x=some (.str s)) (hy:opdO e y=some (.int .i64 n)) (hn:0≤n∧n≤s.length) (h:Is O is keep k Q ((d,.str (s.take n.toNat))::e) st):Is O (⟨some d,none,false,.slcS x none (some y)⟩::is) keep k Q e st:=by
 refine is_slcS (r:=n.toNat) (l:=0) hx ?_ rfl (by simpa using h)
 simp only [oget,opdO_some hy,boundV,if_pos hn]
theorem is_slcS_lo {x y:Opd} {s:List UInt8} {n:Int} (hx:opdO e x=some (.str s)) (hy:opdO e y=some (.int .i64 n)) (hn:0≤n∧n≤s.length) (h:Is O is keep k Q ((d,.str (s.drop n.toNat))::e) st):Is O (⟨some d,none,false,.slcS x (some y) none⟩::is) keep k Q e st:=by
 refine is_slcS (r:=s.length) (l:=n.toNat) hx rfl ?_ ?_
 ·simp only [oget,opdO_some hy,boundV,if_pos hn]
 ·rw [List.take_of_length_le (by simp)];exact h
theorem is_ixStr {x i:Opd} {s:List UInt8} {n:Int} {b:UInt8} (hx:opdO e x=some (.str s)) (hi:opdO e i=some (.int .i64 n)) (hn:0≤n∧n<s.length) (hb:s[n.toNat]?=some b) (h:Is O is keep k Q ((d,.int .u8 b.toNat)::e) st):Is O (⟨some d,none,false,.ixStr x i⟩::is) keep k Q e st :=
 is_of (st':=st) (by simp only [evalPI,evalPO,opdO_some hx,opdO_some hi,ixStrV,indexOf,if_pos hn,hb,oS,ret1]) h
theorem is_ixL {w:Nat} {x i:Opd} {es:List AV} {n:Int} {v:AV} (hx:opdO e x=some (.lit es)) (hi:opdO e i=some (.int .i64 n)) (hn:0≤n∧n<es.length) (hv:es[n.toNat]?=some v) (hw:v.wide=some w) (h:Is O is keep k Q ((d,.lptr v 0)::e) st):Is O (⟨some d,none,false,.ixS w x i⟩::is) keep k Q e st :=
 is_of (st':=st) (by simp only [evalPI,evalPO,opdO_some hx,opdO_some hi,ixSV,indexOf,if_pos hn,hv,if_pos hw,oS,ret1]) h
theorem is_ldl {n:Nat} {a:Opd} {x:AV} {o:Nat} {v:AV} {agg:Bool} (ha:opdO e a=some (.lptr x o)) (hv:partOf x agg o n=some v) (h:Is O is keep k Q ((d,v)::e) st):Is O (⟨some d,none,false,.ld agg n a⟩::is) keep k Q e st :=
 is_of (v:=v) (st':=st) (by simp only [evalPI,evalPO,opdO_some ha,loadP,hv,oS,ret1]) h
theorem is_fadr {off:Nat} {x:Opd} {a v:AV} (hx:opdO e x=some a) (hv:fadrV off a=some v) (h:Is O is keep k Q ((d,v)::e) st):Is O (⟨some d,none,false,.fadr off x⟩::is) keep k Q e st :=
 is_of (v:=v) (st':=st) (by simp only [evalPI,evalPO,opdO_some hx,hv,oS,ret1]) h
theorem is_ixA {len w:Nat} {x i:Opd} {a b v:AV} (hx:opdO e x=some a) (hi:opdO e i=some b) (hv:ixAV len w b a=some v) (h:Is O is keep k Q ((d,v)::e) st):Is O (⟨some d,none,false,.ixA len w x i⟩::is) keep k Q e st :=
 is_of (v:=v) (st':=st) (by simp only [evalPI,evalPO,opdO_some hx,opdO_some hi,hv,oS,ret1]) h
theorem is_slcL {w:Nat} {x:Opd} {lo hi:Option Opd} {es:List AV} {l r:Nat} (hx:opdO e x=some (.lit es)) (hh:boundV es.length es.length (oget e hi)=some r) (hl:boundV r 0 (oget e lo)=some l) (hw:sameW w es=true) (h:Is O is keep k Q ((d,.lit ((es.drop l).take (r-l)))::e) st):Is O (⟨some d,none,false,.slc w x lo hi⟩::is) keep k Q e st :=
 is_of (st':=st) (by simp only [evalPI,evalPO,opdO_some hx,slcV,hh,hl,if_pos hw,oS,ret1]) h
theorem is_slcL_hi {w:Nat} {x y:Opd} {es:List AV} {n:Int} (hx:opdO e x=some (.lit es)) (hy:opdO e y=some (.int .i64 n)) (hn:0≤n∧n≤es.length) (hw:sameW w es=true) (h:Is O is keep k Q ((d,.lit (es.take n.toNat))::e) st):Is O (⟨some d,none,false,.slc w x none (some y)⟩::is) keep k Q e st:=by
 refine is_slcL (r:=n.toNat) (l:=0) hx ?_ rfl hw (by simpa using h)
 simp only [oget,opdO_some hy,boundV,if_pos hn]
theorem is_slcL_lo {w:Nat} {x y:Opd} {es:List AV} {n:Int} (hx:opdO e x=some (.lit es)) (hy:opdO e y=some (.int .i64 n)) (hn:0≤n∧n≤es.length) (hw:sameW w es=true) (h:Is O is keep k Q ((d,.lit (es.drop n.toNat))::e) st):Is O (⟨some d,none,false,.slc w x (some y) none⟩::is) keep k Q e st:=by
 refine is_slcL (r:=es.length) (l:=n.toNat) hx rfl ?_ hw ?_
 ·simp only [oget,opdO_some hy,boundV,if_pos hn]
 ·rw [List.take_of_length_le (by simp)];exact h
theorem is_slcR_hi {w:Nat} {x y:Opd} {lv ix ver s m:Nat} {n:Int} (hx:opdO e x=some (.ref lv ix ver s m)) (hy:opdO e y=some (.int .i64 n)) (hn:0≤n∧n≤m) (hw:wIs w ver (st.get lv ix)=true) (h:Is O is keep k Q ((d,.ref lv ix ver s n.toNat)::e) st):Is O (⟨some d,none,false,.slc w x none (some y)⟩::is) keep k Q e st :=
 is_of (st':=st) (by simp only [evalPI,evalPO,opdO_some hx,slcV,oget,opdO_some hy,boundV,if_pos hn,if_pos hw,oS,ret1];simp) h
theorem is_slcR_lo {w:Nat} {x y:Opd} {lv ix ver s m:Nat} {n:Int} (hx:opdO e x=some (.ref lv ix ver s m)) (hy:opdO e y=some (.int .i64 n)) (hn:0≤n∧n≤m) (hw:wIs w ver (st.get lv ix)=true) (h:Is O is keep k Q ((d,.ref lv ix ver (s+n.toNat) (m-n.toNat))::e) st):Is O (⟨some d,none,false,.slc w x (some y) none⟩::is) keep k Q e st :=
 is_of (st':=st) (by simp only [evalPI,evalPO,opdO_some hx,slcV,oget,opdO_some hy,boundV,if_pos hn,if_pos hw,oS,ret1]) h
theorem is_bslF {w:Nat} {z:List AV} {ps:List (Nat × Opd)} {qs:List (Nat × AV)} {es:List AV} {r:AV × St} (hq:partsE e ps=qs) (hf:fillE w z qs=some es) (hb:bslK false w st es=some r) (h:Is O is keep k Q ((d,r.1)::e) r.2):Is O (⟨some d,none,false,.bslice false w z ps⟩::is) keep k Q e st :=
 is_of (v:=r.1) (st':=r.2) (by simp only [evalPI,evalPO,hq,hf,oS];exact hb) h
end
def forceV:AV→Option AV
 | .agg cs=>match forceL cs with
  | some r=>some (.agg r)
  | none=>none
 | v=>some v
theorem forceV_some {v r:AV} (h:forceV v=some r):v=r:=by
 unfold forceV at h
 split at h
 ·split at h
  ·rename_i q hq
   simp only [oJ] at h
   rw [← h,forceL_some hq]
  ·simp at h
 ·simpa using h
section
variable {O:Orc} {k:List Fr} {Q:Post} {e:Env} {A:List (Bool × List Blk)} {L L':List Blk} {keep:List Nat} {is:List PI} {d:Nat}
theorem is_box {x:Opd} {v:AV} {w:Nat} (hx:opdO e x=some v) (hw:v.wide=some w) (hL:forceB (L++[Blk.arr w 0 [v]])=some L') (h:Is O is keep k Q ((d,.ptr A.length L.length 0 0 0)::e) ⟨A,false,L'⟩):Is O (⟨some d,none,false,.box x⟩::is) keep k Q e ⟨A,false,L⟩:=by
 rw [← forceB_some hL] at h
 exact is_of (v:=.ptr A.length L.length 0 0 0) (st':=⟨A,false,L++[Blk.arr w 0 [v]]⟩) (by simp only [evalPI,evalPO,opdO_some hx,hw,oS,St.new_cur,newPtrK]) h
theorem is_boxnil {w:Nat} (hL:forceB (L++[Blk.arr w 0 []]++[Blk.arr 1 0 [.ref A.length L.length 0 0 0]])=some L') (h:Is O is keep k Q ((d,.ptr A.length (L.length+1) 0 0 0)::e) ⟨A,false,L'⟩):Is O (⟨some d,none,false,.boxnil w⟩::is) keep k Q e ⟨A,false,L⟩:=by
 rw [← forceB_some hL] at h
 refine is_of (v:=.ptr A.length (L.length+1) 0 0 0) (st':=⟨A,false,L++[Blk.arr w 0 []]++[Blk.arr 1 0 [.ref A.length L.length 0 0 0]]⟩) ?_ h
 simp only [evalPI,evalPO,oS,St.new_cur,newPtrK,boxNilK];simp
theorem is_onil {w:Nat} (hL:forceB (L++[Blk.arr w 0 []])=some L') (h:Is O is keep k Q ((d,.ref A.length L.length 0 0 0)::e) ⟨A,false,L'⟩):Is O (⟨some d,none,false,.onil w⟩::is) keep k Q e ⟨A,false,L⟩:=by
 rw [← forceB_some hL] at h
 exact is_of (v:=.ref A.length L.length 0 0 0) (st':=⟨A,false,L++[Blk.arr w 0 []]⟩) (by simp only [evalPI,evalPO,oS,St.new_cur,newRefK]) h
theorem is_mkslice {w bytes:Nat} {z:AV} {l c:Opd} {n:Int} (hl:opdO e l=some (.int .i64 n)) (hc:opdO e c=some (.int .i64 n)) (hn:0≤n∧n<4294967296) (hb:bytes≤4096) (hL:forceB (L++[Blk.arr w 0 (List.replicate n.toNat z)])=some L') (h:Is O is keep k Q ((d,.ref A.length L.length 0 0 n.toNat)::e) ⟨A,false,L'⟩):Is O (⟨some d,none,false,.mkslice w bytes z l c⟩::is) keep k Q e ⟨A,false,L⟩:=by
 rw [← forceB_some hL] at h
 exact is_of (v:=.ref A.length L.length 0 0 n.toNat) (st':=⟨A,false,L++[Blk.arr w 0 (List.replicate n.toNat z)]⟩) (by simp only [evalPI,evalPO,opdO_some hl,opdO_some hc,mkslV,if_pos (show 0≤n∧n≤n∧n<4294967296∧bytes≤4096 by omega),St.new_cur,oS,newRefK]) h
theorem is_bslT {w:Nat} {z:List AV} {ps:List (Nat × Opd)} {qs:List (Nat × AV)} {es es':List AV} (hq:partsE e ps=qs) (hf:fillE w z qs=some es) (he:forceL es=some es') (hL:forceB (L++[Blk.arr w 0 es'])=some L') (h:Is O is keep k Q ((d,.ref A.length L.length 0 0 es'.length)::e) ⟨A,false,L'⟩):Is O (⟨some d,none,false,.bslice true w z ps⟩::is) keep k Q e ⟨A,false,L⟩:=by
 rw [← forceB_some hL] at h
 rw [← forceL_some he] at h
 exact is_of (v:=.ref A.length L.length 0 0 es.length) (st':=⟨A,false,L++[Blk.arr w 0 es]⟩) (by simp only [evalPI,evalPO,hq,hf,oS,bslK,if_true,St.new_cur,newRefK]) h
theorem is_ld {st:St} {agg:Bool} {n:Nat} {a:Opd} {lv ix ver i o w:Nat} {es:List AV} {x v:AV} (ha:opdO e a=some (.ptr lv ix ver i o)) (hg:st.get lv ix=some (Blk.arr w ver es)) (hx:es[i]?=some x) (hv:partOf x agg o n=some v)
 (h:Is O is keep k Q ((d,v)::e) st):Is O (⟨some d,none,false,.ld agg n a⟩::is) keep k Q e st :=
 is_of (v:=v) (st':=st) (by simp only [evalPI,evalPO,opdO_some ha,loadP,hg,loadB,if_true,hx,hv,oS,ret1]) h
theorem is_ldc {agg:Bool} {n:Nat} {a:Opd} {ix ver i o w:Nat} {es:List AV} {x v:AV} (ha:opdO e a=some (.ptr A.length ix ver i o)) (hg:L[ix]?=some (Blk.arr w ver es)) (hx:es[i]?=some x) (hv:partOf x agg o n=some v)
 (h:Is O is keep k Q ((d,v)::e) ⟨A,false,L⟩):Is O (⟨some d,none,false,.ld agg n a⟩::is) keep k Q e ⟨A,false,L⟩ :=
 is_ld ha (by rw [St.get_cur,hg];rfl) hx hv h
theorem is_ixR {st:St} {w:Nat} {x i:Opd} {lv ix ver s m:Nat} {n:Int} (hx:opdO e x=some (.ref lv ix ver s m)) (hi:opdO e i=some (.int .i64 n)) (hn:0≤n∧n<m) (hw:wIs w ver (st.get lv ix)=true) (h:Is O is keep k Q ((d,.ptr lv ix ver (s+n.toNat) 0)::e) st):Is O (⟨some d,none,false,.ixS w x i⟩::is) keep k Q e st :=
 is_of (st':=st) (by simp only [evalPI,evalPO,opdO_some hx,opdO_some hi,ixSV,indexOf,if_pos hn,if_pos hw,oS,ret1]) h
theorem is_ixRc {w:Nat} {x i:Opd} {ix ver s m:Nat} {n:Int} {es:List AV} (hx:opdO e x=some (.ref A.length ix ver s m)) (hi:opdO e i=some (.int .i64 n)) (hn:0≤n∧n<m) (hg:L[ix]?=some (Blk.arr w ver es)) (h:Is O is keep k Q ((d,.ptr A.length ix ver (s+n.toNat) 0)::e) ⟨A,false,L⟩):Is O (⟨some d,none,false,.ixS w x i⟩::is) keep k Q e ⟨A,false,L⟩ :=
 is_ixR hx hi hn (by rw [St.get_cur,hg];simp [wIs,vis]) h
theorem is_stc {n:Nat} {a x:Opd} {ix ver i o w:Nat} {es:List AV} {v v' y:AV} (ha:opdO e a=some (.ptr A.length ix ver i o)) (hx:opdO e x=some v) (hg:L[ix]?=some (Blk.arr w ver es)) (hy:es[i]?=some y)
 (hs:sealV deep (A.length+1) ⟨A,false,L⟩ v=some (v,⟨A,false,L⟩)) (hv:(elemSet w y o n v).bind forceV=some v') (hL:forceB (L.set ix (Blk.arr w ver (es.set i v')))=some L') (h:Is O is keep k Q e ⟨A,false,L'⟩):Is O (⟨none,none,false,.st n a x⟩::is) keep k Q e ⟨A,false,L⟩:=by
 have hlt:ix<L.length:=by
  rw [List.getElem?_eq_some_iff] at hg;exact hg.1
 rw [← forceB_some hL] at h
 have hv':elemSet w y o n v=some v':=by
  simp only [oB] at hv
  obtain ⟨u,h1,h2⟩:=hv
  rw [h1,forceV_some h2]
 refine is_of (od:=none) (v:=.undef) (st':=⟨A,false,L.set ix (Blk.arr w ver (es.set i v'))⟩) ?_ h
 simp only [evalPI,evalPO,opdO_some ha,opdO_some hx,storeP,hs,oS,storeK,St.get_cur,hg,vis,storeB,if_true,hy,hv',St.put,if_false,Bool.false_eq_true,if_pos hlt,retU]
theorem is_stn {n:Nat} {a x:Opd} {ix ver i o w:Nat} {es:List AV} {v v' y:AV} (hg:L[ix]?=some (Blk.arr w ver es)) (ha:opdO e a=some (.ptr A.length ix ver i o)) (hx:opdO e x=some v) (hy:es[i]?=some y)
 (hs:sealV deep (A.length+1) ⟨A,false,L⟩ v=some (v,⟨A,false,L⟩)) (hv:(elemSet w y o n v).bind forceV=some v') (h:Is O is keep k Q e ⟨A,false,L.set ix (Blk.arr w ver (es.set i v'))⟩):Is O (⟨none,none,false,.st n a x⟩::is) keep k Q e ⟨A,false,L⟩:=by
 have hlt:ix<L.length:=by
  rw [List.getElem?_eq_some_iff] at hg;exact hg.1
 have hv':elemSet w y o n v=some v':=by
  simp only [oB] at hv
  obtain ⟨u,h1,h2⟩:=hv
  rw [h1,forceV_some h2]
 refine is_of (od:=none) (v:=.undef) (st':=⟨A,false,L.set ix (Blk.arr w ver (es.set i v'))⟩) ?_ h
 simp only [evalPI,evalPO,opdO_some ha,opdO_some hx,storeP,hs,oS,storeK,St.get_cur,hg,vis,storeB,if_true,hy,hv',St.put,if_false,Bool.false_eq_true,if_pos hlt,retU]
theorem is_stb {n:Nat} {a x:Opd} {ix ver o w:Nat} {v v' y:AV} (ha:opdO e a=some (.ptr A.length ix ver 0 o)) (hx:opdO e x=some v) (hg:L[ix]?=some (Blk.arr w ver [y]))
 (hs:sealV deep (A.length+1) ⟨A,false,L⟩ v=some (v,⟨A,false,L⟩)) (hv:(elemSet w y o n v).bind forceV=some v') (hL:forceB (L.set ix (Blk.arr w ver [v']))=some L') (h:Is O is keep k Q e ⟨A,false,L'⟩):Is O (⟨none,none,false,.st n a x⟩::is) keep k Q e ⟨A,false,L⟩ :=
 is_stc ha hx hg rfl hs hv hL h
theorem is_appc {w bytes:Nat} {s x:Opd} {ix ver n:Nat} {es ys:List AV} {vx:AV} (hs:opdO e s=some (.ref A.length ix ver 0 n)) (hx:opdO e x=some vx) (hg:L[ix]?=some (Blk.arr w ver es)) (hy:elems ⟨A,false,L⟩ vx=some ys) (hb:n=es.length)
 (hl:es.length+ys.length<4294967296) (hw:bytes≤4096) (hsm:sameW w ys=true) (hm:mapSt (sealV deep (A.length+1)) ⟨A,false,L⟩ ys=some (ys,⟨A,false,L⟩))
 (hL:forceB (L.set ix (Blk.arr w (ver+1) (es++ys)))=some L') (h:Is O is keep k Q ((d,.ref A.length ix (ver+1) 0 (n+ys.length))::e) ⟨A,false,L'⟩):Is O (⟨some d,none,false,.app w bytes s x⟩::is) keep k Q e ⟨A,false,L⟩:=by
 have hlt:ix<L.length:=by
  rw [List.getElem?_eq_some_iff] at hg;exact hg.1
 rw [← forceB_some hL] at h
 subst hb
 refine is_of (v:=.ref A.length ix (ver+1) 0 (es.length+ys.length)) (st':=⟨A,false,L.set ix (Blk.arr w (ver+1) (es++ys))⟩) ?_ h
 simp only [evalPI,evalPO,opdO_some hs,opdO_some hx,hy,oS,appendV,if_pos hsm,hm,appK,St.get_cur,hg,vis,appB,true_and,if_pos (show 0+es.length≤es.length∧es.length+ys.length<4294967296∧bytes≤4096 by omega),St.put,if_true,if_false,Bool.false_eq_true,if_pos hlt,List.drop_zero,List.take_length]
theorem is_app1 {w bytes:Nat} {s x:Opd} {ix ver n:Nat} {es:List AV} {y:AV} (hs:opdO e s=some (.ref A.length ix ver 0 n)) (hx:opdO e x=some (.lit [y])) (hg:L[ix]?=some (Blk.arr w ver es)) (hb:n=es.length)
 (hl:es.length+1<4294967296) (hw:bytes≤4096) (hsm:y.wide=some w) (hm:sealV deep (A.length+1) ⟨A,false,L⟩ y=some (y,⟨A,false,L⟩))
 (hL:forceB (L.set ix (Blk.arr w (ver+1) (es++[y])))=some L') (h:Is O is keep k Q ((d,.ref A.length ix (ver+1) 0 (n+1))::e) ⟨A,false,L'⟩):Is O (⟨some d,none,false,.app w bytes s x⟩::is) keep k Q e ⟨A,false,L⟩ :=
 is_appc (ys:=[y]) hs hx hg rfl hb hl hw (by simp [sameW,hsm]) (by simp only [mapSt,hm,oS,consK]) hL h
theorem is_call {T:Tab} {st:St} {f:Opd} {args:List Opd} {g:FuncId} {first cap vs ws:List AV} {P:AV→St→Prop} (hf:opdO e f=some (.func (.func g) first cap)) (ha:getsO e args=some vs) (hw:forceL (weaks (first++vs++cap))=some ws)
 (hc:Sp T g ws st P) (h:∀ v st',P v st'→Is (S T) is keep k Q ((d,v)::e) st'):Is (S T) (⟨some d,none,false,.call .norm f args⟩::is) keep k Q e st:=by
 obtain ⟨v,st',h1,h2⟩:=hc
 refine is_of (v:=v) (st':=st') ?_ (h v st' h2)
 simp only [evalPI,opdO_some hf,getsO_some ha,callV,forceL_some hw,callM,h1]
theorem is_callE {T:Tab} {st st':St} {f:Opd} {args:List Opd} {g:FuncId} {first cap vs ws:List AV} {v:AV} (hf:opdO e f=some (.func (.func g) first cap)) (ha:getsO e args=some vs) (hw:forceL (weaks (first++vs++cap))=some ws)
 (hc:S T g ws st=some (v,st')) (h:Is (S T) is keep k Q ((d,v)::e) st'):Is (S T) (⟨some d,none,false,.call .norm f args⟩::is) keep k Q e st:=by
 refine is_of (v:=v) (st':=st') ?_ h
 simp only [evalPI,opdO_some hf,getsO_some ha,callV,forceL_some hw,callM,hc]
theorem is_callP {T:Tab} {st:St} {f:Opd} {args:List Opd} {g:FuncId} {first cap vs ws:List AV} {v:AV} {st':St} (hf:opdO e f=some (.func (.func g) first cap)) (ha:getsO e args=some vs) (hw:forceL (weaks (first++vs++cap))=some ws)
 (hc:S T g ws st.allRo=some (v,st')) (h:Is (S T) is keep k Q ((d,v)::e) st):Is (S T) (⟨some d,none,false,.call .pure f args⟩::is) keep k Q e st:=by
 refine is_of (v:=v) (st':=st) ?_ h
 simp only [evalPI,opdO_some hf,getsO_some ha,callV,forceL_some hw,callM,hc,oS,pureK]
theorem s_keep {T:Tab} {f:FuncId} {body:PC} {res:List RV} {args:List AV} {st st2:St} {v:AV} (hT:T f=some (.pf ⟨true,body,res⟩))
 (h:Ru (S T) body [] (fun x e st'=>endK true res (x,e,st')=some (v,st2)) (initEnv 0 args) st):S T f args st=some (v,st2):=by
 obtain ⟨⟨x,e',st',h1,h2⟩⟩:=h
 refine S_of hT ?_
 simp only [callBody,if_true,h1,oS];exact h2
theorem sp_keep {T:Tab} {f:FuncId} {body:PC} {res:List RV} {args:List AV} {st:St} {P:AV→St→Prop} (hT:T f=some (.pf ⟨true,body,res⟩))
 (h:Ru (S T) body [] (fun x e st'=>∃ v st'',endK true res (x,e,st')=some (v,st'')∧P v st'') (initEnv 0 args) st):Sp T f args st P:=by
 obtain ⟨⟨x,e',st',h1,v,st'',h2,h3⟩⟩:=h
 refine ⟨v,st'',S_of hT ?_,h3⟩
 simp only [callBody,if_true,h1,oS];exact h2
theorem sp_of {T:Tab} {f:FuncId} {body:PC} {res:List RV} {args:List AV} {st:St} {P:AV→St→Prop} (hT:T f=some (.pf ⟨false,body,res⟩))
 (h:Ru (S T) body [] (fun x e st'=>∃ v st'',endK false res (x,e,st')=some (v,st'')∧P v st'') (initEnv 0 args) ⟨st.A++[(st.ro,st.L)],false,[]⟩):Sp T f args st P:=by
 obtain ⟨⟨x,e',st',h1,v,st'',h2,h3⟩⟩:=h
 refine ⟨v,st'',S_of hT ?_,h3⟩
 simp only [callBody,Bool.false_eq_true,if_false,St.push,h1,oS];exact h2
theorem s_of {T:Tab} {f:FuncId} {body:PC} {res:List RV} {args:List AV} {st:St} {v:AV} (hT:T f=some (.pf ⟨false,body,res⟩))
 (h:∀ A,A=st.A++[(st.ro,st.L)]→Ru (S T) body [] (fun x e st'=>endK false res (x,e,st')=some (v,st)) (initEnv 0 args) ⟨A,false,[]⟩):S T f args st=some (v,st):=by
 obtain ⟨⟨x,e',st',h1,h2⟩⟩:=h _ rfl
 refine S_of hT ?_
 simp only [callBody,Bool.false_eq_true,if_false,St.push,h1,oS];exact h2
theorem end_of {st:St} {r:Bool × List Blk} {A0:List (Bool × List Blk)} {L:List Blk} {res:List RV} {x:Ex} {v v':AV} {ro:Bool} {L':List Blk} (hA:A=A0++[r]) (hx:x=.norm∨x=.ret) (hr:result ⟨A,false,L⟩ e res=some v)
 (hs:sealV deep A.length ⟨A,false,L⟩ v=some (v',⟨A,ro,L'⟩)) (hst:st=⟨A0,r.1,r.2⟩):endK false res (x,e,⟨A,false,L⟩)=some (v',st):=by
 have:sealK ⟨A,false,L⟩ v=some (v',st):=by
  unfold sealK
  rw [show (⟨A,false,L⟩:St).A.length=A.length from rfl,hs]
  simp only [oS,leaveK]
  rw [hA,pop_append,hst];rfl
 rcases hx with rfl|rfl<;>simp only [endK,hr,oS,Bool.false_eq_true,if_false,this]
end
theorem get_old {st:St} {A:List (Bool × List Blk)} {ro:Bool} {L:List Blk} (hA:A=st.A++[(st.ro,st.L)]) {lv ix:Nat} {b:Blk} (h:st.get lv ix=some b):St.get ⟨A,ro,L⟩ lv ix=some b:=by
 have:=St.get_le h
 rw [hA,St.get_push,if_neg (by omega)];exact h
theorem is_ixM {O:Orc} {k:List Fr} {Q:Post} {e:Env} {st:St} {keep:List Nat} {is:List PI} {d:Nat} {α:Type} {f:α→AV} {l:List α} {w:Nat} {x i:Opd} {n:Int} (hx:opdO e x=some (.lit (l.map f))) (hi:opdO e i=some (.int .i64 n)) (hn:0≤n∧n<l.length) (hw:∀ a,(f a).wide=some w)
 (h:∀ a,l[n.toNat]?=some a→Is O is keep k Q ((d,.lptr (f a) 0)::e) st):Is O (⟨some d,none,false,.ixS w x i⟩::is) keep k Q e st:=by
 have hlt:n.toNat<l.length:=by omega
 refine is_ixL hx hi (by simpa using hn) (v:=f l[n.toNat]) (by simp [hlt]) (hw _) (h _ ?_)
 simp [hlt]
theorem is_callB {T:Tab} {k:List Fr} {Q:Post} {e:Env} {keep:List Nat} {is:List PI} {d:Nat} {st st':St} {f:Opd} {args:List Opd} {g:FuncId} {first cap vs ws:List AV} {p:Prop} [Decidable p] (hf:opdO e f=some (.func (.func g) first cap)) (ha:getsO e args=some vs) (hw:forceL (weaks (first++vs++cap))=some ws)
 (hc:S T g ws st=some (.bool (decide p),st')) (hT:p→Is (S T) is keep k Q ((d,.bool true)::e) st') (hF:¬ p→Is (S T) is keep k Q ((d,.bool false)::e) st'):Is (S T) (⟨some d,none,false,.call .norm f args⟩::is) keep k Q e st:=by
 by_cases q:p
 ·rw [decide_eq_true q] at hc;exact is_callE hf ha hw hc (hT q)
 ·rw [decide_eq_false q] at hc;exact is_callE hf ha hw hc (hF q)
def resLO (st:St) (e:Env):List RV→Option (List AV)
 | []=>some []
 | .s t::rs=>match lookO e t with
  | some v=>match resLO st e rs with
   | some r=>some (v::r)
   | none=>none
  | none=>none
 | .c t agg n::rs=>match lookO e t with
  | some a=>match loadP st agg n a with
   | some v=>match resLO st e rs with
    | some r=>some (v::r)
    | none=>none
   | none=>none
  | none=>none
theorem resLO_some {st:St} {e:Env}:∀ {rs:List RV} {vs:List AV},resLO st e rs=some vs→resL st e rs=some vs
 | [],vs,h=>h
 | .s t::rs,vs,h=>by
  simp only [resLO] at h
  split at h
  ·rename_i v hv
   split at h
   ·rename_i r hr
    simp only [oJ] at h
    simp only [resL,resV,oS,resLO_some hr,Option.map_some,lookO_some hv,h]
   ·simp at h
  ·simp at h
 | .c t agg n::rs,vs,h=>by
  simp only [resLO] at h
  split at h
  ·rename_i a ha
   split at h
   ·rename_i v hv
    split at h
    ·rename_i r hr
     simp only [oJ] at h
     simp only [resL,resV,lookO_some ha,hv,oS,resLO_some hr,Option.map_some,h]
    ·simp at h
   ·simp at h
  ·simp at h
def tupO:List AV→Option AV
 | [v]=>some v
 | vs=>some (.tup vs)
theorem tupO_some {vs:List AV} {v:AV} (h:tupO vs=some v):tupOf vs=v:=by
 unfold tupO at h
 split at h
 ·simpa [tupOf] using h
 ·rename_i hn
  simp only [oJ] at h
  subst h
  unfold tupOf
  split
  ·rename_i u
   exact absurd rfl (hn u)
  ·rfl
def forceW:AV→Option AV
 | .agg cs=>match forceL cs with
  | some r=>some (.agg r)
  | none=>none
 | .tup cs=>match forceL cs with
  | some r=>some (.tup r)
  | none=>none
 | v=>some v
theorem forceW_some {v r:AV} (h:forceW v=some r):v=r:=by
 unfold forceW at h
 split at h
 ·split at h
  ·rename_i q hq
   simp only [oJ] at h
   rw [← h,forceL_some hq]
  ·simp at h
 ·split at h
  ·rename_i q hq
   simp only [oJ] at h
   rw [← h,forceL_some hq]
  ·simp at h
 ·simpa using h
theorem end_st {e:Env} {A:List (Bool × List Blk)} {st:St} {L:List Blk} {res:List RV} {x:Ex} {vs:List AV} {v v' w u:AV} {L':List Blk} {ro:Bool} (hA:A=st.A++[(st.ro,st.L)]) (hx:x=.norm∨x=.ret) (hr:resLO ⟨A,false,L⟩ e res=some vs) (ht:tupO vs=some v)
 (hs:sealV deep A.length ⟨A,false,L⟩ v=some (v',⟨A,ro,L'⟩)) (hw:forceW v'=some w) (hu:w=u):endK false res (x,e,⟨A,false,L⟩)=some (u,st):=by
 subst hu
 rw [← forceW_some hw]
 refine end_of hA hx ?_ hs rfl
 simp only [result,resLO_some hr,Option.map_some,tupO_some ht]
theorem end_keep {e:Env} {st:St} {res:List RV} {x:Ex} {vs:List AV} {v w u:AV} (hx:x=.norm∨x=.ret) (hr:resLO st e res=some vs) (ht:tupO vs=some v) (hw:forceW v=some w) (hu:w=u):endK true res (x,e,st)=some (u,st):=by
 subst hu
 rw [← forceW_some hw]
 have:result st e res=some v:=by simp only [result,resLO_some hr,Option.map_some,tupO_some ht]
 rcases hx with rfl|rfl<;>simp only [endK,this,oS,if_true,ret1]
theorem seal_ref {A:List (Bool × List Blk)} {L:List Blk} {m ix w ver n:Nat} {es:List AV} (hg:L[ix]?=some (.arr w ver es)) (hn:n=es.length) (he:∀ v,v∈es→imm m v=true) :
 sealV (m+1) A.length ⟨A,false,L⟩ (.ref A.length ix ver 0 n)=some (.lit es,⟨A,false,L.set ix .dead⟩):=by
 subst hn
 simp only [sealV,Nat.lt_irrefl,if_false,and_self,if_true,hg,refB,Nat.zero_add,Nat.le_refl,List.drop_zero,List.take_length,oS,mapSt_id (fun u hu=>seal_imm (he u hu)),litK]
theorem seal_tup1 {m b:Nat} {st st1:St} {x x':AV} {ys:List AV} (hx:sealV m b st x=some (x',st1)) (hy:∀ y,y∈ys→imm m y=true):sealV (m+1) b st (.tup (x::ys))=some (.tup (x'::ys),st1):=by
 simp only [sealV,mapSt,hx,oS,mapSt_id (fun u hu=>seal_imm (hy u hu)),consK,tupK]
theorem end_ref {e:Env} {A:List (Bool × List Blk)} {st:St} {L:List Blk} {res:List RV} {x:Ex} {ix w ver n:Nat} {es:List AV} {u:AV} (hA:A=st.A++[(st.ro,st.L)]) (hx:x=.norm∨x=.ret) (hr:resLO ⟨A,false,L⟩ e res=some [.ref A.length ix ver 0 n])
 (hg:L[ix]?=some (.arr w ver es)) (hn:n=es.length) (he:∀ v,v∈es→imm 5 v=true) (hu:.lit es=u):endK false res (x,e,⟨A,false,L⟩)=some (u,st) :=
 end_st hA hx hr rfl (seal_ref hg hn he) rfl hu
theorem end_ref1 {e:Env} {A:List (Bool × List Blk)} {st:St} {L:List Blk} {res:List RV} {x:Ex} {ix w ver n:Nat} {es:List AV} {y u:AV} (hA:A=st.A++[(st.ro,st.L)]) (hx:x=.norm∨x=.ret) (hr:resLO ⟨A,false,L⟩ e res=some [.ref A.length ix ver 0 n,y])
 (hg:L[ix]?=some (.arr w ver es)) (hn:n=es.length) (he:∀ v,v∈es→imm 4 v=true) (hy:imm 5 y=true) (hu:.tup [.lit es,y]=u):endK false res (x,e,⟨A,false,L⟩)=some (u,st) :=
 end_st hA hx hr rfl (seal_tup1 (seal_ref hg hn he) (by intro z hz;simp only [List.mem_singleton] at hz;rw [hz];exact hy)) rfl hu
theorem end_ofB {e:Env} {A:List (Bool × List Blk)} {st:St} {r:Bool × List Blk} {A0:List (Bool × List Blk)} {L:List Blk} {res:List RV} {x:Ex} {p:Prop} [Decidable p] {b:Bool} (hA:A=A0++[r]) (hx:x=.norm∨x=.ret) (hr:result ⟨A,false,L⟩ e res=some (.bool b))
 (hst:st=⟨A0,r.1,r.2⟩) (hb:b=decide p):endK false res (x,e,⟨A,false,L⟩)=some (.bool (decide p),st):=by
 subst hb
 exact end_of hA hx hr rfl hst
end Go.QAbs
namespace Go.QAbs
def resLG (L:List Blk) (e:Env):List RV→Option (List AV × List Nat)
 | []=>some ([],[])
 | .s t::rs=>match lookO e t with
  | some v=>match resLG L e rs with
   | some r=>some (v::r.1,r.2)
   | none=>none
  | none=>none
 | .c t agg n::rs=>match lookO e t with
  | some (.ptr lv ix ver i o)=>match loadB agg n ver i o (vis L[ix]?) with
   | some v=>match resLG L e rs with
    | some r=>some (v::r.1,lv::r.2)
    | none=>none
   | none=>none
  | _=>none
theorem resLG_some {A:List (Bool × List Blk)} {ro:Bool} {L:List Blk} {e:Env}:∀ {rs:List RV} {r:List AV × List Nat},resLG L e rs=some r→(∀ l∈r.2,l=A.length)→resL ⟨A,ro,L⟩ e rs=some r.1
 | [],r,h,_=>by simp only [resLG,oJ] at h;subst h;rfl
 | .s t::rs,r,h,hl=>by
  simp only [resLG] at h
  split at h
  ·rename_i v hv
   split at h
   ·rename_i q hq
    simp only [oJ] at h
    subst h
    have:=resLG_some (A:=A) (ro:=ro) hq hl
    simp only [resL,resV,oS,this,Option.map_some,lookO_some hv]
   ·simp at h
  ·simp at h
 | .c t agg n::rs,r,h,hl=>by
  simp only [resLG] at h
  split at h
  ·rename_i lv ix ver i o hv
   split at h
   ·rename_i v hb
    split at h
    ·rename_i q hq
     simp only [oJ] at h
     subst h
     have h1:lv=A.length:=hl lv (by simp)
     have:=resLG_some (A:=A) (ro:=ro) hq (fun l hm=>hl l (by simp [hm]))
     subst h1
     simp only [resL,resV,lookO_some hv,loadP,St.get_cur,hb,oS,this,Option.map_some]
    ·simp at h
   ·simp at h
  ·simp at h
theorem all_rep {k a:Nat} {l:List Nat} (h:l=List.replicate k a):∀ x∈l,x=a:=by
 intro x hx;rw [h] at hx;exact List.eq_of_mem_replicate hx
theorem end_c {e:Env} {A:List (Bool × List Blk)} {st:St} {L:List Blk} {res:List RV} {x:Ex} {r:List AV × List Nat} {v v' w u:AV} {L':List Blk} {ro:Bool} (hA:A=st.A++[(st.ro,st.L)]) (hx:x=.norm∨x=.ret) (hr:resLG L e res=some r) (hl:r.2=List.replicate r.2.length A.length) (ht:tupO r.1=some v)
 (hs:sealV deep A.length ⟨A,false,L⟩ v=some (v',⟨A,ro,L'⟩)) (hw:forceW v'=some w) (hu:w=u):endK false res (x,e,⟨A,false,L⟩)=some (u,st):=by
 subst hu
 rw [← forceW_some hw]
 refine end_of hA hx ?_ hs rfl
 simp only [result,resLG_some hr (all_rep hl),Option.map_some,tupO_some ht]
theorem end_kc {e:Env} {A:List (Bool × List Blk)} {L:List Blk} {res:List RV} {x:Ex} {r:List AV × List Nat} {v w u:AV} (hx:x=.norm∨x=.ret) (hr:resLG L e res=some r) (hl:r.2=List.replicate r.2.length A.length) (ht:tupO r.1=some v) (hw:forceW v=some w) (hu:w=u):endK true res (x,e,⟨A,false,L⟩)=some (u,⟨A,false,L⟩):=by
 subst hu
 rw [← forceW_some hw]
 have:result ⟨A,false,L⟩ e res=some v:=by simp only [result,resLG_some hr (all_rep hl),Option.map_some,tupO_some ht]
 rcases hx with rfl|rfl<;>simp only [endK,this,oS,if_true,ret1]
def updR (r:Bool × List Blk) (ix:Nat) (b:Blk):Bool × List Blk:=(r.1,r.2.set ix b)
def St.upd (st:St) (lv ix:Nat) (b:Blk):St :=
 if lv=st.A.length then ⟨st.A,st.ro,st.L.set ix b⟩ else ⟨st.A.set lv (updR (st.A[lv]?.getD (false,[])) ix b),st.ro,st.L⟩
def St.wr (st:St) (lv:Nat):Prop:=if lv=st.A.length then st.ro=false else ∃ r,st.A[lv]?=some (false,r)
theorem vis_lt {L:List Blk} {ix:Nat} {c:Blk} (h:vis L[ix]?=some c):ix<L.length:=by
 rcases Nat.lt_or_ge ix L.length with q|q
 ·exact q
 ·rw [List.getElem?_eq_none q] at h;simp [vis] at h
theorem St.put_upd {st:St} {lv ix:Nat} {b c:Blk} (hw:st.wr lv) (hg:st.get lv ix=some c):st.put lv ix b=some (st.upd lv ix b):=by
 unfold St.wr at hw
 unfold St.put St.upd
 by_cases h:lv=st.A.length
 ·rw [if_pos h] at hw ⊢
  rw [if_pos h]
  rw [St.get,if_pos h] at hg
  have hlt:=vis_lt hg
  rw [if_neg (by rw [hw];simp),if_pos hlt,hw]
 ·rw [if_neg h] at hw ⊢
  rw [if_neg h]
  obtain ⟨r,hr⟩:=hw
  rw [St.get,if_neg h,hr] at hg
  simp only [oS] at hg
  have hlt:=vis_lt hg
  rw [hr]
  simp only [putOld,if_pos hlt,Option.getD_some,updR]
theorem St.get_upd {st:St} {lv ix lv' ix':Nat} {b c:Blk} (hg:st.get lv ix=some c) (hb:vis (some b)=some b):(st.upd lv ix b).get lv' ix'=if lv'=lv∧ix'=ix then some b else st.get lv' ix':=by
 unfold St.upd
 by_cases h:lv=st.A.length
 ·rw [if_pos h]
  rw [St.get,if_pos h] at hg
  have hlt:=vis_lt hg
  by_cases h':lv'=st.A.length
  ·simp only [St.get,if_pos h']
   rw [List.getElem?_set]
   by_cases hi:ix=ix'
   ·subst hi;rw [if_pos rfl,if_pos hlt,if_pos ⟨h'.trans h.symm,rfl⟩];exact hb
   ·rw [if_neg hi,if_neg (fun q=>hi q.2.symm)]
  ·simp only [St.get,if_neg h']
   rw [if_neg (fun q=>h' (q.1.trans h))]
 ·rw [if_neg h]
  rw [St.get,if_neg h] at hg
  by_cases h':lv'=st.A.length
  ·simp only [St.get,List.length_set,if_pos h']
   rw [if_neg (fun q=>h (q.1.symm.trans h'))]
  ·simp only [St.get,List.length_set,if_neg h',List.getElem?_set]
   cases hr:st.A[lv]? with
   | none=>rw [hr] at hg;simp at hg
   | some r =>
    have hll:=(List.getElem?_eq_some_iff.1 hr).1
    rw [hr] at hg
    simp only [oS] at hg
    have hlt:=vis_lt hg
    by_cases hl:lv=lv'
    ·subst hl
     simp only [if_true,if_pos hll,Option.getD_some,oS,updR,List.getElem?_set,true_and,hr]
     by_cases hi:ix=ix'
     ·subst hi;simp [hlt,hb]
     ·simp only [if_neg hi,if_neg (show ¬ (ix'=ix) from fun q=>hi q.symm)]
    ·rw [if_neg (show ¬ (lv'=lv∧ix'=ix) from fun q=>hl q.1.symm),if_neg hl]
theorem St.upd_A {st:St} {lv ix:Nat} {b:Blk}:(st.upd lv ix b).A.length=st.A.length:=by
 unfold St.upd;split<;>simp
theorem St.wr_upd {st:St} {lv ix lv':Nat} {b:Blk} (hw:st.wr lv) (h:st.wr lv'):(st.upd lv ix b).wr lv':=by
 unfold St.wr at *
 rw [St.upd_A]
 unfold St.upd
 by_cases h1:lv=st.A.length
 ·simp only [if_pos h1];exact h
 ·simp only [if_neg h1]
  by_cases h':lv'=st.A.length
  ·simp only [if_pos h'] at h ⊢;exact h
  ·rw [if_neg h'] at h ⊢
   rw [if_neg h1] at hw
   obtain ⟨r,hr⟩:=h
   obtain ⟨r2,hr2⟩:=hw
   rw [List.getElem?_set]
   by_cases hl:lv=lv'
   ·subst hl
    rw [if_pos rfl,if_pos (List.getElem?_eq_some_iff.1 hr).1,hr]
    exact ⟨_,rfl⟩
   ·rw [if_neg hl];exact ⟨r,hr⟩
theorem upd_push {st:St} {A:List (Bool × List Blk)} {ro:Bool} {L:List Blk} (hA:A=st.A++[(st.ro,st.L)]) {lv ix:Nat} {b:Blk} (hl:lv≤st.A.length) :
 St.upd ⟨A,ro,L⟩ lv ix b=⟨(st.upd lv ix b).A++[((st.upd lv ix b).ro,(st.upd lv ix b).L)],ro,L⟩:=by
 subst hA
 unfold St.upd
 simp only [lL,List.length_singleton]
 rw [if_neg (by omega)]
 by_cases h:lv=st.A.length
 ·rw [if_pos h]
  subst h
  simp only [St.mk.injEq,and_true]
  rw [List.getElem?_append_right (Nat.le_refl _)]
  simp [updR]
 ·rw [if_neg h]
  simp only [St.mk.injEq,and_true]
  rw [List.getElem?_append_left (by omega),List.set_append_left _ _ (by omega)]
theorem wr_push {st:St} {A:List (Bool × List Blk)} {ro:Bool} {L:List Blk} (hA:A=st.A++[(st.ro,st.L)]) {lv:Nat} (hl:lv≤st.A.length) (h:st.wr lv):St.wr ⟨A,ro,L⟩ lv:=by
 subst hA
 unfold St.wr at *
 simp only [lL,List.length_singleton]
 rw [if_neg (by omega)]
 by_cases q:lv=st.A.length
 ·rw [if_pos q] at h
  subst q
  exact ⟨st.L,by simp [h]⟩
 ·rw [if_neg q] at h
  obtain ⟨r,hr⟩:=h
  exact ⟨r,by rw [List.getElem?_append_left (by omega)];exact hr⟩
def fcList (f:AV→Option AV):List AV→Option (List AV)
 | []=>some []
 | v::vs=>match f v with
  | some u=>match fcList f vs with
   | some r=>some (u::r)
   | none=>none
  | none=>none
def fcV:Nat→AV→Option AV
 | 0,v=>some v
 | n+1,v=>match v with
  | .agg cs=>match fcList (fcV n) cs with
   | some r=>some (.agg r)
   | none=>none
  | .tup cs=>match fcList (fcV n) cs with
   | some r=>some (.tup r)
   | none=>none
  | .lit cs=>match fcList (fcV n) cs with
   | some r=>some (.lit r)
   | none=>none
  | v=>some v
theorem fcList_some {f:AV→Option AV} (hf:∀ v r,f v=some r→v=r):∀ {l r:List AV},fcList f l=some r→l=r
 | [],r,h=>by simpa [fcList] using h
 | v::vs,r,h=>by
  simp only [fcList] at h
  split at h
  ·rename_i u hu
   split at h
   ·rename_i q hq
    simp only [oJ] at h
    rw [← h,← hf v u hu,fcList_some hf hq]
   ·simp at h
  ·simp at h
theorem fcV_some:∀ {n:Nat} {v r:AV},fcV n v=some r→v=r
 | 0,v,r,h=>by simpa [fcV] using h
 | n+1,v,r,h=>by
  cases v<;>simp only [fcV] at h
  case agg cs =>
   split at h
   ·rename_i q hq
    simp only [oJ] at h
    rw [← h,fcList_some (fun v r h=>fcV_some h) hq]
   ·simp at h
  case tup cs =>
   split at h
   ·rename_i q hq
    simp only [oJ] at h
    rw [← h,fcList_some (fun v r h=>fcV_some h) hq]
   ·simp at h
  case lit cs =>
   split at h
   ·rename_i q hq
    simp only [oJ] at h
    rw [← h,fcList_some (fun v r h=>fcV_some h) hq]
   ·simp at h
  all_goals simpa using h
def partsVO (e:Env):List (Nat × Nat × Opd)→Option (List (Nat × Nat × AV))
 | []=>some []
 | (a,b,o)::ps=>match opdO e o with
  | some v=>match partsVO e ps with
   | some r=>some ((a,b,v)::r)
   | none=>none
  | none=>none
def partsEO (e:Env):List (Nat × Opd)→Option (List (Nat × AV))
 | []=>some []
 | (a,o)::ps=>match opdO e o with
  | some v=>match partsEO e ps with
   | some r=>some ((a,v)::r)
   | none=>none
  | none=>none
theorem partsVO_some {e:Env}:∀ {ps:List (Nat × Nat × Opd)} {r:List (Nat × Nat × AV)},partsVO e ps=some r→partsV e ps=r
 | [],r,h=>by simp only [partsVO,oJ] at h;rw [← h];rfl
 | (a,b,o)::ps,r,h=>by
  simp only [partsVO] at h
  split at h
  ·rename_i v hv
   split at h
   ·rename_i q hq
    simp only [oJ] at h
    rw [← h,partsV,opdO_some hv,partsVO_some hq]
   ·simp at h
  ·simp at h
theorem partsEO_some {e:Env}:∀ {ps:List (Nat × Opd)} {r:List (Nat × AV)},partsEO e ps=some r→partsE e ps=r
 | [],r,h=>by simp only [partsEO,oJ] at h;rw [← h];rfl
 | (a,o)::ps,r,h=>by
  simp only [partsEO] at h
  split at h
  ·rename_i v hv
   split at h
   ·rename_i q hq
    simp only [oJ] at h
    rw [← h,partsE,opdO_some hv,partsEO_some hq]
   ·simp at h
  ·simp at h
theorem mapSt_app {f:St→AV→Option (AV × St)} {st st1 st2:St}:∀ {xs ys xs' ys':List AV},mapSt f st xs=some (xs',st1)→mapSt f st1 ys=some (ys',st2)→mapSt f st (xs++ys)=some (xs'++ys',st2)
 | [],ys,xs',ys',h1,h2=>by
  simp only [mapSt,oJ,Prod.mk.injEq] at h1
  obtain ⟨rfl,rfl⟩:=h1
  exact h2
 | x::xs,ys,xs',ys',h1,h2=>by
  simp only [mapSt,oB] at h1
  obtain ⟨⟨v,s1⟩,h3,⟨vs,s2⟩,h4,h5⟩:=h1
  simp only [consK,oJ,Prod.mk.injEq] at h5
  obtain ⟨rfl,rfl⟩:=h5
  simp only [lC,mapSt,h3,oS,mapSt_app h4 h2,consK]
theorem seal_refL {b lv ix ver s n:Nat} (st:St) (h:lv<b):sealV deep b st (.ref lv ix ver s n)=some (.ref lv ix ver s n,st):=by
 simp only [sealV,deep,if_pos h]
theorem seal_refO {n:Nat} {A:List (Bool × List Blk)} {L:List Blk} {ix ver w s m:Nat} {es es':List AV} (hg:L[ix]?=some (.arr w ver es)) (hm:s+m≤es.length) (he:mapSt (sealV n 0) ⟨A,false,L.set ix .dead⟩ ((es.drop s).take m)=some (es',⟨A,false,L.set ix .dead⟩)) :
 sealV (n+1) A.length ⟨A,false,L⟩ (.ref A.length ix ver s m)=some (.lit es',⟨A,false,L.set ix .dead⟩):=by
 simp only [sealV,Nat.lt_irrefl,if_false,and_self,if_true,hg,refB,true_and,if_pos hm,oS,he,litK]
section
variable {O:Orc} {k:List Fr} {Q:Post} {e:Env} {A:List (Bool × List Blk)} {L L':List Blk} {keep:List Nat} {is:List PI} {d:Nat}
theorem is_stU {st:St} {n:Nat} {a x:Opd} {lv ix ver i o w:Nat} {es:List AV} {v v' y:AV} (ha:opdO e a=some (.ptr lv ix ver i o)) (hx:opdO e x=some v) (hw:st.wr lv) (hg:st.get lv ix=some (Blk.arr w ver es)) (hy:es[i]?=some y)
 (hs:sealV deep (lv+1) st v=some (v,st)) (hv:(elemSet w y o n v).bind forceV=some v') (h:Is O is keep k Q e (st.upd lv ix (Blk.arr w ver (es.set i v')))):Is O (⟨none,none,false,.st n a x⟩::is) keep k Q e st:=by
 have hv':elemSet w y o n v=some v':=by
  simp only [oB] at hv
  obtain ⟨u,h1,h2⟩:=hv
  rw [h1,forceV_some h2]
 refine is_of (od:=none) (v:=.undef) (st':=st.upd lv ix (Blk.arr w ver (es.set i v'))) ?_ h
 simp only [evalPI,evalPO,opdO_some ha,opdO_some hx,storeP,hs,oS,storeK,hg,storeB,if_true,hy,hv',St.put_upd hw hg,retU]
theorem is_stP {st:St} {n:Nat} {a x:Opd} {lv ix ver i o w:Nat} {es:List AV} {v v' y:AV} (hA:A=st.A++[(st.ro,st.L)]) (ha:opdO e a=some (.ptr lv ix ver i o)) (hx:opdO e x=some v) (hw:st.wr lv) (hg:st.get lv ix=some (Blk.arr w ver es)) (hy:es[i]?=some y)
 (hs:sealV deep (lv+1) ⟨A,false,L⟩ v=some (v,⟨A,false,L⟩)) (hv:(elemSet w y o n v).bind forceV=some v')
 (h:∀ A',A'=(st.upd lv ix (Blk.arr w ver (es.set i v'))).A++[((st.upd lv ix (Blk.arr w ver (es.set i v'))).ro,(st.upd lv ix (Blk.arr w ver (es.set i v'))).L)]→Is O is keep k Q e ⟨A',false,L⟩):Is O (⟨none,none,false,.st n a x⟩::is) keep k Q e ⟨A,false,L⟩:=by
 have hl:=St.get_le hg
 refine is_stU ha hx (wr_push hA hl hw) (get_old hA hg) hy hs hv ?_
 rw [upd_push hA hl]
 exact h _ rfl
theorem is_ixArr {st:St} {agg:Bool} {len w:Nat} {x i:Opd} {a b v:AV} (hx:opdO e x=some a) (hi:opdO e i=some b) (hv:ixArrV agg len w b a=some v) (h:Is O is keep k Q ((d,v)::e) st):Is O (⟨some d,none,false,.ixArr agg len w x i⟩::is) keep k Q e st :=
 is_of (v:=v) (st':=st) (by simp only [evalPI,evalPO,opdO_some hx,opdO_some hi,hv,oS,ret1]) h
theorem is_look {st:St} {kk:Nat} {z:AV} {ok:Bool} {x i:Opd} {a b v:AV} (hx:opdO e x=some a) (hi:opdO e i=some b) (hv:lookV st kk z ok b a=some v) (h:Is O is keep k Q ((d,v)::e) st):Is O (⟨some d,none,false,.look kk z ok x i⟩::is) keep k Q e st :=
 is_of (v:=v) (st':=st) (by simp only [evalPI,evalPO,opdO_some hx,opdO_some hi,hv,oS,ret1]) h
theorem ru_unroll {st:St} {b:PC} (h:Ru O b (.seq (.loop b)::k) Q e st):Ru O (.loop b) k Q e st:=by
 obtain ⟨⟨x,e',st',h1,h2⟩⟩:=h
 cases x with
 | norm =>
  obtain ⟨x,e2,st2,h3,h4⟩:=h2
  exact ⟨⟨x,e2,st2,by rw [exec_loop,itS_step,h1,oS,seqK_norm];exact h3,h4⟩⟩
 | ex id=>exact ⟨⟨.ex id,e',st',by rw [exec_loop,itS_step,h1];rfl,h2⟩⟩
 | ret=>exact ⟨⟨.ret,e',st',by rw [exec_loop,itS_step,h1];rfl,h2⟩⟩
def lenO {α:Type}:List α→Option Nat
 | []=>some 0
 | _::l=>match lenO l with
  | some n=>some (n+1)
  | none=>none
theorem lenO_some {α:Type}:∀ {l:List α} {n:Nat},lenO l=some n→l.length=n
 | [],n,h=>by simp only [lenO,oJ] at h;subst h;rfl
 | a::l,n,h=>by
  simp only [lenO] at h
  split at h
  ·rename_i m hm
   simp only [oJ] at h
   subst h
   rw [List.length_cons,lenO_some hm]
  ·simp at h
theorem is_lenF {st:St} {x:Opd} {a:List AV} {n:Nat} (hx:opdO e x=some (.lit a)) (hn:lenO a=some n) (h:Is O is keep k Q ((d,.int .i64 (n:Nat))::e) st):Is O (⟨some d,none,false,.len 1 x⟩::is) keep k Q e st :=
 is_lenL hx (by rw [lenO_some hn];exact h)
theorem is_lenSF {st:St} {x:Opd} {a:List UInt8} {n:Nat} (hx:opdO e x=some (.str a)) (hn:lenO a=some n) (h:Is O is keep k Q ((d,.int .i64 (n:Nat))::e) st):Is O (⟨some d,none,false,.len 0 x⟩::is) keep k Q e st :=
 is_lenS hx (by rw [lenO_some hn];exact h)
theorem is_boxG {x:Opd} {v v':AV} {w:Nat} (hx:opdO e x=some v) (hw:v.wide=some w) (hv:forceV v=some v') (h:Is O is keep k Q ((d,.ptr A.length L.length 0 0 0)::e) ⟨A,false,L++[Blk.arr w 0 [v']]⟩):Is O (⟨some d,none,false,.box x⟩::is) keep k Q e ⟨A,false,L⟩:=by
 rw [← forceV_some hv] at h
 exact is_of (v:=.ptr A.length L.length 0 0 0) (st':=⟨A,false,L++[Blk.arr w 0 [v]]⟩) (by simp only [evalPI,evalPO,opdO_some hx,hw,oS,St.new_cur,newPtrK]) h
theorem is_ldT {agg:Bool} {n:Nat} {a:Opd} {ver i o w:Nat} {es:List AV} {x v:AV} (ha:opdO e a=some (.ptr A.length L.length ver i o)) (hx:es[i]?=some x) (hv:partOf x agg o n=some v)
 (h:Is O is keep k Q ((d,v)::e) ⟨A,false,L++[Blk.arr w ver es]⟩):Is O (⟨some d,none,false,.ld agg n a⟩::is) keep k Q e ⟨A,false,L++[Blk.arr w ver es]⟩ :=
 is_ldc (w:=w) ha (by rw [List.getElem?_append_right (Nat.le_refl _)];simp) hx hv h
theorem is_stT {n:Nat} {a x:Opd} {ver i o w:Nat} {es:List AV} {v v' y:AV} (ha:opdO e a=some (.ptr A.length L.length ver i o)) (hx:opdO e x=some v) (hy:es[i]?=some y)
 (hs:sealV deep (A.length+1) ⟨A,false,L++[Blk.arr w ver es]⟩ v=some (v,⟨A,false,L++[Blk.arr w ver es]⟩)) (hv:(elemSet w y o n v).bind forceV=some v') {es':List AV} (he:forceL (es.set i v')=some es') (h:Is O is keep k Q e ⟨A,false,L++[Blk.arr w ver es']⟩):Is O (⟨none,none,false,.st n a x⟩::is) keep k Q e ⟨A,false,L++[Blk.arr w ver es]⟩:=by
 refine is_stn (w:=w) (es:=es) (y:=y) (by rw [List.getElem?_append_right (Nat.le_refl _)];simp) ha hx hy hs hv ?_
 rw [← forceL_some he] at h
 rw [List.set_append_right _ _ (Nat.le_refl _)]
 simpa using h
theorem is_app1N {w bytes:Nat} {s x:Opd} {ix ver n:Nat} {es:List AV} {y:AV} (hs:opdO e s=some (.ref A.length ix ver 0 n)) (hx:opdO e x=some (.lit [y])) (hg:L[ix]?=some (Blk.arr w ver es)) (hb:n=es.length)
 (hl:es.length+1<4294967296) (hw:bytes≤4096) (hsm:y.wide=some w) (hm:sealV deep (A.length+1) ⟨A,false,L⟩ y=some (y,⟨A,false,L⟩))
 (h:Is O is keep k Q ((d,.ref A.length ix (ver+1) 0 (n+1))::e) ⟨A,false,L.set ix (Blk.arr w (ver+1) (es++[y]))⟩):Is O (⟨some d,none,false,.app w bytes s x⟩::is) keep k Q e ⟨A,false,L⟩:=by
 have hlt:ix<L.length:=by
  rw [List.getElem?_eq_some_iff] at hg;exact hg.1
 subst hb
 refine is_of (v:=.ref A.length ix (ver+1) 0 (es.length+1)) (st':=⟨A,false,L.set ix (Blk.arr w (ver+1) (es++[y]))⟩) ?_ h
 have hm2:mapSt (sealV deep (A.length+1)) ⟨A,false,L⟩ [y]=some ([y],⟨A,false,L⟩):=by simp only [mapSt,hm,oS,consK]
 have hw2:sameW w [y]=true:=by simp [sameW,hsm]
 simp only [evalPI,evalPO,opdO_some hs,opdO_some hx,elems,oS,appendV,if_pos hw2,hm2,appK,St.get_cur,hg,vis,appB,true_and,List.length_singleton,if_pos (show 0+es.length≤es.length∧es.length+1<4294967296∧bytes≤4096 by omega),St.put,if_true,if_false,Bool.false_eq_true,if_pos hlt,List.drop_zero,List.take_length]
theorem is_buildO {st:St} {z:List AV} {ps:List (Nat × Nat × Opd)} {qs:List (Nat × Nat × AV)} {cs vs:List AV} (hq:partsVO e ps=some qs) (hf:fillV z qs=some cs) (hv:forceL cs=some vs) (h:Is O is keep k Q ((d,.agg vs)::e) st):Is O (⟨some d,none,false,.build z ps⟩::is) keep k Q e st :=
 is_build (partsVO_some hq) hf hv h
theorem is_bslFO {st st':St} {w:Nat} {z:List AV} {ps:List (Nat × Opd)} {qs:List (Nat × AV)} {es:List AV} {v u:AV} (hq:partsEO e ps=some qs) (hf:fillE w z qs=some es) (hb:bslK false w st es=some (v,st')) (hv:fcV 3 v=some u) (h:Is O is keep k Q ((d,u)::e) st'):Is O (⟨some d,none,false,.bslice false w z ps⟩::is) keep k Q e st:=by
 rw [← fcV_some hv] at h
 exact is_bslF (partsEO_some hq) hf hb h
theorem is_bslTO {w:Nat} {z:List AV} {ps:List (Nat × Opd)} {qs:List (Nat × AV)} {es es':List AV} (hq:partsEO e ps=some qs) (hf:fillE w z qs=some es) (he:forceL es=some es') (hL:forceB (L++[Blk.arr w 0 es'])=some L') (h:Is O is keep k Q ((d,.ref A.length L.length 0 0 es'.length)::e) ⟨A,false,L'⟩):Is O (⟨some d,none,false,.bslice true w z ps⟩::is) keep k Q e ⟨A,false,L⟩ :=
 is_bslT (partsEO_some hq) hf he hL h
end
end Go.QAbs
namespace Go.QAbs
section
variable {O:Orc} {k:List Fr} {Q:Post} {e:Env} {A:List (Bool × List Blk)} {L L':List Blk} {keep:List Nat} {is:List PI} {d:Nat}
theorem is_stnW {n:Nat} {a x:Opd} {ix ver i o w:Nat} {es:List AV} {v u v' y:AV} (hg:L[ix]?=some (Blk.arr w ver es)) (ha:opdO e a=some (.ptr A.length ix ver i o)) (hx:opdO e x=some v) (hy:es[i]?=some y)
 (hs:sealV deep (A.length+1) ⟨A,false,L⟩ v=some (u,⟨A,false,L⟩)) (hv:(elemSet w y o n u).bind forceV=some v') (h:Is O is keep k Q e ⟨A,false,L.set ix (Blk.arr w ver (es.set i v'))⟩):Is O (⟨none,none,false,.st n a x⟩::is) keep k Q e ⟨A,false,L⟩:=by
 have hlt:ix<L.length:=by
  rw [List.getElem?_eq_some_iff] at hg;exact hg.1
 have hv':elemSet w y o n u=some v':=by
  simp only [oB] at hv
  obtain ⟨u,h1,h2⟩:=hv
  rw [h1,forceV_some h2]
 refine is_of (od:=none) (v:=.undef) (st':=⟨A,false,L.set ix (Blk.arr w ver (es.set i v'))⟩) ?_ h
 simp only [evalPI,evalPO,opdO_some ha,opdO_some hx,storeP,hs,oS,storeK,St.get_cur,hg,vis,storeB,if_true,hy,hv',St.put,if_false,Bool.false_eq_true,if_pos hlt,retU]
theorem is_stNil {n:Nat} {a x:Opd} {ix ver i o w:Nat} {es:List AV} {v' y:AV} (ha:opdO e a=some (.ptr A.length ix ver i o)) (hx:opdO e x=some .nils) (hg:L[ix]?=some (Blk.arr w ver es)) (hy:es[i]?=some y)
 (hv:(elemSet w y o n (.lit [])).bind forceV=some v') (h:Is O is keep k Q e ⟨A,false,L.set ix (Blk.arr w ver (es.set i v'))⟩):Is O (⟨none,none,false,.st n a x⟩::is) keep k Q e ⟨A,false,L⟩ :=
 is_stnW hg ha hx hy rfl hv h
end
end Go.QAbs
