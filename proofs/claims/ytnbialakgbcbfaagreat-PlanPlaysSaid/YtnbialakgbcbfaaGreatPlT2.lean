/- A part of the proof: Q, U, V, X, Y', P1, P2, P3, R1, R2. No condition. -/
import Derived.Laws.BytesString
import Derived.Laws.StructEq
import Derived.Test.YtnbialakgbcbfaaGreatPlT1
set_option linter.unusedVariables false
set_option linter.unusedSimpArgs false
namespace Go.QAbs
open Go.RowKit (Below)
variable {k v x z:AV}{b:Blk}{e e':Env}{A':List (Bool × List Blk)}{es ys:LV}{xs:List Value}{c i ix kk n w:Nat}{p:Opd}{o:Oper}{O:Orc}{s s' st st':St}
section
variable {P:Program}{W0:World}{B0:Bse}{st st':St}{ρ:Rho}{W:World}{e:Env}{a:Act}
theorem Zsu{x:Value}(h:x.cells.size=w):Zl2 x.cells w [x]:=by
 refine⟨fun y hy=>by simp only[List.mem_singleton]at hy;subst hy;exact h,fun i y hy j v hv=>?_⟩
 cases i with
 | zero=>simp only[List.getElem?_cons_zero,Option.some.injEq]at hy;subst hy;simpa using hv
 | succ i=>simp at hy
theorem ZoQ(hr:Rel W0 B0 st ρ W){x:Value}{t:TypeId}(hv:R (cx st ρ W st.A.length) v x)(hw:v.wide=some w)(hn:News st (.arr w 0 [v]) i st'):
 ∃ρ' W',(newVar t x).run P W=.ok ⟨W.heap.size,0,none⟩ W'/\Goes W0 B0 st ρ W st' ρ' W'/\R (cx st' ρ' W' st'.A.length) (.ptr st.A.length i 0 0 0) (.pointer (some ⟨W.heap.size,0,none⟩)):=by
 have hx:=(hv.wide (XN _ _ _ _) hw).1;have hla:=Zsu hx
 obtain⟨g,hg⟩:=Zbx (elem:=t) hr hn (.cons hv (.nil _)) hla.1 (c:=1) (by simp) (by omega) hla.2
 refine⟨_,_,?_,g,?_⟩
 ·simp[newVar,newRow]
 ·have hlen:=g.ev.len
  have:=(hg st'.A.length (by omega)).2 0 0
  simp only[Nat.zero_mul,Nat.zero_add]at this;exact .ptr this
theorem Zq9(hr:Rel W0 B0 st ρ W){j:Nat}{st1:St}{t:TypeId}(hn:st.new (.arr w 0 [])=some (i,st1))(hn2:st1.new (.arr 1 0 [.ref st.A.length i 0 0 0])=some (j,st')):
 ∃ρ' W',(newVar t (.slice none 0 0)).run P W=.ok ⟨W.heap.size,0,none⟩ W'/\Goes W0 B0 st ρ W st' ρ' W'/\R (cx st' ρ' W' st'.A.length) (.ptr st.A.length j 0 0 0) (.pointer (some ⟨W.heap.size,0,none⟩)):=by
 obtain⟨g1,h1⟩:=ZjW hr (.of_new hn) none;have hlen:=g1.ev.len
 have hv:R (cx st1 (upd ρ st.A.length i ⟨0,0,0⟩) W st1.A.length) (.ref st.A.length i 0 0 0) (.slice none 0 0):=.ref (h1 _ (by omega))
 obtain⟨ρ',W',e1,g2,r2⟩:=ZoQ (P:=P) (t:=t) g1.rel hv rfl (.of_new hn2);rw[hlen]at r2;exact⟨ρ',W',e1,g1.trans g2,r2⟩
theorem ZoR(e:Env)(l:List (Nat × Nat × Opd)):(Xq e l).length=l.length:=by induction l with|nil=>rfl|cons p ps ih=>simp[Xq,ih]
theorem Zcn(e:Env):∀ {l:List (Nat × Nat × Opd)} {i:Nat} {q:Nat × Nat × AV},(Xq e l)[i]?=some q->∃p,l[i]?=some p/\q=(p.1,p.2.1,p.2.2.get e)
 | [],i,q,h=>by simp[Xq]at h
 | p::ps,0,q,h=>by simp only[Xq,List.getElem?_cons_zero,Option.some.injEq]at h;exact⟨p,rfl,h.symm⟩
 | p::ps,i+1,q,h=>by
  simp only[Xq,List.getElem?_cons_succ]at h ⊢;exact Zcn e h
theorem ZoS(e:Env)(l:List (Nat × Opd)):(JU e l).length=l.length:=by induction l with|nil=>rfl|cons p ps ih=>simp[JU,ih]
theorem Zco(e:Env):∀ {l:List (Nat × Opd)} {i:Nat} {q:Nat × AV},(JU e l)[i]?=some q->∃p,l[i]?=some p/\q=(p.1,p.2.get e)
 | [],i,q,h=>by simp[JU]at h
 | p::ps,0,q,h=>by simp only[JU,List.getElem?_cons_zero,Option.some.injEq]at h;exact⟨p,rfl,h.symm⟩
 | p::ps,i+1,q,h=>by
  simp only[JU,List.getElem?_cons_succ]at h ⊢;exact Zco e h
theorem ZmK{fs:List Field}{ps:List (Nat × Nat)}(h:ZjU P fs=some ps):
 (fs.mapM (fun f=>(do pure (f.offset,<- sizeOf f.type):Sem (Nat × Nat)))).run P W=.ok ps W:=by
 unfold ZjU at h
 induction fs generalizing ps with
 | nil=>simp at h;subst h;simp
 | cons f fs ih =>
  simp only[List.mapM_cons,Option.pure_def,Option.bind_eq_bind,Option.bind_eq_some_iff,Option.map_eq_some_iff,Option.some.injEq]at h;obtain⟨p,⟨n,hn,rfl⟩,qs,hqs,rfl⟩:=h;simp only[List.mapM_cons,Sem.run_bind,Y6 hn,Result.andThen_ok,Sem.run_pure,ih hqs]
theorem ZmL{C:Cx}(ok:C.Ok){t:TypeId}{cs:LV}{parts:Array (Nat × Operand)}{l:List (Nat × Nat × Opd)}(hz:ZC9 P t=some z)
 (he:EnvR C e a.tmps) (hf:fillV z.cells (Xq e l)=some cs) {place:Nat->Option (Nat × Nat)}
 (hpl:l.length=parts.toList.length/\∀(i:Nat) (q:Nat × Nat × Opd) (p:Nat × Operand),l[i]?=some q->parts.toList[i]?=some p->place p.1=some (q.1,q.2.1)/\opd p.2=some q.2.2)
 (hrun:∀zv:Value,(zeroValue t).run P W=.ok zv W->∀cs',Instr.fill place zv.cells (parts.map fun (i,x)=>(i,a.eval x)).toList=some cs' ->
  (Instr.build t (parts.map fun (i,x)=>(i,a.eval x))).run P W=.ok (.agg cs') W) :
 ∃x,(Instr.build t (parts.map fun (i,x)=>(i,a.eval x))).run P W=.ok x W/\R C (.agg cs) x:=by
 obtain⟨zv,hzr,hzc,_⟩:=ZGu (W:=W) hz
 have hzany:z.isAny=false:=by
  cases z<;>first|rfl|skip
  rename_i h
  unfold ZC9 at hz
  cases hi:P.info? t with
  | none=>rw[hi]at hz;simp at hz
  | some i =>
   rw[hi]at hz;simp only[Option.bind_some]at hz
   cases hzz:i.zero with
   | none=>rw[hzz]at hz;simp at hz
   | some v =>
    rw[hzz]at hz;simp only[Option.bind_some]at hz;unfold ZUx ZcQ at hz
    split at hz<;>first|(simp at hz;done)|skip
    all_goals (split at hz<;>simp at hz)
 have hcells:=(hzc C).cells ok hzany
 obtain⟨cs',hfill,hr'⟩:=Zl1 ok place (ps:=(parts.map fun (i,x)=>(i,a.eval x)).toList) hf hcells (by rw[ZoR,hpl.1];simp) (by
  intro i p q hp hq;obtain⟨o,ho,rfl⟩:=Zcn e hp;rw[Array.toList_map,jG]at hq
  cases hpp:parts.toList[i]? with
  | none=>rw[hpp]at hq;simp at hq
  | some pp =>
   rw[hpp]at hq;simp only[Option.map_some,Option.some.injEq]at hq;subst hq;obtain⟨k1,k2⟩:=hpl.2 i o pp ho hpp
   exact⟨k1,Zt k2 he⟩)
 exact⟨_,hrun zv hzr cs' hfill,.agg' hr'⟩
theorem ZoT(C:Cx)(l:B8):RL C (QL l) (l.map fun b=>Value.int .u8 b.toNat):=by
 induction l with
 | nil=>exact .nil _
 | cons b l ih=>exact .cons (.int _ _) ih
theorem ZmM(l:B8):Zv (l.map fun b=>Value.int .u8 b.toNat)=l.map fun b=>Value.int .u8 b.toNat:=by
 induction l with
 | nil=>rfl
 | cons b l ih=>simp only[Zv,jC,List.flatMap_cons]at ih ⊢;rw[ih];rfl
theorem ZCw(h:JH w es=true)(hv:v∈es):v.wide=some w:=by
 have:=List.all_eq_true.1 h v hv;simpa using this
theorem ZBr{b:Addr}(hl:xs.length=n)(hw:∀x∈xs,x.cells.size=w){bb oo:Nat}(hb:0<n->b=⟨bb,oo,none⟩)
 (hlies:∀i x,xs[i]?=some x->Lies (Qb W) bb (oo+i*w) x):(Builtin.firstCells w n (.slice (some b) n c)).run P W=.ok (Zv xs).toArray W:=by
 have hlen:(Zv xs).length=n*w:=by rw[Xc hw,hl]
 have:=run_loadCells_list (P:=P) W b (Zv xs) (fun j v hv=>by
  have hj:=Zm hv;rw[hlen]at hj
  have hw0 : 0 < w := by rcases Nat.eq_zero_or_pos w with h0 | h0; · subst h0; omega
                         ·exact h0
  have hn0 : 0 < n := by rcases Nat.eq_zero_or_pos n with h0 | h0; · subst h0; omega
                         ·exact h0
  rw[hb hn0,ZA9]
  have hi:j / w<xs.length:=by rw[hl];exact Nat.div_lt_of_lt_mul (by rw[Nat.mul_comm];exact hj)
  have hx:=jE hi;have hxw:=hw _ (List.getElem_mem hi)
  have hjm:j % w<(xs[j / w]).cells.size:=by rw[hxw];exact Nat.mod_lt _ hw0
  have hget:=ZCu hw hx (j:=j % w) (v:=(xs[j / w]).cells[j % w]) (Array.getElem?_eq_getElem hjm)
  have hdm:j / w*w+j % w=j:=by rw[Nat.mul_comm];exact Nat.div_add_mod j w
  rw[hdm,hv]at hget;simp only[Option.some.injEq]at hget
  have:=hlies _ _ hx (j % w) _ (Array.getElem?_eq_getElem hjm)
  rw[<- hget]at this;unfold Qb at this
  rw[show oo+j=oo+j / w*w+j % w by omega]
  exact this)
 rw[hlen]at this
 simp[Builtin.firstCells,this]
theorem Yv{x:Value}(h:∃b c,x=.slice b 0 c):(Builtin.firstCells w 0 x).run P W=.ok #[] W:=by
 obtain⟨b,c,rfl⟩:=h
 cases b with
 | none=>simp[Builtin.firstCells]
 | some b =>
  have:=run_loadCells_list (P:=P) W b [] (by simp)
  simpa [Builtin.firstCells] using this
theorem ZGw(hr:Rel W0 B0 st ρ W)(h:elems st v=some ys){x:Value}(hx:R (cx st ρ W st.A.length) v x)(hw:JH w ys=true):
 ∃xs:List Value,(Builtin.lenOf x).run P W=.ok ys.length W/\(∀W':World,(∀c,W'.cell? c=W.cell? c)->(Builtin.firstCells w ys.length x).run P W'=.ok (Zv xs).toArray W')/\RL (cx st ρ W st.A.length) ys xs/\∀y∈xs,y.cells.size=w:=by
 have hsize:∀ {C:Cx} (_:C.Ok) {xs:List Value},RL C ys xs->∀y∈xs,y.cells.size=w:=by
  intro C ok xs hrl y hy;obtain⟨i,hi⟩:=List.getElem?_of_mem hy;have hlt:=Zm hi;rw[<- hrl.1]at hlt;exact ((hrl.2 i _ y (jE hlt) hi).wide ok (ZCw hw (List.getElem_mem hlt))).1
 unfold elems at h
 split at h
 ·simp only[Option.some.injEq]at h;subst h
  cases hx with
  | nils b=>exact⟨[],rfl,fun _ _=>Yv ⟨b,0,rfl⟩,.nil _,by simp⟩
 ·rename_i es
  simp only[Option.some.injEq]at h;subst h;obtain⟨a',c,rfl,hc,hcase⟩:=ZFz hx
  rcases hcase with rfl|⟨b,o,w',xs,rfl,g1,g2⟩
  ·exact⟨[],rfl,fun _ _=>Yv ⟨a',c,rfl⟩,.nil _,by simp⟩
  ·have hrl : RL (cx st ρ W st.A.length).pure es ((List.range es.length).map xs) := by
    refine⟨by simp,fun i e y he hy=>?_⟩
    have hi:=Zm he;rw[jG,List.getElem?_range hi]at hy;simp only[Option.map_some,Option.some.injEq]at hy;subst hy;exact g1 i e he
   have hsz:=hsize (ZDB _) hrl
   refine⟨_,rfl,fun W' hW=>ZBr (bb:=b) (oo:=o) (by simp) hsz (fun _=>rfl) ?_,hrl.mono (Cx.pure_le _),hsz⟩
   intro i y hy;have hi:=Zm hy;simp only[List.length_map,List.length_range]at hi;have hmem:=hsz y (jM hy);rw[jG,List.getElem?_range hi]at hy;simp only[Option.map_some,Option.some.injEq]at hy;subst hy;obtain⟨g3,g4⟩:=g2 i hi
   have:w'=w:=by omega
   subst this
   exact g4.mono (fun _ _ _ h=>by unfold Qb;rw[hW];exact h.1)
 ·rename_i l
  simp only[Option.some.injEq]at h;subst h
  have:=Yf hx;subst this
  have hrl:=ZoT (cx st ρ W st.A.length) l;refine⟨_,?_,?_,hrl,hsize (XN _ _ _ _) hrl⟩
  ·simp[Builtin.lenOf,ZBA,QL]
  ·intro W' hW
   rw[ZmM]
   simp[Builtin.firstCells,QL,ZTD]
 ·rename_i lv ix ver s n
  cases hx with
  | ref hp =>
   obtain⟨h1,h2,h3,a',c,rfl,h4⟩:=hp;unfold ZFG at h
   split at h
   ·rename_i w0 ver' es hg
    split at h
    ·rename_i hc
     obtain⟨rfl,hsn⟩:=hc;simp only[Option.some.injEq]at h;subst h;obtain⟨g1,g2,g3⟩:=h4 w0 es hg;have aok:=hr.arr lv ix w0 ver es hg;obtain⟨xs,hxs,hl⟩:=aok.vals;have hrl:=((hxs.drop s).take n).mono (Zcd (ρ:=ρ) (W:=W) h1);have hsz:=hsize (XN _ _ _ _) hrl
     have hnl:((es.drop s).take n).length=n:=by simp;omega
     refine⟨_,by rw[hnl];rfl,?_,hrl,hsz⟩
     rw[hnl];intro W' hW
     rcases Nat.eq_zero_or_pos n with h0|h0
     ·subst h0
      simp only[List.take_zero,Zv,List.flatMap_nil];exact Yv ⟨a',c,rfl⟩
     ·have hal:=aok.len
      have ha:=g3 (by omega)
      subst ha
      refine ZBr (bb:=(ρ lv ix).b) (oo:=(ρ lv ix).o+s*w0) (by have:=hrl.1;rw[<- hrl.1];exact hnl) hsz (fun _=>rfl) ?_
      intro i y hy;have hyw:=hsz y (jM hy);rw[List.getElem?_take]at hy
      split at hy
      ·rw[List.getElem?_drop]at hy
       obtain⟨l1,l2⟩:=hl _ _ hy
       have:w0=w:=by omega
       subst this
       rw[show (ρ lv ix).o+s*w0+i*w0=(ρ lv ix).o+(s+i)*w0 by rw[Nat.add_mul];omega]
       exact l2.mono (fun _ _ _ h=>by unfold Qb;rw[hW];exact h)
      ·simp at hy
    ·simp at h
   ·simp at h
 ·simp at h
theorem Zp7(n:Nat):∀(r c:Nat),c<=2*n+200->Builtin.growBy n r c<=2*n+200
 | 0,c,h=>h
 | r+1,c,h=>by
  simp only[Builtin.growBy]
  split
  ·exact h
  ·exact Zp7 n r _ (by omega)
theorem ZvJ(h:c<n):Builtin.nextslicecap n c<=2*n+200:=by
 unfold Builtin.nextslicecap
 split
 ·omega
 ·split
  ·omega
  ·exact Zp7 n 4 c (by omega)
theorem Zjm(xs ys:List Value):Zv (xs++ys)=Zv xs++Zv ys:=by simp[Zv]
theorem ZiT(hw:∀x∈xs,x.cells.size=w)(rest:Array Value):Zl2 ((Zv xs).toArray++rest) w xs:=by
 refine⟨hw,fun i x hx j v hv=>?_⟩
 have h1:=ZCu hw hx hv
 have:=Zm h1
 rw[Array.getElem?_append_left (by simpa using this)]
 simpa using h1
end
section
variable {P:Program}{W0:World}{B0:Bse}{st st':St}{ρ:Rho}{W:World}{e:Env}{a:Act}
theorem Zsv{b:Nat}(hb:b<=4096)(hn:n<=10000000000):n*b<=40960000000000:=by
 have:=Nat.mul_le_mul hn hb;omega
theorem Zcp{n:Int}(h0:0<=n)(h1:n<4294967296):IntKind.i64.wrap n=n:=by
 unfold IntKind.wrap IntKind.bits IntKind.signed;simp only[Bool.true_and,decide_eq_true_eq]
 have h2:n % (2 ^ 64:Int)=n:=Int.emod_eq_of_lt h0 (by omega)
 rw[h2,if_neg (by omega)]
theorem ZoU{t el:TypeId}{parts:Array (Nat × Operand)}{l:List (Nat × Opd)}(ht:P.underlying t=some (.slice el))(hs:sz P el=some w)
 (hw0:w≠0) (hsm:n*w<=16777216) (hz:ZC9 P el=some z) (hzw:z.wide=some w) {C:Cx} (ok:C.Ok) (he:EnvR C e a.tmps) (hf:fillE w (List.replicate n z) (JU e l)=some es)
 (hpl:l.length=parts.toList.length/\∀(i:Nat) (q:Nat × Opd) (p:Nat × Operand),l[i]?=some q->parts.toList[i]?=some p->p.1=q.1/\opd p.2=some q.2) :
 ∃cs xs,(Instr.buildSlice t n (parts.map fun (i,x)=>(i,a.eval x))).run P W=.ok (.slice (some ⟨W.heap.size,0,none⟩) n n) (W.alloc (.cells cs el))/\RL C es xs/\Zl2 cs w xs/\cs.size=n*w/\es.length=n:=by
 obtain⟨zv,hzr,hzc,_⟩:=ZGu (W:=W) hz;have hzs:=((hzc C).wide ok hzw).1
 obtain⟨cs',xs',h1,h2,h3,h4,h5⟩:=Zl3 ok (w:=w) (ps:=(parts.map fun (i,x)=>(i,a.eval x)).toList) (cs:=(Array.range (n*w)).map (fun i=>zv.cells[i % zv.cells.size]!)) hf (ZU2 (hzc C) n)
  (ZiM hzs hw0 (Nat.le_refl _)) (by simp) (by rw[ZoS,hpl.1];simp) (by
   intro i p q hp hq;obtain⟨o,ho,rfl⟩:=Zco e hp;rw[Array.toList_map,jG]at hq
   cases hpp:parts.toList[i]? with
   | none=>rw[hpp]at hq;simp at hq
   | some pp =>
    rw[hpp]at hq;simp only[Option.map_some,Option.some.injEq]at hq;subst hq;obtain⟨k1,k2⟩:=hpl.2 i o pp ho hpp
    exact⟨k1,Zt k2 he⟩)
 refine⟨cs',xs',?_,h2,h3,by rw[h4];simp,by rw[h5];simp⟩
 have hmap0:n*w=0->(Array.range (n*w)).map (fun i=>(#[]:Array Value)[i % (#[]:Array Value).size]!)=(Array.range (n*w)).map (fun i=>zv.cells[i % zv.cells.size]!):=by
  intro h0;rw[h0];simp
 have h1':Instr.fill (fun i=>some (i*w,w)) ((Array.range (n*w)).map (fun i=>zv.cells[i % zv.cells.size]!)) (parts.map fun x=>(x.fst,a.eval x.snd)).toList=some cs':=h1
 simp only[Instr.buildSlice,Sem.run_bind,Zo ht,Result.andThen_ok,Y6 hs]
 rw[if_neg (by omega)]
 split
 ·rename_i h0
  simp only[Sem.run_bind,Sem.run_pure,Result.andThen_ok,hmap0 h0,h1']
  simp[newRow]
 ·simp only[Sem.run_bind,Sem.run_pure,Result.andThen_ok,hzr,h1']
  simp[newRow]
theorem ZvK(hr:Rel W0 B0 st ρ W){own:Bool}{cs:Array Value}{el:TypeId}(hx:RL (cx st ρ W st.A.length) es xs)(hla:Zl2 cs w xs)
 (hcs:cs.size=n*w) (hn:es.length=n) (h:Zf5 own w st es=some (v,st')) :
 ∃ρ',Goes W0 B0 st ρ W st' ρ' (W.alloc (.cells cs el))/\R (cx st' ρ' (W.alloc (.cells cs el)) st'.A.length) v (.slice (some ⟨W.heap.size,0,none⟩) n n):=by
 unfold Zf5 at h
 split at h
 ·simp only[Option.bind_eq_some_iff,JO,Option.some.injEq,jP]at h
  obtain⟨⟨i,st1⟩,hn1,rfl,rfl⟩:=h
  obtain⟨g,hg⟩:=Zbx (elem:=el) hr (.of_new hn1) hx hla.1 (c:=n) (by omega) (by omega) hla.2
  have hlen:=g.ev.len
  have:=(hg st1.A.length (by omega)).1
  rw[hn]at this
  exact⟨_,g,.ref (by rw[hn];exact this)⟩
 ·split at h
  ·rename_i hemp
   simp only[Option.some.injEq,jP]at h;obtain⟨rfl,rfl⟩:=h
   have:n=0:=by rw[<- hn];simpa using hemp
   subst this;exact⟨ρ,Zce hr _,.nils _⟩
  ·simp only[Option.bind_eq_some_iff,ZjK,Option.some.injEq,jP]at h
   obtain⟨⟨es',st1⟩,hm,rfl,rfl⟩:=h;have g1:=Zce hr (.cells cs el)
   obtain⟨g2,r2⟩:=Xv (fun st v x v' st'=>ZBW QK 0 st v x v' st') g1.rel (Nat.zero_le _) (hx.mono (g1.ev.le _ (Nat.le_refl _))) hm
   refine⟨ρ,g1.trans g2,?_⟩
   have hlen:es'.length=n:=by rw[r2.1,<- hx.1,hn]
   have:=ZjX (C:=cx st1 ρ (W.alloc (.cells cs el)) st1.A.length) (es:=es') (xs:=xs) (b:=W.heap.size) (o:=0) (w:=w) (c:=n) (a:=some ⟨W.heap.size,0,none⟩) r2 ?_ (by omega) (fun _=>rfl)
   ·rwa [hlen]at this
   ·intro i x hx'
    refine⟨hla.1 x (jM hx'),fun j u hu=>?_⟩
    have:=hr.new_im (t:=el) (hla.2 i x hx' j u hu)
    rw[show 0+i*w+j=i*w+j by omega]
    exact (g2.ev.le 0 (Nat.zero_le _)).im _ _ _ this
theorem ZiU(hr:Rel W0 B0 st ρ W){bytes k num:Nat}{l c:AV}{blk:Blk}(h:mkslB w bytes z l c=some (blk,num))(hn:News st blk k st'){ul uc:Value}(hl:R (cx st ρ W st.A.length) l ul)(hc:R (cx st ρ W st.A.length) c uc)
 {t el:TypeId} {i:TypeInfo} (ht:P.underlying t=some (.slice el)) (hi:P.info? el=some i) (hsz:i.size=w) (hby:i.bytes=bytes) (hw0:w≠0) (hz:ZC9 P el=some z) (hzw:z.wide=some w) :
 ∃x ρ' W',(Instr.makeSlice t ul uc).run P W=.ok x W'/\Goes W0 B0 st ρ W st' ρ' W'/\R (cx st' ρ' W' st'.A.length) (.ref st.A.length k 0 0 num) x:=by
 unfold mkslB at h
 split at h
 ·rename_i l c
  split at h
  ·rename_i hcond
   obtain⟨c1,c2,c3,c4⟩:=hcond;simp only[Option.some.injEq,jP]at h;obtain⟨rfl,rfl⟩:=h
   have:=Ye hl;subst this
   have:=Ye hc;subst this
   obtain⟨zv,hzr,hzc,_⟩:=ZGu (W:=W) hz;have hzs:=((hzc (cx st ρ W st.A.length)).wide (XN _ _ _ _) hzw).1
   have hla:=ZiM (n:=l.toNat) (c:=c.toNat) hzs hw0 (by omega)
   obtain⟨g,hg⟩:=Zbx (elem:=el) hr hn (ZU2 (hzc _) l.toNat) hla.1 (c:=c.toNat) (by simp;omega) (cs:=(Array.range (c.toNat*w)).map (fun i=>zv.cells[i % zv.cells.size]!)) (by simp) hla.2
   have hlen:=g.ev.len
   have hx:=(hg st'.A.length (by omega)).1
   simp only[List.length_replicate]at hx;refine⟨_,_,_,?_,g,.ref hx⟩
   have hs:sz P el=some w:=by simp[sz,hi,hsz]
   have wl:=Zcp c1 (by omega)
   have wc:=Zcp (n:=c) (by omega) c3
   have hbig:¬ (((bytes:Int)*c > 2 ^ 48)):=by
    have h1:=Zsv (b:=bytes) (n:=c.toNat) c4 (by omega)
    have h2:(bytes:Int)*c=((c.toNat*bytes:Nat):Int):=by
     rw[Int.natCast_mul,Int.mul_comm];congr 1;omega
    rw[h2]
    have:((2:Int) ^ 48)=281474976710656:=by decide
    omega
   have hbig2:¬ (((bytes:Int)*l > 2 ^ 48)):=by
    have:(bytes:Int)*l<=(bytes:Int)*c:=Int.mul_le_mul_of_nonneg_left c2 (by omega)
    omega
   have hmap0:c.toNat*w=0->(Array.range (c.toNat*w)).map (fun i=>(#[]:Array Value)[i % (#[]:Array Value).size]!)=(Array.range (c.toNat*w)).map (fun i=>zv.cells[i % zv.cells.size]!):=by
    intro h0;rw[h0];simp
   have ht1:(decide (c<0) || decide ((bytes:Int)*c > 2 ^ 48))=false:=by simp only[Bool.or_eq_false_iff,decide_eq_false_iff_not];exact⟨by omega,hbig⟩
   simp only[Instr.makeSlice,Sem.run_bind,Zo ht,Result.andThen_ok,asInt,asIntOf,Sem.run_pure,ZUz hi,hby,wl,wc,Y6 hs]
   rw[if_neg (by simp only[ht1,Bool.or_eq_true,decide_eq_true_eq,Bool.false_or,not_or];simp;omega)]
   simp only[Sem.run_bind,run_askRoom,Result.andThen_ok,Y6 hs,newRow,Sem.run_pure]
   split
   ·rename_i h0
    simp only[Sem.run_bind,Sem.run_pure,Result.andThen_ok,hmap0 h0,run_newObj];rfl
   ·simp only[Sem.run_bind,Sem.run_pure,Result.andThen_ok,hzr,run_newObj]
    rfl
  ·simp at h
 ·simp at h
theorem Zsw(hr:Rel W0 B0 st ρ W){bytes:Nat}{l c:AV}(h:ZiF st w bytes z l c=some (v,st')){ul uc:Value}(hl:R (cx st ρ W st.A.length) l ul)(hc:R (cx st ρ W st.A.length) c uc)
 {t el:TypeId} {i:TypeInfo} (ht:P.underlying t=some (.slice el)) (hi:P.info? el=some i) (hsz:i.size=w) (hby:i.bytes=bytes) (hw0:w≠0) (hz:ZC9 P el=some z) (hzw:z.wide=some w) :
 ∃x ρ' W',(Instr.makeSlice t ul uc).run P W=.ok x W'/\Goes W0 B0 st ρ W st' ρ' W'/\R (cx st' ρ' W' st'.A.length) v x:=by
 unfold ZiF at h
 split at h
 ·rename_i l c
  split at h
  ·rename_i hcond
   simp only[Option.bind_eq_some_iff,JO,Option.some.injEq,jP]at h;obtain⟨⟨k,st1⟩,hn1,rfl,rfl⟩:=h
   exact ZiU hr (by unfold mkslB;exact if_pos hcond) (.of_new hn1) hl hc ht hi hsz hby hw0 hz hzw
  ·simp at h
 ·simp at h
theorem ZoV{b:Option Blk}(h:ZcG b=some n):∃es,b=some (.map es)/\es.length=n:=by
 unfold ZcG at h
 split at h
 ·simp only[Option.some.injEq]at h;exact⟨_,rfl,h⟩
 ·simp at h
theorem Zsx(hr:Rel W0 B0 st ρ W){k:Nat}(h:lenOf st k v=some n){x:Value}(hx:R (cx st ρ W st.A.length) v x){t:TypeId}{ty:TypeId}
 (h0:k=0->P.underlying t=some .string) (h1:k=1->∃el,P.underlying t=some (.slice el)) (h2:k=2->∃k el,P.underlying t=some (.map k el)) :
 (Builtin.len_ #[t] ty #[x]).run P W=.ok (.int .i64 n) W:=by
 unfold lenOf at h
 split at h
 ·simp only[Option.some.injEq]at h;subst h
  obtain⟨el,hk⟩:=h1 rfl
  cases hx with
  | nils b=>simp[Builtin.len_,Zo hk,goInt]
 ·simp only[Option.some.injEq]at h;subst h
  obtain⟨el,hk⟩:=h1 rfl;obtain⟨a',c,rfl,_⟩:=ZFz hx
  simp[Builtin.len_,Zo hk,goInt]
 ·simp only[Option.some.injEq]at h;subst h
  have:=Yf hx;subst this
  simp[Builtin.len_,Zo (h0 rfl),goInt,ZBA]
 ·simp only[Option.some.injEq]at h;subst h
  obtain⟨el,hk⟩:=h1 rfl
  cases hx with
  | ref hp =>
   obtain⟨_,_,_,a',c,rfl,_⟩:=hp
   simp[Builtin.len_,Zo hk,goInt]
 ·simp only[Option.some.injEq]at h;subst h
  obtain⟨k,el,hk⟩:=h2 rfl
  cases hx with
  | nilmap=>simp[Builtin.len_,Zo hk,goInt]
 ·obtain⟨k,el,hk⟩:=h2 rfl
  rename_i lv ix
  obtain⟨es,hg,rfl⟩:=ZoV h
  cases hx with
  | map hp =>
   obtain⟨_,_,r,rfl,h5⟩:=hp
   have:=h5 es hg;subst this
   obtain⟨_,en,clock,m2,m3,_⟩:=hr.map lv ix es hg
   simp[Builtin.len_,Zo hk,goInt,getObj,Sem.run,m2,m3.sz]
 ·simp at h
theorem ZZA{C:Cx}:∀ {es:LV} {l:B8} {xs:List Value},allBytes es=some l->RL C es xs ->
 ∃ns:List Int,xs=ns.map (fun n=>Value.int .u8 n)/\l=ns.map fun n=>UInt8.ofNat n.toNat
 | [],l,xs,h,hx=>by
  simp only[allBytes,Option.some.injEq]at h;subst h;rw[hx.nil_inv];exact⟨[],rfl,rfl⟩
 | v::es,l,xs,h,hx=>by
  simp only[allBytes,Option.bind_eq_some_iff,Option.map_eq_some_iff]at h;obtain⟨b,hb,l',hl',rfl⟩:=h;obtain⟨x,xs,rfl,h1,h2⟩:=hx.cons_inv;unfold byteOf at hb
  split at hb
  ·rename_i n
   simp only[Option.some.injEq]at hb;subst hb
   have:=Ye h1;subst this
   obtain⟨ns,rfl,rfl⟩:=ZZA hl' h2;exact⟨n::ns,rfl,rfl⟩
  ·simp at hb
theorem ZrA(ns:List Int)(s:ByteArray):ns.foldl (fun r n=>r.push (UInt8.ofNat n.toNat)) s=⟨s.data++(ns.map fun n=>UInt8.ofNat n.toNat).toArray⟩:=by
 induction ns generalizing s with
 | nil=>simp
 | cons n ns ih =>
  simp only[List.foldl_cons,ih,jC]
  congr 1
  apply Array.ext'
  simp[ByteArray.push]
theorem ZvL(hr:Rel W0 B0 st ρ W)(h:b2sV st x=some v){u:Value}(hx:R (cx st ρ W st.A.length) x u):∃z,(Conv.bytesToString u).run P W=.ok z W/\∀D,R D v z:=by
 unfold b2sV at h
 split at h
 ·simp at h
 ·rename_i hns
  simp only[Option.bind_eq_some_iff,Option.some.injEq]at h;obtain⟨es,he,l,hl,rfl⟩:=h
  have hw:JH 1 es=true:=by
   clear he
   induction es generalizing l with
   | nil=>rfl
   | cons v es ih =>
    simp only[allBytes,Option.bind_eq_some_iff,Option.map_eq_some_iff]at hl;obtain⟨b,hb,l',hl',rfl⟩:=hl
    have:=ih l' hl'
    unfold JH at this ⊢;simp only[List.all_cons,this,Bool.and_true];unfold byteOf at hb
    split at hb
    ·rfl
    ·simp at hb
  obtain⟨xs,h1,h2w,h3,h4⟩:=ZGw (P:=P) hr he hx hw
  have h2:=h2w W (fun _=>rfl)
  clear h2w;obtain⟨ns,rfl,rfl⟩:=ZZA hl h3
  have hfl:Zv (ns.map (fun n=>Value.int .u8 n))=ns.map (fun n=>Value.int .u8 n):=by
   clear h1 h2 h3 h4 hl
   induction ns with
   | nil=>rfl
   | cons n ns ih=>simp only[Zv,jC,List.flatMap_cons]at ih ⊢;rw[ih];rfl
  rw[hfl]at h2
  refine⟨.string ⟨(ns.map fun n=>UInt8.ofNat n.toNat).toArray⟩,?_,fun _=>.str _⟩
  have hlen:es.length=ns.length:=by rw[h3.1];simp
  -- what kind of slice
  have hkind:∃b c,u=.slice b es.length c:=by
   unfold elems at he
   split at he
   ·simp only[Option.some.injEq]at he;subst he;cases hx with|nils b=>exact⟨b,0,rfl⟩
   ·simp only[Option.some.injEq]at he;subst he;obtain⟨b,c,rfl,_⟩:=ZFz hx;exact⟨b,c,rfl⟩
   ·exact absurd Y (hns _)
   ·cases hx with
    | ref hp =>
     obtain⟨_,_,_,b,c,rfl,_⟩:=hp;unfold ZFG at he
     split at he
     ·split at he
      ·rename_i hc
       simp only[Option.some.injEq]at he;subst he
       exact⟨b,c,by congr 1;simp;omega⟩
      ·simp at he
     ·simp at he
   ·simp at he
  obtain⟨b,c,rfl⟩:=hkind
  cases b with
  | none =>
   simp only[Builtin.firstCells,Sem.run_pure,Result.ok.injEq,and_true]at h2
   have:ns=[]:=by
    cases ns with
    | nil=>rfl
    | cons n ns=>simp at h2
   subst this;rfl
  | some b =>
   simp only[Builtin.firstCells,Nat.mul_one]at h2
   have:=run_bytesToString (P:=P) W b es.length c ns h2
   rw[this,ZrA]
   simp
end
section
variable {P:Program}{W0:World}{B0:Bse}{st st':St}{ρ:Rho}{W:World}{e:Env}{a:Act}
theorem ZW9{t u el ty:TypeId}{i:TypeInfo}{base:Option Addr}{m:Nat}{x:Value}(ht:P.underlying t=some (.slice el))
 (hu:(∃el',P.underlying u=some (.slice el'))\/P.underlying u=some .string) (hi:P.info? el=some i) (hlen:(Builtin.lenOf x).run P W=.ok m W)
 (hfc:(Builtin.firstCells i.size m x).run P W=.ok (Zv xs).toArray W) (hroom:n+m<=c) {W':World}
 (hst:∀b,base=some b->(storeCells (b.add (n*i.size)) (Zv xs)).run P W=.ok () W') (hnone:base=none->W'=W) :
 (Builtin.append_ #[t,u] ty #[.slice base n c,x]).run P W=.ok (.slice base (n+m) c) W':=by
 have hs:sz P el=some i.size:=by simp[sz,hi]
 have hz:(do pure ((<- underlying u) matches .int _):Sem Bool).run P W=.ok false W:=by
  rcases hu with⟨el',hu⟩|hu<;>simp[Zo hu]
 cases base with
 | none =>
  rw[hnone rfl];simp only[Builtin.append_,List.getElem?_toArray,List.getElem?_cons_zero,List.getElem?_cons_succ,Sem.run_bind,Zo ht,Result.andThen_ok,Y6 hs]
  rcases hu with⟨el',hu⟩|hu <;>
   simp[Zo hu,hlen,hfc,hroom]
 | some b =>
  have:=hst b rfl
  simp only[Builtin.append_,List.getElem?_toArray,List.getElem?_cons_zero,List.getElem?_cons_succ,Sem.run_bind,Zo ht,Result.andThen_ok,Y6 hs]
  rcases hu with⟨el',hu⟩|hu <;>
   simp[Zo hu,hlen,hfc,hroom,this]
theorem Zcq{t u el ty:TypeId}{i:TypeInfo}{base:Option Addr}{m:Nat}{x zv:Value}{ys:List Value}(ht:P.underlying t=some (.slice el))
 (hu:(∃el',P.underlying u=some (.slice el'))\/P.underlying u=some .string) (hi:P.info? el=some i) (hlen:(Builtin.lenOf x).run P W=.ok m W)
 (hold:(Builtin.firstCells i.size n (.slice base n c)).run P W.drew=.ok (Zv ys).toArray W.drew)
 (hfc:(Builtin.firstCells i.size m x).run P W.drew=.ok (Zv xs).toArray W.drew) (hroom:¬ n+m<=c) (hz:i.zero=some zv) (hby:i.bytes<=4096) (hsm:n+m<4294967296) :
 ∃C,n+m<=C/\(Builtin.append_ #[t,u] ty #[.slice base n c,x]).run P W =
  .ok (.slice (some ⟨W.heap.size,0,none⟩) (n+m) C) (W.drew.alloc (.cells ((Zv ys).toArray++(Zv xs).toArray++Builtin.zeroCells zv.cells (C-(n+m))) el)):=by
 have hs:sz P el=some i.size:=by simp[sz,hi]
 have hzr:∀W:World,(zeroValue el).run P W=.ok zv W:=by intro W;simp[zeroValue,typeInfo,hi,hz]
 let q:=Question.appendCap (n+m) c el
 refine⟨q.cut (W.tape W.drawn q),by simp[q,Question.cut],?_⟩
 have hforced:q.forced=false:=rfl
 have hbig:¬ (Builtin.nextslicecap (n+m) c*i.bytes > 2 ^ 48):=by
  have h1:=ZvJ (n:=n+m) (c:=c) (by omega)
  have h2:=Zsv (b:=i.bytes) (n:=Builtin.nextslicecap (n+m) c) hby (by omega)
  have:(2 ^ 48:Nat)=281474976710656:=by decide
  omega
 have hmax:¬ (((n+m:Nat):Int) > IntKind.i64.max/\(False\/i.bytes=0)):=by
  have:IntKind.i64.max=9223372036854775807:=by decide
  rw[this];omega
 have hchoose:(choose q).run P W=.ok (q.cut (W.tape W.drawn q)) W.drew:=by
  rw[run_choose,hforced];rfl
 have hmax2:¬ ((((n:Int)+m)) > IntKind.i64.max/\i.bytes=0):=by
  have:IntKind.i64.max=9223372036854775807:=by decide
  rw[this];omega
 simp only[Builtin.append_,List.getElem?_toArray,List.getElem?_cons_zero,List.getElem?_cons_succ,Sem.run_bind,Zo ht,Result.andThen_ok,Y6 hs];have hch2:(choose (.appendCap (n+m) c el)).run P W=.ok (q.cut (W.tape W.drawn q)) W.drew:=hchoose
 rcases hu with⟨el',hu⟩|hu <;>
  (simp only[Zo hu,Sem.run_pure,Result.andThen_ok,jB,if_false,hlen,Sem.run_bind,if_neg hroom,ZUz hi,false_or,Bool.not_false,if_true]
   rw[if_neg (by simpa using hmax2)]
   simp only[Sem.run_bind,ZUz hi,Result.andThen_ok];rw[if_neg hbig];simp only[Sem.run_bind,hch2,Result.andThen_ok,ZUz hi,run_askRoom,hold,hfc,hzr,newRow,run_newObj,Sem.run_pure]
   rfl)
theorem ZOG(z:Array Value)(n:Nat):(Builtin.zeroCells z n).size=n*z.size:=by simp[Builtin.zeroCells]
theorem ZoW(hr:Rel W0 B0 st ρ W){bytes:Nat}{s xv:AV}{us ux:Value}(hel:elems st xv=some ys)(h:Q4 st w bytes ys s=some (v,st'))(hs:R (cx st ρ W st.A.length) s us)
 (hx:R (cx st ρ W st.A.length) xv ux) {t u el ty:TypeId} {i:TypeInfo} (ht:P.underlying t=some (.slice el)) (hu:(∃el',P.underlying u=some (.slice el'))\/P.underlying u=some .string)
 (hi:P.info? el=some i) (hsz:i.size=w) (hby:i.bytes=bytes) (hzz:i.zero.map (·.cells.size)=some i.size) :
 ∃x ρ' W',(Builtin.append_ #[t,u] ty #[us,ux]).run P W=.ok x W'/\Goes W0 B0 st ρ W st' ρ' W'/\R (cx st' ρ' W' st'.A.length) v x:=by
 subst hsz;subst hby
 obtain⟨zv,hz,hzs⟩:∃zv,i.zero=some zv/\zv.cells.size=i.size:=by
  cases hzz':i.zero with
  | none=>rw[hzz']at hzz;simp at hzz
  | some zv=>rw[hzz']at hzz;simp only[Option.map_some,Option.some.injEq]at hzz;exact⟨zv,rfl,hzz⟩
 unfold Q4 at h
 split at h
 ·-- a nil slice
  split at h
  ·rename_i hc
   obtain⟨c1,c2,c3⟩:=hc;simp only[Option.bind_eq_some_iff,JO,Option.some.injEq,jP]at h;obtain⟨⟨k,st1⟩,hn1,rfl,rfl⟩:=h;obtain⟨xs,e1,e2,e3,e4⟩:=ZGw (P:=P) hr hel hx c3
   cases hs with
   | nils base =>
    rcases Nat.eq_zero_or_pos ys.length with h0|h0
    ·have hys:ys=[]:=List.length_eq_zero_iff.1 h0
     subst hys
     have:=e3.nil_inv;subst this
     obtain⟨g,hg⟩:=ZjW hr (.of_new hn1) base;have hlen:=g.ev.len
     refine⟨_,_,_,ZW9 (base:=base) (n:=0) (c:=0) (m:=0) (xs:=[]) ht hu hi e1 (e2 W fun _=>rfl) (by omega) (W':=W) (fun b hb=>rfl) (fun _=>rfl),g,.ref (hg _ (by show st.A.length<=st1.A.length;omega))⟩
    ·have grd:=Goes.drew hr
     obtain⟨xs,e1',e2',e3',e4⟩:=ZGw (P:=P) grd.rel hel (hx.mono (grd.ev.le _ (Nat.le_refl _))) c3
     obtain⟨C,hC,hrun⟩:=Zcq (W:=W) (base:=base) (n:=0) (c:=0) (m:=ys.length) (ys:=[]) (xs:=xs) (ty:=ty) ht hu hi e1 (Yv ⟨base,0,rfl⟩) (e2' W.drew fun _=>rfl) (by omega) hz c2 (by omega)
     simp only[Nat.zero_add]at hrun hC
     have hfl:(Zv xs).length=ys.length*i.size:=by rw[Xc e4,<- e3'.1]
     have hcs:C*i.size<=((Zv ([]:List Value)).toArray++(Zv xs).toArray++Builtin.zeroCells zv.cells (C-ys.length)).size:=by
      simp only[Zv,List.flatMap_nil,List.size_toArray,Array.size_append,ZOG,hzs,List.length_nil,Nat.zero_add]
      have:(List.flatMap (fun x=>x.cells.toList) xs).length=ys.length*i.size:=hfl
      rw[this,<- Nat.add_mul]
      exact Nat.mul_le_mul_right _ (by omega)
     have hla:=ZiT e4 (Builtin.zeroCells zv.cells (C-ys.length))
     have heq:((Zv ([]:List Value)).toArray++(Zv xs).toArray++Builtin.zeroCells zv.cells (C-ys.length))=(Zv xs).toArray++Builtin.zeroCells zv.cells (C-ys.length):=by
      simp[Zv]
     rw[heq]at hrun hcs;obtain⟨g,hg⟩:=Zbx (elem:=el) grd.rel (.of_new hn1) e3' e4 hC hcs hla.2;have hlen:=g.ev.len
     exact⟨_,_,_,hrun,grd.trans g,.ref (hg _ (by show st.A.length<=st1.A.length;omega)).1⟩
  ·simp at h
 ·-- nothing is appended to an immutable slice
  split at h
  ·rename_i hemp
   simp only[Option.some.injEq,jP]at h;obtain⟨rfl,rfl⟩:=h
   have hys:ys=[]:=by simpa using hemp
   subst hys;obtain⟨xs,e1,e2,e3,e4⟩:=ZGw (P:=P) (w:=i.size) hr hel hx rfl
   have:=e3.nil_inv;subst this
   obtain⟨base,c,rfl,hc,_⟩:=ZFz hs
   refine⟨_,_,_,ZW9 (base:=base) (c:=c) (m:=0) (xs:=[]) ht hu hi e1 (e2 W fun _=>rfl) (by omega) (W':=W) (fun b hb=>rfl) (fun _=>rfl),.refl hr,?_⟩
   exact hs
  ·simp at h
 ·-- an owned slice
  rename_i lv ix ver s n
  split at h
  ·rename_i hsw
   simp only[Option.bind_eq_some_iff]at h;obtain⟨⟨ys',st1⟩,hm,hk⟩:=h
   cases hs with
   | ref hp =>
    obtain⟨xs,e1,e2,e3,e4⟩:=ZGw (P:=P) hr hel hx hsw;obtain⟨p1,p2,p3,base,c,rfl,p4⟩:=hp
    obtain⟨g1,r2⟩:=Xv (fun st v x v' st'=>ZBW QK (lv+1) st v x v' st') hr (by omega) e3 hm
    have hp1:=(g1.ev.le st.A.length (Nat.le_refl _)).ref lv ix ver s n _ ⟨p1,p2,p3,base,c,rfl,p4⟩;obtain⟨_,_,_,base',c',hbc,k4⟩:=hp1;simp only[Value.slice.injEq,true_and]at hbc;obtain⟨rfl,rfl⟩:=hbc;have r2':RL (cx st1 ρ W lv) ys' xs:=r2
    have hyl:ys'.length=ys.length:=by rw[r2'.1,e3.1]
    have hone:∀z∈Zv xs,z.oneCell'=true:=by
     intro z hz;simp only[Zv,List.mem_flatMap]at hz;obtain⟨y,hy,hzy⟩:=hz;obtain⟨q,hq⟩:=List.getElem?_of_mem hy;have hlt:=Zm hq;rw[<- e3.1]at hlt;exact ((e3.2 q _ y (jE hlt) hq).wide (XN _ _ _ _) (ZCw hsw (List.getElem_mem hlt))).2 z hzy
    unfold Zf4 ZRL at hk
    split at hk
    ·rename_i w' ver' es hg
     split at hk
     ·rename_i hc
      obtain⟨rfl,rfl,hsn,hsmall,hb4⟩:=hc;simp only[Option.bind_eq_some_iff,Option.some.injEq,jP]at hk;obtain⟨st2,hput,rfl,rfl⟩:=hk;obtain⟨q1,q2,q3⟩:=k4 _ es hg
      have hsmall:n+ys.length<4294967296:=by rw[<- hyl];exact hsmall
      have aok:=g1.rel.arr lv ix _ ver es hg
      have hfl:(Zv xs).length=ys.length*i.size:=by rw[Xc e4,<- e3.1]
      have sh:=Sh.of_put hput
      by_cases hroom:n+ys.length<=c
      ·have g2:=Zwz g1.rel hg hsn hput r2' e4 (by omega)
       refine⟨_,_,_,ZW9 (base:=base) (c:=c) (m:=ys.length) (xs:=xs) (W':=W.setCells (ρ lv ix).b ((ρ lv ix).o+(s+n)*i.size) (Zv xs)) ht hu hi e1 (e2 W fun _=>rfl) hroom ?_ ?_,g1.trans g2,?_⟩
       ·intro b hb
        cases hfx:Zv xs with
        | nil=>rfl
        | cons z zs =>
         rw[<- hfx]
         have hpos:0<ys.length*i.size:=by rw[<- hfl,hfx];simp
         have hyp:0<ys.length:=by
          rcases Nat.eq_zero_or_pos ys.length with h0|h0
          ·rw[h0]at hpos;simp at hpos
          ·exact h0
         have hbase:=q3 (by omega)
         rw[hb]at hbase;simp only[Option.some.injEq]at hbase;subst hbase;rw[ZA9]
         have hmul:(s+n)*i.size+ys.length*i.size<=(ρ lv ix).c*i.size:=by rw[<- Nat.add_mul];exact Nat.mul_le_mul_right _ (by omega)
         have hoff:(ρ lv ix).o+s*i.size+n*i.size=(ρ lv ix).o+(s+n)*i.size:=by rw[Nat.add_mul];omega
         rw[hoff]
         have:=run_storeCells_cells (P:=P) (ρ lv ix).b ((ρ lv ix).o+(s+n)*i.size) (Zv xs) 0 W (fun j hj=>by
          have:=(aok.mem ((s+n)*i.size+j) (by omega)).2.1
          rwa [show (ρ lv ix).o+((s+n)*i.size+j)=(ρ lv ix).o+(s+n)*i.size+0+j by omega]at this) (fun j hj=>by
          have:=(aok.mem ((s+n)*i.size+j) (by omega)).2.2
          rwa [show (ρ lv ix).o+((s+n)*i.size+j)=(ρ lv ix).o+(s+n)*i.size+0+j by omega]at this) hone
         simpa using this
       ·intro hb
        have hsc:¬ s<(ρ lv ix).c:=fun h=>by have:=q3 h;rw[hb]at this;simp at this
        have hyz:ys.length=0:=by omega
        have:Zv xs=[]:=List.length_eq_zero_iff.1 (by rw[hfl,hyz];simp)
        rw[this];rfl
       ·have hlen2:st2.A.length=st.A.length:=(g1.trans g2).ev.len
        refine .ref ⟨by omega,by rw[sh.get0];rfl,?_,base,c,by rw[hyl],?_⟩
        ·intro w2 u2 es2 hg2
         rw[sh.get0]at hg2;simp only[Option.some.injEq,Blk.arr.injEq]at hg2;omega
        ·intro w2 es2 hg2
         rw[sh.get0]at hg2;simp only[Option.some.injEq,Blk.arr.injEq]at hg2;obtain⟨rfl,_,rfl⟩:=hg2;rw[upd_same]
         refine⟨by simp;omega,by simp only;omega,fun hpos=>?_⟩
         simp only at hpos
         rw[q3 (by omega)];simp
      ·have grd:=Goes.drew g1.rel
       have hold:(Builtin.firstCells i.size n (.slice base n c)).run P W.drew=.ok (Zv ((aok.vals.choose.drop s).take n)).toArray W.drew:=by
        have hv:=aok.vals.choose_spec
        rcases Nat.eq_zero_or_pos n with h0|h0
        ·subst h0
         simp only[List.take_zero,Zv,List.flatMap_nil];exact Yv ⟨base,c,rfl⟩
        ·have hal:=aok.len
         have hb:=q3 (by omega)
         subst hb
         refine ZBr (bb:=(ρ lv ix).b) (oo:=(ρ lv ix).o+s*i.size) (by have:=hv.1.1;simp only[List.length_take,List.length_drop];omega) ?_ (fun _=>rfl) ?_
         ·intro y hy
          obtain⟨q,hq⟩:=List.getElem?_of_mem hy;rw[List.getElem?_take]at hq
          split at hq
          ·rw[List.getElem?_drop]at hq;exact (hv.2 _ _ hq).1
          ·simp at hq
         ·intro q y hq
          rw[List.getElem?_take]at hq
          split at hq
          ·rw[List.getElem?_drop]at hq
           rw[show (ρ lv ix).o+s*i.size+q*i.size=(ρ lv ix).o+(s+q)*i.size by rw[Nat.add_mul];omega]
           exact (hv.2 _ _ hq).2
          ·simp at hq
       have hv:=aok.vals.choose_spec;generalize aok.vals.choose=xs0 at hold hv
       have hfc':(Builtin.firstCells i.size ys.length ux).run P W.drew=.ok (Zv xs).toArray W.drew:=by
        exact e2 W.drew (fun _=>rfl)
       obtain⟨C,hC,hrun⟩:=Zcq (W:=W) (base:=base) (ys:=(xs0.drop s).take n) (xs:=xs) (ty:=ty) ht hu hi e1 hold hfc' hroom hz hb4 (by omega)
       have hsz0:∀x∈(xs0.drop s).take n++xs,x.cells.size=i.size:=by
        intro y hy
        rcases List.mem_append.1 hy with hy|hy
        ·obtain⟨q,hq⟩:=List.getElem?_of_mem hy
         rw[List.getElem?_take]at hq
         split at hq
         ·rw[List.getElem?_drop]at hq;exact (hv.2 _ _ hq).1
         ·simp at hq
        ·exact e4 y hy
       have hrl:RL (cx st1 ρ W.drew lv) ((es.drop s).take n++ys') ((xs0.drop s).take n++xs):=((hv.1.drop s).take n).append r2'
       have hll:((es.drop s).take n++ys').length=n+ys.length:=by simp only[List.length_append,List.length_take,List.length_drop];omega
       have heq:(Zv ((xs0.drop s).take n)).toArray++(Zv xs).toArray++Builtin.zeroCells zv.cells (C-(n+ys.length))=(Zv ((xs0.drop s).take n++xs)).toArray++Builtin.zeroCells zv.cells (C-(n+ys.length)):=by
        rw[Zjm];simp
       rw[heq]at hrun
       have hcs:C*i.size<=((Zv ((xs0.drop s).take n++xs)).toArray++Builtin.zeroCells zv.cells (C-(n+ys.length))).size:=by
        rw[Array.size_append,ZOG,hzs,List.size_toArray,Xc hsz0,<- hrl.1,hll,<- Nat.add_mul]
        exact Nat.mul_le_mul_right _ (by omega)
       have g2:=Zun (elem:=el) grd.rel hg hput hrl hsz0 (by omega) hcs (ZiT hsz0 _).2
       refine⟨_,_,_,hrun,(g1.trans grd).trans g2,?_⟩;have hlen2:st2.A.length=st.A.length:=((g1.trans grd).trans g2).ev.len
       refine .ref ⟨by omega,by rw[sh.get0];rfl,?_,_,_,by rw[hyl],?_⟩
       ·intro w2 u2 es2 hg2
        rw[sh.get0]at hg2;simp only[Option.some.injEq,Blk.arr.injEq]at hg2;omega
       ·intro w2 es2 hg2
        rw[sh.get0]at hg2;simp only[Option.some.injEq,Blk.arr.injEq]at hg2;obtain⟨rfl,_,rfl⟩:=hg2;rw[upd_same]
        refine⟨by rw[hll];omega,by simp,fun hpos=>by simp⟩
     ·simp at hk
    ·simp at hk
  ·simp at h
 ·simp at h
theorem ZvM(hr:Rel W0 B0 st ρ W){d xv:AV}{ud ux:Value}(hel:elems st xv=some ys)(h:Zn7 st w ys d=some (v,st'))(hd:R (cx st ρ W st.A.length) d ud)
 (hx:R (cx st ρ W st.A.length) xv ux) {t u el ty:TypeId} (ht:P.underlying t=some (.slice el)) (hs:sz P el=some w) (hw0:w≠0) :
 ∃x ρ' W',(Builtin.copy_ #[t,u] ty #[ud,ux]).run P W=.ok x W'/\Goes W0 B0 st ρ W st' ρ' W'/\R (cx st' ρ' W' st'.A.length) v x:=by
 unfold Zn7 at h
 split at h
 ·rename_i lv ix ver s n
  split at h
  ·rename_i hsw
   simp only[Option.bind_eq_some_iff]at h;obtain⟨⟨ys',st1⟩,hm,hk⟩:=h
   cases hd with
   | ref hp =>
    obtain⟨xs,e1,e2,e3,e4⟩:=ZGw (P:=P) hr hel hx hsw;obtain⟨p1,p2,p3,base,c,rfl,p4⟩:=hp
    obtain⟨g1,r2⟩:=Xv (fun st v x v' st'=>ZBW QK (lv+1) st v x v' st') hr (by omega) e3 hm
    have hp1:=(g1.ev.le st.A.length (Nat.le_refl _)).ref lv ix ver s n _ ⟨p1,p2,p3,base,c,rfl,p4⟩;obtain⟨_,_,_,base',c',hbc,k4⟩:=hp1;simp only[Value.slice.injEq,true_and]at hbc;obtain⟨rfl,rfl⟩:=hbc;have r2':RL (cx st1 ρ W lv) ys' xs:=r2
    have hyl:ys'.length=ys.length:=by rw[r2'.1,e3.1]
    have hone:∀z∈Zv xs,z.oneCell'=true:=by
     intro z hz;simp only[Zv,List.mem_flatMap]at hz;obtain⟨y,hy,hzy⟩:=hz;obtain⟨q,hq⟩:=List.getElem?_of_mem hy;have hlt:=Zm hq;rw[<- e3.1]at hlt;exact ((e3.2 q _ y (jE hlt) hq).wide (XN _ _ _ _) (ZCw hsw (List.getElem_mem hlt))).2 z hzy
    unfold ZjN at hk
    split at hk
    ·rename_i w' ver' es hg
     split at hk
     ·rename_i hc
      obtain⟨rfl,rfl,hsn,hle0⟩:=hc
      have hle:ys.length<=n:=by rw[<- hyl];exact hle0
      simp only[Option.bind_eq_some_iff,Option.some.injEq,jP]at hk;obtain⟨st2,hput,rfl,rfl⟩:=hk;obtain⟨q1,q2,q3⟩:=k4 _ es hg;have aok:=g1.rel.arr lv ix _ ver es hg
      have hfl:(Zv xs).length=ys.length*w:=by rw[Xc e4,<- e3.1]
      have g2:=Zum g1.rel hg (by omega) hput r2' e4
      have hcells:=e2 W fun _=>rfl
      have hmin:Nat.min ys.length n=ys.length:=Nat.min_eq_left (by omega)
      refine⟨goInt ys.length,_,_,?_,g1.trans g2,by rw[hyl];exact .int _ _⟩
      have hst:∀b,base=some b->(storeCells b (Zv xs)).run P W=.ok () (W.setCells (ρ lv ix).b ((ρ lv ix).o+s*w) (Zv xs)):=by
       intro b hb
       cases hfx:Zv xs with
       | nil=>rfl
       | cons z zs =>
        rw[<- hfx]
        have hpos:0<ys.length*w:=by rw[<- hfl,hfx];simp
        have hyp:0<ys.length:=by
         rcases Nat.eq_zero_or_pos ys.length with h0|h0
         ·rw[h0]at hpos;simp at hpos
         ·exact h0
        have hlen:=aok.len
        have hbase:=q3 (by omega)
        rw[hb]at hbase;simp only[Option.some.injEq]at hbase;subst hbase
        have hmul:s*w+ys.length*w<=(ρ lv ix).c*w:=by rw[<- Nat.add_mul];exact Nat.mul_le_mul_right _ (by omega)
        have:=run_storeCells_cells (P:=P) (ρ lv ix).b ((ρ lv ix).o+s*w) (Zv xs) 0 W (fun j hj=>by
         have:=(aok.mem (s*w+j) (by omega)).2.1
         rwa [show (ρ lv ix).o+(s*w+j)=(ρ lv ix).o+s*w+0+j by omega]at this) (fun j hj=>by
         have:=(aok.mem (s*w+j) (by omega)).2.2
         rwa [show (ρ lv ix).o+(s*w+j)=(ρ lv ix).o+s*w+0+j by omega]at this) hone
        simpa using this
      have hnone:base=none->Zv xs=[]:=by
       intro hb
       have hsc:¬ s<(ρ lv ix).c:=fun h=>by have:=q3 h;rw[hb]at this;simp at this
       have hlen:=aok.len
       have hyz:ys.length=0:=by omega
       exact List.length_eq_zero_iff.1 (by rw[hfl,hyz];simp)
      simp only[Builtin.copy_,List.getElem?_toArray,List.getElem?_cons_zero,List.getElem?_cons_succ,Sem.run_bind,Zo ht,Result.andThen_ok,e1,hmin,Y6 hs,hcells]
      cases base with
      | none =>
       rw[hnone rfl];rfl
      | some b =>
       simp only[Sem.run_bind,hst b rfl,Result.andThen_ok,Sem.run_pure]
     ·simp at hk
    ·simp at hk
  ·simp at h
 ·simp at h
end
section
variable {P:Program}{W0:World}{B0:Bse}{st st':St}{ρ:Rho}{W:World}{e:Env}{a:Act}
def EntR(C:Cx)(es:List (AV × AV))(en:List MapEntry):Prop :=
 es.length=en.length/\∀(i:Nat) (k v:AV) (x:MapEntry),es[i]?=some (k,v)->en[i]?=some x->Zlj k=true/\R C k x.key/\R C v x.val
theorem EntR.tail{C:Cx}{p:AV × AV}{es:List (AV × AV)}{x:MapEntry}{en:List MapEntry}(h:EntR C (p::es) (x::en)):EntR C es en :=
 ⟨by have:=h.1;simpa using this,fun i k v y hk hy=>h.2 (i+1) k v y (by simpa using hk) (by simpa using hy)⟩
theorem MapOk.ent{B0:Bse}{C:Cx}{l:Loc}{es:List (AV × AV)}(h:MapOk B0 C W l es):∃en clock,W.heap[l.b]?=some (.map en clock)/\EntR C es en.toList/\MapFit en clock es.length:=by
 obtain⟨_,en,clock,h1,h2,h3⟩:=h
 refine⟨en,clock,h1,⟨by simp[h2.sz],fun i k v x hk hx=>?_⟩,h2⟩
 obtain⟨q1,y,q2,q3,q4⟩:=h3 i k v hk;rw[Array.getElem?_toList,q2]at hx;simp only[Option.some.injEq]at hx;subst hx;exact⟨q1,q3,q4⟩
def Zp8(kk:Nat)(d:TypeDesc):Prop:=(kk=0/\∃k,d=.int k)\/(kk=1/\d=.string)\/(kk=2/\d=.bool)
theorem Zjn{t:TypeId}(h:Zlu P t=some kk):∃d,P.underlying t=some d/\Zp8 kk d:=by
 unfold Zlu at h
 split at h<;>simp only[Option.some.injEq,reduceCtorEq]at h<;>subst h
 ·rename_i k hk;exact⟨_,hk,.inl ⟨rfl,k,rfl⟩⟩
 ·rename_i hk;exact⟨_,hk,.inr (.inl ⟨rfl,rfl⟩)⟩
 ·rename_i hk;exact⟨_,hk,.inr (.inr ⟨rfl,rfl⟩)⟩
theorem ZoX{d:TypeDesc}(hd:Zp8 kk d){k':AV}{b:Bool}(hk:XK kk k=true)(h:Zli k k'=some b){C:Cx}{x y:Value}(hx:R C k x)(hy:R C k' y):
 Instr.sameNow d x y=some b/\(b=true->x=y):=by
 unfold Zli at h
 split at h
 ·have:=Ye hx;subst this
  have:=Ye hy;subst this
  split at h
  ·rename_i hkk;subst hkk
   simp only[Option.some.injEq]at h;subst h
   rcases hd with⟨rfl,k0,rfl⟩|⟨rfl,rfl⟩|⟨rfl,rfl⟩
   ·exact⟨by simp[Instr.sameNow],by simp⟩
   ·simp[XK]at hk
   ·simp[XK]at hk
  ·simp at h
 ·have:=Yf hx;subst this
  have:=Yf hy;subst this
  simp only[Option.some.injEq]at h;subst h
  rcases hd with⟨rfl,k0,rfl⟩|⟨rfl,rfl⟩|⟨rfl,rfl⟩
  ·simp[XK]at hk
  ·refine⟨?_,by simp⟩
   simp only[Instr.sameNow,beq_toListBytes,JP]
  ·simp[XK]at hk
 ·have:=Yg hx;subst this
  have:=Yg hy;subst this
  simp only[Option.some.injEq]at h;subst h
  rcases hd with⟨rfl,k0,rfl⟩|⟨rfl,rfl⟩|⟨rfl,rfl⟩
  ·simp[XK]at hk
  ·simp[XK]at hk
  ·exact⟨by simp[Instr.sameNow],by simp⟩
 ·simp at h
theorem ZU6{kk:Nat}{d:TypeDesc}(hd:Zp8 kk d){k:AV}(hk:XK kk k=true){C:Cx}{kx:Value}(hkx:R C k kx):
 ∀ {es:List (AV × AV)} {en:List MapEntry} (i0:Nat) {r:Option AV},EntR C es en->ZBV k es=some r ->
  (∀v,r=some v->∃idx k0 x,es[idx]?=some (k0,v)/\en[idx]?=some x/\x.key=kx/\Instr.findNow d kx en i0=some (some (i0+idx,x.val))/\(∀u,ZOA k u es=some (es.set idx (k,u)))/\ZjL k es=some (es.eraseIdx idx)) /\
  (r=none->Instr.findNow d kx en i0=some none/\(∀u,ZOA k u es=some (es++[(k,u)]))/\ZjL k es=some es)
 | [],en,i0,r,he,h=>by
  simp only[ZBV,Option.some.injEq]at h;subst h
  have:en=[]:=by have:=he.1;simp at this;exact List.length_eq_zero_iff.1 this.symm
  subst this
  exact⟨fun v h=>by simp at h,fun _=>⟨rfl,fun u=>rfl,rfl⟩⟩
 | (k',v')::es,en,i0,r,he,h=>by
  cases en with
  | nil=>have:=he.1;simp at this
  | cons x en =>
   obtain⟨h1,h2,h3⟩:=he.2 0 k' v' x rfl rfl;simp only[ZBV,Option.bind_eq_some_iff]at h;obtain⟨b,hb,h⟩:=h;obtain⟨s1,s2⟩:=ZoX hd hk hb hkx h2
   cases b with
   | true =>
    simp only[if_true,Option.some.injEq]at h;subst h
    refine⟨fun v hv=>?_,fun hn=>by simp at hn⟩
    simp only[Option.some.injEq]at hv;subst hv
    exact⟨0,k',x,rfl,rfl,(s2 Y).symm,by simp[Instr.findNow,s1],fun u=>by simp[ZOA,hb],by simp[ZjL,hb]⟩
   | false =>
    simp only[jB,if_false]at h;obtain⟨q1,q2⟩:=ZU6 hd hk hkx (i0+1) he.tail h
    refine⟨fun v hv=>?_,fun hn=>?_⟩
    ·obtain⟨idx,k0,y,e1,e2,e3,e4,e5,e6⟩:=q1 v hv
     exact⟨idx+1,k0,y,by simpa using e1,by simpa using e2,e3,by simp only[Instr.findNow,s1,e4];congr 3;omega,fun u=>by simp[ZOA,hb,e5],by simp[ZjL,hb,e6]⟩
    ·obtain⟨e4,e5,e6⟩:=q2 hn
     exact⟨by simp[Instr.findNow,s1,e4],fun u=>by simp[ZOA,hb,e5],by simp[ZjL,hb,e6]⟩
theorem ZZB{k u:AV}:∀ {es es':List (AV × AV)},ZOA k u es=some es'->∃r,ZBV k es=some r
 | [],_,_=>⟨none,rfl⟩
 | e::es,es',h=>by
  simp only[ZOA,Option.bind_eq_some_iff]at h;obtain⟨b,hb,h⟩:=h
  cases b with
  | true=>exact⟨some e.2,by simp[ZBV,hb]⟩
  | false =>
   simp only[jB,if_false,Option.map_eq_some_iff]at h;obtain⟨l,hl,_⟩:=h;obtain⟨r,hr⟩:=ZZB hl
   exact⟨r,by simp[ZBV,hb,hr]⟩
theorem ZZC{k:AV}:∀ {es es':List (AV × AV)},ZjL k es=some es'->∃r,ZBV k es=some r
 | [],_,_=>⟨none,rfl⟩
 | e::es,es',h=>by
  simp only[ZjL,Option.bind_eq_some_iff]at h;obtain⟨b,hb,h⟩:=h
  cases b with
  | true=>exact⟨some e.2,by simp[ZBV,hb]⟩
  | false =>
   simp only[jB,if_false,Option.map_eq_some_iff]at h;obtain⟨l,hl,_⟩:=h;obtain⟨r,hr⟩:=ZZC hl
   exact⟨r,by simp[ZBV,hb,hr]⟩
theorem ZOH{t:TypeId}{d:TypeDesc}(hu:P.underlying t=some d)(hd:Zp8 kk d)(emp:Bool)(n:Nat)(v:Value):(Instr.checkKey emp (n+1) t v).run P W=.ok () W:=by
 rcases hd with⟨rfl,k0,rfl⟩|⟨rfl,rfl⟩|⟨rfl,rfl⟩<;>simp[Instr.checkKey,Zo hu]
theorem ZBD{t:TypeId}{d:TypeDesc}(hu:P.underlying t=some d){kx:Value}{en:List MapEntry}{r:Option (Nat × Value)}(h:Instr.findNow d kx en 0=some r):(Instr.findKey t kx en).run P W=.ok r W:=by
 simp[Instr.findKey,Zo hu,h]
theorem ZZD(h:XK kk k=true):Zlj k=true:=by
 cases k<;>first|rfl|(unfold XK at h;split at h<;>simp_all)
theorem ZDD{r:Nat}{en:Array MapEntry}{clock:Nat}(h:W.heap[r]?=some (.map en clock)):(getObj r).run P W=.ok (.map en clock) W:=by
 simp[getObj,Sem.run,h]
theorem ZIa{r:Nat}{en:Array MapEntry}{clock:Nat}(h:W.heap[r]?=some (.map en clock))(o:Obj):(setObj r o).run P W=.ok () { W with heap:=W.heap.setIfInBounds r o }:=by
 simp[setObj,Sem.run,h]
theorem Zcr{b:Option Blk}{es:List (AV × AV)}(h:ZZZ b=some es):b=some (.map es):=by
 unfold ZZZ at h
 split at h
 ·simp only[Option.some.injEq]at h;subst h;rfl
 ·simp at h
theorem Zsy(hr:Rel W0 B0 st ρ W){m:AV}{ok:Bool}(h:lookV st kk z ok k m=some v){kx mx:Value}(hk:R (cx st ρ W st.A.length) k kx)(hm:R (cx st ρ W st.A.length) m mx)
 {t key el:TypeId} (ht:P.underlying t=some (.map key el)) (hkk:Zlu P key=some kk) (hz:ZC9 P el=some z) :
 ∃x,(Instr.lookup t mx kx ok).run P W=.ok x W/\R (cx st ρ W st.A.length) v x:=by
 obtain⟨d,hu,hd⟩:=Zjn hkk;obtain⟨zv,hzr,hzc,_⟩:=ZGu (W:=W) hz;simp only[lookV,Option.bind_eq_some_iff]at h;obtain⟨es,hes,h⟩:=h
 split at h
 ·rename_i hki
  simp only[Option.map_eq_some_iff]at h;obtain⟨r,hfind,rfl⟩:=h
  have hent:∃en:Array MapEntry,EntR (cx st ρ W st.A.length) es en.toList/\((mx=.map none/\en=#[])\/∃r clock,mx=.map (some r)/\W.heap[r]?=some (.map en clock)):=by
   unfold Zlm at hes
   split at hes
   ·simp only[Option.some.injEq]at hes;subst hes
    cases hm with
    | nilmap=>exact⟨#[],⟨rfl,by simp⟩,.inl ⟨rfl,rfl⟩⟩
   ·rename_i lv ix
    have hg:=Zcr hes
    cases hm with
    | map hp =>
     obtain⟨p1,p2,r,rfl,p3⟩:=hp
     have:=p3 es hg;subst this
     obtain⟨en,clock,h1,h2,hf⟩:=(hr.map lv ix es hg).ent
     refine⟨en,⟨h2.1,fun i k v x a b=>?_⟩,.inr ⟨_,clock,rfl,h1⟩⟩
     obtain⟨q1,q2,q3⟩:=h2.2 i k v x a b;exact⟨q1,q2.mono (Zcd p1),q3.mono (Zcd p1)⟩
   ·simp at hes
  obtain⟨en,hER,hmx⟩:=hent;obtain⟨f1,f2⟩:=ZU6 hd hki hk 0 hER hfind
  have hfk:(∃w,r=some w/\∃x,(Instr.findKey key kx en.toList).run P W=.ok (some x) W/\R (cx st ρ W st.A.length) w x.2)\/(r=none/\(Instr.findKey key kx en.toList).run P W=.ok none W):=by
   cases r with
   | none=>exact .inr ⟨rfl,ZBD hu (f2 Y).1⟩
   | some w =>
    obtain⟨idx,k0,x,e1,e2,e3,e4,_⟩:=f1 w rfl;exact .inl ⟨w,rfl,_,ZBD hu e4,(hER.2 idx k0 w x e1 e2).2.2⟩
  have hck:=ZOH (P:=P) (W:=W) hu hd en.isEmpty 9999 kx
  have hrun:∀q,(Instr.findKey key kx en.toList).run P W=.ok q W->(Instr.lookup t mx kx ok).run P W =
   .ok (if ok=true then .tuple #[(match q with|some x=>x.2|none=>zv),.bool q.isSome] else (match q with|some x=>x.2|none=>zv)) W:=by
   intro q hq
   rcases hmx with⟨rfl,rfl⟩|⟨r',clock,rfl,hob⟩
   ·simp only[Instr.lookup,Sem.run_bind,Zo ht,Result.andThen_ok,Sem.run_pure,hck,hq]
    cases q<;>simp[hzr]
   ·simp only[Instr.lookup,Sem.run_bind,Zo ht,Result.andThen_ok,Sem.run_pure,ZDD hob,hck,hq]
    cases q<;>simp[hzr]
  rcases hfk with⟨w,rfl,x,hx,hrx⟩|⟨rfl,hx⟩
  ·refine⟨_,hrun _ hx,?_⟩
   simp only[ZiG,Option.isSome_some]
   split
   ·exact .tup' (.cons hrx (.cons (.bool _) (.nil _)))
   ·exact hrx
  ·refine⟨_,hrun _ hx,?_⟩
   simp only[ZiG,Option.isSome_none]
   split
   ·exact .tup' (.cons (hzc _) (.cons (.bool _) (.nil _)))
   ·exact hzc _
 ·simp at h
theorem ZmN(hk:XK kk k=true){C:Cx}{x:Value}(hx:R C k x)(n:Nat):Instr.sameBits n x x=true:=by
 unfold XK at hk
 split at hk
 ·have:=Ye hx;subst this;simp[Instr.sameBits]
 ·have:=Yf hx;subst this;simp only[Instr.sameBits,beq_toListBytes,JP];simp
 ·have:=Yg hx;subst this;simp[Instr.sameBits]
 ·simp at hk
theorem ZmO(hr:Rel W0 B0 st ρ W){m:AV}(h:ZY4 st kk k v m=some st'){kx vx mx:Value}(hk:R (cx st ρ W st.A.length) k kx)(hv:R (cx st ρ W st.A.length) v vx)(hm:R (cx st ρ W st.A.length) m mx)
 {t key el:TypeId} (ht:P.underlying t=some (.map key el)) (hkk:Zlu P key=some kk) :
 ∃W',(Instr.mapUpdate t mx kx vx).run P W=.ok () W'/\Goes W0 B0 st ρ W st' ρ W':=by
 obtain⟨d,hu,hd⟩:=Zjn hkk;unfold ZY4 at h
 split at h
 ·rename_i lv ix
  split at h
  ·rename_i hki
   simp only[Option.bind_eq_some_iff]at h;obtain⟨⟨v',st1⟩,hseal,h⟩:=h
   cases hm with
   | map hp =>
    have hp':=hp;obtain⟨p1,p2,r,rfl,p3⟩:=hp
    obtain⟨g1,r1⟩:=ZBW QK (lv+1) st v vx v' st1 hr (by omega) hv hseal
    have r1':R (cx st1 ρ W lv) v' vx:=r1;obtain⟨_,_,r',hrr,p3'⟩:=(g1.ev.le st.A.length (Nat.le_refl _)).map lv ix _ hp';simp only[Value.map.injEq,Option.some.injEq]at hrr;subst hrr;simp only[ZcI,Option.bind_eq_some_iff]at h;obtain⟨es,hes,es',hput,hst⟩:=h;have hg:=Zcr hes
    have:=p3' es hg;subst this
    obtain⟨en,clock,h1,h2,hf⟩:=(g1.rel.map lv ix es hg).ent
    have hk':R (cx st1 ρ W lv) k kx:=by
     unfold XK at hki
     split at hki
     ·rw[Ye hk];exact .int _ _
     ·rw[Yf hk];exact .str _
     ·rw[Yg hk];exact .bool _
     ·simp at hki
    obtain⟨rr,hfind⟩:=ZZB hput;obtain⟨f1,f2⟩:=ZU6 hd hki hk' 0 h2 hfind;have hck:=ZOH (P:=P) (W:=W) hu hd false 9999 kx
    cases rr with
    | none =>
     obtain⟨e4,e5,_⟩:=f2 rfl;rw[e5]at hput;simp only[Option.some.injEq]at hput;subst hput
     refine⟨{ W with heap:=W.heap.setIfInBounds (ρ lv ix).b (.map (en.push { key:=kx,val:=vx,born:=clock }) (clock+1)) },?_,g1.trans (ZQ3 g1.rel hg hst (by have:=hf.push kx vx;simpa using this) ?_)⟩
     ·simp only[Instr.mapUpdate,Sem.run_bind,Zo ht,Result.andThen_ok,ZDD h1,hck,ZBD hu e4,ZIa h1]
     ·intro i k0 v0 hkv
      by_cases hi:i<es.length
      ·rw[jL hi]at hkv
       have hi':i<en.size:=by have:=h2.1;simp at this;omega
       have hx:en.toList[i]?=some en[i]:=by simp[hi']
       obtain⟨q1,q2,q3⟩:=h2.2 i k0 v0 _ hkv hx
       exact⟨q1,en[i],by rw[Array.getElem?_push_lt hi'],q2,q3⟩
      ·have hlt:=Zm hkv
       simp at hlt
       have:i=es.length:=by omega
       subst this
       simp at hkv
       obtain⟨rfl,rfl⟩:=hkv
       have:es.length=en.size:=by have:=h2.1;simpa using this
       rw[this];exact⟨ZZD hki,_,Array.getElem?_push_size,hk',r1'⟩
    | some w =>
     obtain⟨idx,k0,x,e1,e2,e3,e4,e5,_⟩:=f1 w rfl;rw[e5]at hput;simp only[Option.some.injEq]at hput;subst hput;have hidx:=Zm e2
     have hx:en[idx]?=some x:=by simpa using e2
     have hsb:=ZmN hki hk' 10000
     have hkts:(Instr.keyThatStays (((en[idx]?).map (·.key)).getD kx) kx).run P W=.ok kx W:=by
      simp[Instr.keyThatStays,hx,e3,hsb]
     refine⟨{ W with heap:=W.heap.setIfInBounds (ρ lv ix).b (.map (en.modify idx fun e=>{ e with key:=kx,val:=vx }) clock) },?_,g1.trans (ZQ3 g1.rel hg hst (by have:=hf.modify idx kx vx;simpa using this) ?_)⟩
     ·simp only[Nat.zero_add]at e4
      simp only[Instr.mapUpdate,Sem.run_bind,Zo ht,Result.andThen_ok,ZDD h1,hck,ZBD hu e4,hkts,ZIa h1]
     ·intro i k1 v1 hkv
      rw[List.getElem?_set]at hkv;rw[Array.getElem?_modify]
      by_cases hii:idx=i
      ·subst hii
       rw[if_pos rfl]at hkv
       split at hkv
       ·simp only[Option.some.injEq,jP]at hkv
        obtain⟨rfl,rfl⟩:=hkv;rw[if_pos rfl,hx];exact⟨ZZD hki,_,rfl,hk',r1'⟩
       ·simp at hkv
      ·rw[if_neg hii]at hkv
       rw[if_neg hii];have hi:=Zm hkv
       have hi':i<en.size:=by have:=h2.1;simp at this;omega
       have hy:en.toList[i]?=some en[i]:=by simp[hi']
       obtain⟨q1,q2,q3⟩:=h2.2 i k1 v1 _ hkv hy;exact⟨q1,en[i],Array.getElem?_eq_getElem hi',q2,q3⟩
  ·simp at h
 ·simp at h
theorem Zsz(hr:Rel W0 B0 st ρ W){m:AV}(h:ZcJ st kk k m=some st'){kx mx:Value}(hk:R (cx st ρ W st.A.length) k kx)(hm:R (cx st ρ W st.A.length) m mx)
 {t key el u ty:TypeId} (ht:P.underlying t=some (.map key el)) (hkk:Zlu P key=some kk) :
 ∃W',(Builtin.delete_ #[t,u] ty #[mx,kx]).run P W=.ok (.tuple #[]) W'/\Goes W0 B0 st ρ W st' ρ W':=by
 obtain⟨d,hu,hd⟩:=Zjn hkk;unfold ZcJ at h
 split at h
 ·rename_i lv ix
  split at h
  ·rename_i hki
   simp only[Option.bind_eq_some_iff]at h;obtain⟨es,hes,es',hdel,hst⟩:=h
   cases hm with
   | map hp =>
    obtain⟨p1,p2,r,rfl,p3⟩:=hp;have hg:=Zcr hes
    have:=p3 es hg;subst this
    obtain⟨en,clock,h1,h2,hf⟩:=(hr.map lv ix es hg).ent
    have hk':R (cx st ρ W lv) k kx:=by
     unfold XK at hki
     split at hki
     ·rw[Ye hk];exact .int _ _
     ·rw[Yf hk];exact .str _
     ·rw[Yg hk];exact .bool _
     ·simp at hki
    obtain⟨rr,hfind⟩:=ZZC hdel;obtain⟨f1,f2⟩:=ZU6 hd hki hk' 0 h2 hfind;have hck:=ZOH (P:=P) (W:=W) hu hd en.isEmpty 9999 kx
    cases rr with
    | none =>
     obtain⟨e4,_,e6⟩:=f2 rfl;rw[e6]at hdel;simp only[Option.some.injEq]at hdel;subst hdel;refine⟨{ W with heap:=W.heap.setIfInBounds (ρ lv ix).b (.map en clock) },?_,ZQ3 hr hg hst hf ?_⟩
     ·simp only[Builtin.delete_,List.getElem?_toArray,List.getElem?_cons_zero,List.getElem?_cons_succ,Sem.run_bind,Zo ht,Result.andThen_ok,ZDD h1,hck,ZBD hu e4,ZIa h1,Sem.run_pure]
     ·intro i k1 v1 hkv
      have hi:=Zm hkv
      have hi':i<en.size:=by have:=h2.1;simp at this;omega
      have hy:en.toList[i]?=some en[i]:=by simp[hi']
      obtain⟨q1,q2,q3⟩:=h2.2 i k1 v1 _ hkv hy;exact⟨q1,en[i],Array.getElem?_eq_getElem hi',q2,q3⟩
    | some w =>
     obtain⟨idx,k0,x,e1,e2,e3,e4,_,e6⟩:=f1 w rfl;rw[e6]at hdel;simp only[Option.some.injEq]at hdel;subst hdel;have hidx:=Zm e2
     have hidx':idx<en.size:=by simpa using hidx
     have hel:(en.eraseIdxIfInBounds idx).toList=en.toList.eraseIdx idx:=by
      unfold Array.eraseIdxIfInBounds;rw[dif_pos hidx']
      simp
     refine⟨{ W with heap:=W.heap.setIfInBounds (ρ lv ix).b (.map (en.eraseIdxIfInBounds idx) clock) },?_,ZQ3 hr hg hst ?_ ?_⟩
     ·simp only[Nat.zero_add]at e4
      simp only[Builtin.delete_,List.getElem?_toArray,List.getElem?_cons_zero,List.getElem?_cons_succ,Sem.run_bind,Zo ht,Result.andThen_ok,ZDD h1,hck,ZBD hu e4,ZIa h1,Sem.run_pure]
     ·exact hf.erase hel (by rw[<- Array.length_toList,hel,List.length_eraseIdx,List.length_eraseIdx,h2.1])
     ·intro i k1 v1 hkv
      rw[List.getElem?_eraseIdx]at hkv
      have hgo:∀j:Nat,es[j]?=some (k1,v1)->Zlj k1=true/\∃y:MapEntry,en.toList[j]?=some y/\R (cx st ρ W lv) k1 y.key/\R (cx st ρ W lv) v1 y.val:=by
       intro j hj;have hlt:=Zm hj
       have hlt':j<en.toList.length:=by rw[<- h2.1];exact hlt
       obtain⟨q1,q2,q3⟩:=h2.2 j k1 v1 _ hj (jE hlt');exact⟨q1,_,jE hlt',q2,q3⟩
      have:(en.eraseIdxIfInBounds idx)[i]?=if i<idx then en.toList[i]? else en.toList[i+1]?:=by
       rw[<- Array.getElem?_toList,hel,List.getElem?_eraseIdx]
      split at hkv
      ·rename_i hlt
       obtain⟨q1,y,q2,q3⟩:=hgo i hkv
       exact⟨q1,y,by rw[this,if_pos hlt];exact q2,q3⟩
      ·rename_i hlt
       obtain⟨q1,y,q2,q3⟩:=hgo (i+1) hkv
       exact⟨q1,y,by rw[this,if_neg hlt];exact q2,q3⟩
  ·simp at h
 ·simp at h
end
section
variable {P:Program}{W:World}
theorem eqCells_append{xs ys:LV}:∀ {l m:List (Nat × Nat)} {b:Bool},Jo xs ys (l++m)=some b->(Jo xs ys l=some false/\b=false)\/(Jo xs ys l=some true/\Jo xs ys m=some b)
 | [],m,b,h=>.inr ⟨rfl,h⟩
 | p::ps,m,b,h=>by
  simp only[List.cons_append,Jo,Option.bind_eq_some_iff]at h ⊢;obtain⟨x,hx,y,hy,c,hc,h⟩:=h
  cases c with
  | true =>
   simp only[if_true]at h
   rcases eqCells_append h with⟨h1,h2⟩|⟨h1,h2⟩
   ·exact .inl ⟨⟨x,hx,y,hy,true,hc,by simpa using h1⟩,h2⟩
   ·exact .inr ⟨⟨x,hx,y,hy,true,hc,by simpa using h1⟩,h2⟩
  | false =>
   simp only[jB,if_false,Option.some.injEq]at h
   exact .inl ⟨⟨x,hx,y,hy,false,hc,by simp⟩,h.symm⟩
theorem ZZE{xs ys:LV}{o n:Nat}:∀ {l:List (Nat × Nat)},(∀p∈l,p.1<n)->Jo ((xs.drop o).take n) ((ys.drop o).take n) l=Jo xs ys (l.map fun p=>(o+p.1,p.2))
 | [],_=>rfl
 | p::ps,h=>by
  have hp:=h p (by simp)
  simp only[jC,Jo,List.getElem?_take,if_pos hp,List.getElem?_drop]
  rw[ZZE fun q hq=>h q (by simp[hq])]
def shift(o:Nat)(l:List (Nat × Nat)):List (Nat × Nat):=l.map fun p=>(o+p.1,p.2)
theorem ZZF{D:Nat}{d:Nat}{C:Cx}{xs ys:LV}{X Y':Array Value}(hX:RL C xs X.toList)(hY:RL C ys Y'.toList)
 (ih:∀(t:TypeId) (ks:List (Nat × Nat)),ZRM P d t=some ks->∀o b,Jo xs ys (shift o ks)=some b->∃u w,(part t X o).run P W=.ok u W/\(part t Y' o).run P W=.ok w W/\(Op.equalIn D t u w).run P W=.ok b W) :
 ∀ {fs : List Field} {l : List (List (Nat × Nat))}, (fs.mapM fun f => if f.name = "_" then none else (ZRM P d f.type).map fun l => l.map fun p => (f.offset + p.1, p.2)) = some l -> ∀ {b : Bool}, Jo xs ys l.flatten = some b ->
  (Op.eqFields D X Y' fs).run P W=.ok b W
 | [],l,h,b,hb=>by
  simp at h;subst h
  simp only[List.flatten_nil,Jo,Option.some.injEq]at hb;subst hb;rfl
 | f::fs,l,h,b,hb=>by
  simp only[List.mapM_cons,Option.pure_def,Option.bind_eq_bind,Option.bind_eq_some_iff,Option.some.injEq]at h;obtain⟨k,hk,ls,hls,rfl⟩:=h
  split at hk
  ·simp at hk
  ·rename_i hn
   simp only[Option.map_eq_some_iff]at hk;obtain⟨k0,hk0,rfl⟩:=hk;simp only[List.flatten_cons]at hb;simp only[Op.eqFields];rw[if_pos hn]
   rcases eqCells_append hb with⟨h1,rfl⟩|⟨h1,h2⟩
   ·obtain⟨u,w,e1,e2,e3⟩:=ih f.type k0 hk0 f.offset false h1
    simp[e1,e2,e3]
   ·obtain⟨u,w,e1,e2,e3⟩:=ih f.type k0 hk0 f.offset true h1
    have:=ZZF hX hY ih hls h2
    simp[e1,e2,e3,this]
theorem Zcs{D:Nat}{t:TypeId}{w:Nat}{ks:List (Nat × Nat)}{xs ys:LV}{X Y':Array Value}
 (ih:∀o b,Jo xs ys (shift o ks)=some b->∃u v,(part t X o).run P W=.ok u W/\(part t Y' o).run P W=.ok v W/\(Op.equalIn D t u v).run P W=.ok b W) :
 ∀(l:List Nat) (b:Bool),Jo xs ys (l.map fun i=>ks.map fun p=>(i*w+p.1,p.2)).flatten=some b ->
  (forIn l ((none,()):Option Bool × Unit) (fun i _=>do
   let a <- part t X (i*w)
   let c <- part t Y' (i*w)
   let r <- Op.equalIn D t a c
   if (!r)=true then pure (ForInStep.done (some false,())) else pure (ForInStep.yield (none,()))):Sem (Option Bool × Unit)).run P W =
   .ok (if b=true then none else some false,()) W
 | [],b,h=>by
  simp only[List.map_nil,List.flatten_nil,Jo,Option.some.injEq]at h;subst h
  simp
 | i::l,b,h=>by
  simp only[jC,List.flatten_cons]at h
  rcases eqCells_append h with⟨h1,rfl⟩|⟨h1,h2⟩
  ·obtain⟨u,v,e1,e2,e3⟩:=ih (i*w) false h1
   simp[e1,e2,e3]
  ·obtain⟨u,v,e1,e2,e3⟩:=ih (i*w) true h1
   have:=Zcs ih l b h2
   simp only[List.forIn_cons,Sem.run_bind,e1,e2,e3,Result.andThen_ok,Bool.not_true,jB,if_false,Sem.run_pure];exact this
theorem ZrB{t:TypeId}{kd D:Nat}{y:AV}{b:Bool}(h:Zn6 kd x y=some b){C:Cx}{u v:Value}(hu:R C x u)(hv:R C y v)
 (h0:kd=0->∃k,P.underlying t=some (.int k)) (h1:kd=1->P.underlying t=some .string) (h2:kd=2->P.underlying t=some .bool) :
 (Op.equalIn (D+1) t u v).run P W=.ok b W:=by
 unfold Zn6 at h
 split at h
 ·split at h
  ·rename_i hk;subst hk
   simp only[Option.some.injEq]at h;subst h
   have:=Ye hu;subst this
   have:=Ye hv;subst this
   obtain⟨k,hk⟩:=h0 rfl;rw[run_equalIn_int _ _ _ _ k _ _ hk,ZcZ]
  ·simp at h
 ·simp only[Option.some.injEq]at h;subst h
  have:=Yf hu;subst this
  have:=Yf hv;subst this
  rw[run_equalIn_string _ _ _ _ _ (h1 rfl),JP,JP,ZU0]
 ·simp only[Option.some.injEq]at h;subst h
  have:=Yg hu;subst this
  have:=Yg hv;subst this
  exact run_equalIn_bool' _ _ _ _ _ (h2 Y)
 ·simp at h
def Zs0(P:Program)(W:World)(C:Cx)(d:Nat):Prop :=
 ∀(t:TypeId) (ks:List (Nat × Nat)),ZRM P d t=some ks->∀(D:Nat),d<=D->∀ {xs ys:LV} {X Y':Array Value},RL C xs X.toList->RL C ys Y'.toList ->
  ∀o b,Jo xs ys (shift o ks)=some b->∃u w,(part t X o).run P W=.ok u W/\(part t Y' o).run P W=.ok w W/\(Op.equalIn D t u w).run P W=.ok b W
theorem ZmP{C:Cx}{d:Nat}(ih:Zs0 P W C d){t:TypeId}{ks:List (Nat × Nat)}(h:ZRM P (d+1) t=some ks)(ha:Yt P t=some true){D:Nat}(hD:d<=D){xs:LV}{X Y':Array Value}
 (hX:RL C xs X.toList) (hY:RL C ys Y'.toList) {b:Bool} (hb:Jo xs ys ks=some b):(Op.equalIn (D+1) t (.agg X) (.agg Y')).run P W=.ok b W/\∃n,sz P t=some n/\∀p∈ks,p.1<n:=by
 simp only[ZRM]at h
 split at h
 ·rename_i k hk;simp[Yt,hk]at ha
 ·rename_i hk;simp[Yt,hk]at ha
 ·rename_i hk;simp[Yt,hk]at ha
 ·rename_i fs hk
  split at h
  ·simp at h
  ·rename_i hst
   simp only[Option.bind_eq_some_iff]at h;obtain⟨n,hn,l,hl,h⟩:=h
   split at h
   ·rename_i hall
    simp only[Option.some.injEq]at h;subst h
    have hlt:∀p∈l.flatten,p.1<n:=fun p hp=>by have:=List.all_eq_true.1 hall p hp;simpa using this
    have hfo:P.fieldsOf t=fs:=by simp[Program.fieldsOf,hk]
    rw[run_equalIn_struct _ _ _ _ _ (by rw[hfo];exact hk) (by simpa using hst),hfo]
    exact⟨ZZF hX hY (fun t ks hf o b hb=>ih t ks hf D hD hX hY o b hb) hl hb,n,hn,hlt⟩
   ·simp at h
 ·rename_i m el hk
  simp only[Option.bind_eq_some_iff]at h;obtain⟨n,hn,w,hw,l,hl,h⟩:=h
  split at h
  ·rename_i hall
   simp only[Option.some.injEq]at h;subst h
   have hlt:∀p∈((List.range m).map fun i=>l.map fun p=>(i*w+p.1,p.2)).flatten,p.1<n:=fun p hp=>by have:=List.all_eq_true.1 hall p hp;simpa using this
   have:=Zcs (P:=P) (W:=W) (D:=D) (t:=el) (w:=w) (ks:=l) (xs:=xs) (ys:=ys) (X:=X) (Y':=Y')
    (fun o b hb=>ih el l hl D hD hX hY o b hb) (List.range m) b hb
   refine⟨?_,n,hn,hlt⟩;simp only[Op.equalIn,Sem.run_bind,Zo hk,Result.andThen_ok,Y6 hw,Std.Legacy.Range.forIn_eq_forIn_range',Std.Legacy.Range.size,Nat.sub_zero,Nat.add_one_sub_one,Nat.div_one];rw[<- List.range_eq_range'];rw[this]
   cases b<;>simp
  ·simp at h
 ·simp at h
theorem Zp9{C:Cx}:∀(d:Nat),Zs0 P W C d
 | 0=>fun _ _ h=>by simp[ZRM]at h
 | d+1=>by
  intro t ks h D hD xs ys X Y' hX hY o b hb
  obtain⟨D',rfl⟩:∃D',D=D'+1:=⟨D-1,by omega⟩
  have basic:∀kd,ks=[(0,kd)]->Yt P t=some false->(kd=0->∃k,P.underlying t=some (.int k))->(kd=1->P.underlying t=some .string)->(kd=2->P.underlying t=some .bool) ->
   ∃u w,(part t X o).run P W=.ok u W/\(part t Y' o).run P W=.ok w W/\(Op.equalIn (D'+1) t u w).run P W=.ok b W:=by
   intro kd hk ha h0 h1 h2;subst hk;simp only[shift,jC,List.map_nil,Nat.add_zero,Jo,Option.bind_eq_some_iff]at hb;obtain⟨x,hx,y,hy,c,hc,hb⟩:=hb
   have hbc:b=c:=by cases c<;>simp at hb<;>first|exact hb|exact hb.symm
   subst hbc;obtain⟨u,hu1,hu2⟩:=hX.get hx;obtain⟨v,hv1,hv2⟩:=hY.get hy
   exact⟨u,v,Zcb ha (by simpa using hu1),Zcb ha (by simpa using hv1),ZrB hc hu2 hv2 h0 h1 h2⟩
  have agg:Yt P t=some true->∃u w,(part t X o).run P W=.ok u W/\(part t Y' o).run P W=.ok w W/\(Op.equalIn (D'+1) t u w).run P W=.ok b W:=by
   intro ha
   have hex:∃n,sz P t=some n/\∀p∈ks,p.1<n:=by
    have hh:=h;simp only[ZRM]at hh
    split at hh
    ·rename_i k hk;simp[Yt,hk]at ha
    ·rename_i hk;simp[Yt,hk]at ha
    ·rename_i hk;simp[Yt,hk]at ha
    ·split at hh
     ·simp at hh
     ·simp only[Option.bind_eq_some_iff]at hh
      obtain⟨n,hn,l,hl,hh⟩:=hh
      split at hh
      ·rename_i hall
       simp only[Option.some.injEq]at hh;subst hh
       exact⟨n,hn,fun p hp=>by have:=List.all_eq_true.1 hall p hp;simpa using this⟩
      ·simp at hh
    ·simp only[Option.bind_eq_some_iff]at hh
     obtain⟨n,hn,w,hw,l,hl,hh⟩:=hh
     split at hh
     ·rename_i hall
      simp only[Option.some.injEq]at hh;subst hh
      exact⟨n,hn,fun p hp=>by have:=List.all_eq_true.1 hall p hp;simpa using this⟩
     ·simp at hh
    ·simp at hh
   obtain⟨n,hn,hlt⟩:=hex
   have hX':RL C ((xs.drop o).take n) (X.extract o (o+n)).toList:=by rw[ZTZ];exact (hX.drop o).take n
   have hY':RL C ((ys.drop o).take n) (Y'.extract o (o+n)).toList:=by rw[ZTZ];exact (hY.drop o).take n
   exact⟨_,_,Zca ha hn,Zca ha hn,(ZmP (Zp9 d) h ha (by omega) hX' hY' (by rw[ZZE hlt];exact hb)).1⟩
  have hh:=h;simp only[ZRM]at hh
  split at hh
  ·rename_i k hk
   simp only[Option.some.injEq]at hh
   exact basic 0 hh.symm (by simp[Yt,hk]) (fun _=>⟨k,hk⟩) (by simp) (by simp)
  ·rename_i hk
   simp only[Option.some.injEq]at hh
   exact basic 1 hh.symm (by simp[Yt,hk]) (by simp) (fun _=>hk) (by simp)
  ·rename_i hk
   simp only[Option.some.injEq]at hh
   exact basic 2 hh.symm (by simp[Yt,hk]) (by simp) (by simp) (fun _=>hk)
  ·rename_i fs hk;exact agg (by simp[Yt,hk])
  ·rename_i m el hk;exact agg (by simp[Yt,hk])
  ·simp at hh
theorem Zs1{ρ:Rho}{m k:Nat}{y:AV}{b:Bool}(h:ZsB k x y=some b){t:TypeId}{u v:Value}(hu:R (cx st ρ W m) x u)(hv:R (cx st ρ W m) y v)
 (h3:k=3->∃el,P.underlying t=some (.pointer el)) (h4:k=4->∃a b,P.underlying t=some (.map a b)) (h5:k=5->∃a b c,P.underlying t=some (.func a b c)) (h6:k=6->P.underlying t=some .bool) (D:Nat) :
 (Op.equalIn (D+1) t u v).run P W=.ok b W/\¬ (u=.nilIface/\v=.nilIface)/\(∀xs ys,u=.agg xs->v=.agg ys->False)/\binOp .eql t u v=(do pure (.bool (<- Op.equal t u v)))/\binOp .neq t u v=(do pure (.bool (!(<- Op.equal t u v)))):=by
 unfold ZsB at h
 split at h<;>simp only[Option.some.injEq,reduceCtorEq]at h<;>subst h
 ·obtain⟨el,hk⟩:=h3 rfl
  cases hu;cases hv
  exact⟨by simp[Op.equalIn,Zo hk],by simp,by simp,rfl,rfl⟩
 ·obtain⟨el,hk⟩:=h3 rfl
  cases hu
  cases hv with
  | ptr hp=>obtain⟨a,rfl⟩:=(XN _ _ _ _).ptr hp;exact⟨by simp[Op.equalIn,Zo hk],by simp,by simp,rfl,rfl⟩
 ·obtain⟨el,hk⟩:=h3 rfl
  cases hu
  cases hv with
  | lptr=>exact⟨by simp[Op.equalIn,Zo hk],by simp,by simp,rfl,rfl⟩
 ·obtain⟨el,hk⟩:=h3 rfl
  cases hv
  cases hu with
  | ptr hp=>obtain⟨a,rfl⟩:=(XN _ _ _ _).ptr hp;exact⟨by simp[Op.equalIn,Zo hk],by simp,by simp,rfl,rfl⟩
 ·obtain⟨el,hk⟩:=h3 rfl
  cases hv
  cases hu with
  | lptr=>exact⟨by simp[Op.equalIn,Zo hk],by simp,by simp,rfl,rfl⟩
 ·obtain⟨a,b,hk⟩:=h4 rfl
  cases hu;cases hv
  exact⟨by simp[Op.equalIn,Zo hk],by simp,by simp,rfl,rfl⟩
 ·obtain⟨a,b,hk⟩:=h4 rfl
  cases hu
  cases hv with
  | map hp=>obtain⟨a,rfl⟩:=(XN _ _ _ _).map hp;exact⟨by simp[Op.equalIn,Zo hk],by simp,by simp,rfl,rfl⟩
 ·obtain⟨a,b,hk⟩:=h4 rfl
  cases hv
  cases hu with
  | map hp=>obtain⟨a,rfl⟩:=(XN _ _ _ _).map hp;exact⟨by simp[Op.equalIn,Zo hk],by simp,by simp,rfl,rfl⟩
 ·obtain⟨a,b,c,hk⟩:=h5 rfl
  cases hu;cases hv
  exact⟨by simp[Op.equalIn,Zo hk],by simp,by simp,rfl,rfl⟩
 ·obtain⟨a,b,c,hk⟩:=h5 rfl
  cases hu
  cases hv with
  | func=>exact⟨by simp[Op.equalIn,Zo hk],by simp,by simp,rfl,rfl⟩
  | yld=>exact⟨by simp[Op.equalIn,Zo hk],by simp,by simp,rfl,rfl⟩
 ·obtain⟨a,b,c,hk⟩:=h5 rfl
  cases hv
  cases hu with
  | func=>exact⟨by simp[Op.equalIn,Zo hk],by simp,by simp,rfl,rfl⟩
  | yld=>exact⟨by simp[Op.equalIn,Zo hk],by simp,by simp,rfl,rfl⟩
 ·have hk:=h6 rfl
  have:=Yg hu;subst this
  have:=Yg hv;subst this
  exact⟨by simp only[Op.equalIn,Sem.run_bind,Zo hk,Result.andThen_ok,Sem.run_pure],by simp,by simp,rfl,rfl⟩
theorem ZxC{ρ:Rho}{m k:Nat}{ks:List (Nat × Nat)}{y:AV}{b:Bool}(h:eqV ks k x y=some b){t:TypeId}{u v:Value}(hu:R (cx st ρ W m) x u)(hv:R (cx st ρ W m) y v)(ox oy:Operand)
 (h0:k=0->ZRM P 6 t=some ks/\(∃n,sz P t=some n)/\P.eqGuardType P.depth t=false/\Yt P t=some true)
 (h3:k=3->∃el,P.underlying t=some (.pointer el)) (h4:k=4->∃a b,P.underlying t=some (.map a b)) (h5:k=5->∃a b c,P.underlying t=some (.func a b c)) (h6:k=6->P.underlying t=some .bool) :
 (do eqGuard .eql t ox oy u v;binOp .eql t u v:Sem Value).run P W=.ok (.bool b) W/\(do eqGuard .neq t ox oy u v;binOp .neq t u v:Sem Value).run P W=.ok (.bool (!b)) W:=by
 unfold eqV at h
 split at h
 ·obtain⟨hf,⟨n,hn⟩,hg,ha⟩:=h0 rfl
  cases hu with
  | @agg _ _ X hl hi =>
   cases hv with
   | @agg _ _ Y' hl' hi' =>
    have hX:RL (cx st ρ W m) _ X.toArray.toList:=⟨hl,hi⟩;have hY:RL (cx st ρ W m) _ Y'.toArray.toList:=⟨hl',hi'⟩
    have hgr:∀op,(eqGuard op t ox oy (.agg X.toArray) (.agg Y'.toArray)).run P W=.ok () W:=fun op=>ZU1 (by simp) (fun _ _ _ _=>hg)
    have he:(Op.equal t (.agg X.toArray) (.agg Y'.toArray)).run P W=.ok b W:=(ZmP (P:=P) (W:=W) (D:=9999) (Zp9 5) hf ha (by omega) hX hY h).1
    constructor
    ·have e:binOp .eql t (.agg X.toArray) (.agg Y'.toArray)=(do pure (.bool (<- Op.equal t (.agg X.toArray) (.agg Y'.toArray)))):=rfl
     simp only[Sem.run_bind,hgr,Result.andThen_ok,e,he,Sem.run_pure]
    ·have e:binOp .neq t (.agg X.toArray) (.agg Y'.toArray)=(do pure (.bool (!(<- Op.equal t (.agg X.toArray) (.agg Y'.toArray))))):=rfl
     simp only[Sem.run_bind,hgr,Result.andThen_ok,e,he,Sem.run_pure]
 ·rename_i k'
  obtain⟨q1,q2,q3,q4,q5⟩:=Zs1 (P:=P) h hu hv h3 h4 h5 h6 9999
  have hgr:∀op,(eqGuard op t ox oy u v).run P W=.ok () W:=fun op=>ZU1 q2 (fun xs ys a b=>(q3 xs ys a b).elim)
  have he:(Op.equal t u v).run P W=.ok b W:=q1
  constructor
  ·simp only[Sem.run_bind,hgr,Result.andThen_ok,q4,he,Sem.run_pure]
  ·simp only[Sem.run_bind,hgr,Result.andThen_ok,q5,he,Sem.run_pure]
 ·simp at h
end
section
variable {P:Program}{W0:World}{B0:Bse}{st st':St}{ρ:Rho}{W:World}{e:Env}{a:Act}
theorem ZU7{v0:AV}(h:Qe st v0=some (v,st')):v=v0/\st'=st:=by
 simp only[Qe,Option.some.injEq,jP]at h;exact⟨h.1.symm,h.2.symm⟩
theorem Q9(hr:Rel W0 B0 st ρ W){s:Sem Value}{q:Option AV}(hrun:(execOp a.eval o).run P W=(do pure (Next.value (<- s)):Sem Next).run P W)
 (h:q.bind (Qe st)=some (v,st')) (hok:∀v0,q=some v0->∃x,s.run P W=.ok x W/\R (cx st ρ W st.A.length) v0 x):Fin W0 B0 st ρ W ((execOp a.eval o).run P W) v st':=by
 simp only[Option.bind_eq_some_iff]at h;obtain⟨v0,h0,h1⟩:=h;obtain⟨rfl,rfl⟩:=ZU7 h1;obtain⟨x,hx,hv⟩:=hok v h0
 exact Fin.val hr (by rw[hrun];exact ZBX hx) hv
theorem Zb1{x:Option Operand}{q:Option Opd}(h:ZsK x=some q){C:Cx}(he:EnvR C e a.tmps):Zlz C (ZGo e q) (x.map a.eval):=by
 cases x with
 | none=>simp only[ZsK,Option.some.injEq]at h;subst h;exact trivial
 | some x =>
  simp only[ZsK,Option.map_eq_some_iff]at h;obtain⟨y,hy,rfl⟩:=h;exact Zt hy he
theorem ZXA{α:Type}{f:Nat->Operand->Option α}{parts:Array (Nat × Operand)}{l:List α}(h:(parts.toList.mapM fun p=>f p.1 p.2)=some l):
 l.length=parts.toList.length/\∀(i:Nat) (q:α) (p:Nat × Operand),l[i]?=some q->parts.toList[i]?=some p->f p.1 p.2=some q:=by
 obtain⟨h1,h2⟩:=ZjZ h
 exact⟨h1.symm,fun i q p hq hp=>h2 i p q hp hq⟩
theorem ZXB{t:TypeId}{fs:Array Field}{ps:List (Nat × Nat)}(ht:P.underlying t=some (.struct fs))(hp:ZjU P fs.toList=some ps){zv:Value}(hz:(zeroValue t).run P W=.ok zv W)
 {parts:Array (Nat × Value)} {cs:Array Value} (hf:Instr.fill (fun i=>ps.toArray[i]?) zv.cells parts.toList=some cs):(Instr.build t parts).run P W=.ok (.agg cs) W:=by
 have hm:(fs.mapM (fun f=>(do pure (f.offset,<- sizeOf f.type):Sem (Nat × Nat)))).run P W=.ok ps.toArray W:=by
  have:=ZmK (P:=P) (W:=W) hp
  rw[<- Array.toArray_toList (xs:=fs),List.mapM_toArray,Sem.run_map,this];rfl
 simp only[Instr.build,Sem.run_bind,hz,Result.andThen_ok,Zo ht,hm,hf,Sem.run_pure]
theorem ZZb{t el:TypeId}(ht:P.underlying t=some (.array n el))(hw:sz P el=some w){zv:Value}(hz:(zeroValue t).run P W=.ok zv W)
 {parts:Array (Nat × Value)} {cs:Array Value} (hf:Instr.fill (fun i=>some (i*w,w)) zv.cells parts.toList=some cs):(Instr.build t parts).run P W=.ok (.agg cs) W:=by
 simp only[Instr.build,Sem.run_bind,hz,Result.andThen_ok,Zo ht,Y6 hw,hf,Sem.run_pure]
theorem ZvN(hr:Rel W0 B0 st ρ W)(he:EnvR (cx st ρ W st.A.length) e a.tmps){op:BinOp}{t yt:TypeId}{x y:Operand}{q:Opd}(hop:o.op=.binOp op t x y yt)(hp:opd x=some p)(hq:opd y=some q)
 (h:evalPO e st (.bin op p q)=some (v,st')):Fin W0 B0 st ρ W ((execOp a.eval o).run P W) v st':=by
 simp only[evalPO]at h
 refine Q9 hr (s:=do eqGuard op t x y (a.eval x) (a.eval y);binOp op t (a.eval x) (a.eval y)) (by simp only[execOp,hop]) h ?_
 intro v0 h0;obtain⟨z,hz,hv⟩:=Zup (P:=P) (W:=W) (ox:=x) (oy:=y) h0 (Zt hp he) (Zt hq he);exact⟨z,hz,hv _⟩
theorem ZqA(hr:Rel W0 B0 st ρ W)(he:EnvR (cx st ρ W st.A.length) e a.tmps){op:BinOp}{neg:Bool}{k:Nat}{ks:List (Nat × Nat)}{t yt:TypeId}{x y:Operand}{q:Opd}
 (hop:o.op=.binOp op t x y yt) (hneg:(op=.eql/\neg=false)\/(op=.neq/\neg=true)) (hp:opd x=some p) (hq:opd y=some q)
 (h0:k=0->ZRM P 6 t=some ks/\(∃n,sz P t=some n)/\P.eqGuardType P.depth t=false/\Yt P t=some true)
 (h3:k=3->∃el,P.underlying t=some (.pointer el)) (h4:k=4->∃a b,P.underlying t=some (.map a b)) (h5:k=5->∃a b c,P.underlying t=some (.func a b c)) (h6:k=6->P.underlying t=some .bool)
 (h:evalPO e st (.eqs neg k ks p q)=some (v,st')):Fin W0 B0 st ρ W ((execOp a.eval o).run P W) v st':=by
 simp only[evalPO,Option.bind_eq_some_iff,Option.some.injEq,jP]at h;obtain⟨b,hb,rfl,rfl⟩:=h;obtain⟨e1,e2⟩:=ZxC (P:=P) (W:=W) hb (Zt hp he) (Zt hq he) x y h0 h3 h4 h5 h6
 rcases hneg with⟨rfl,rfl⟩|⟨rfl,rfl⟩
 ·refine Fin.val hr (x:=.bool b) ?_ (.bool _)
  simp only[execOp,hop];exact ZBX e1
 ·refine Fin.val hr (x:=.bool (!b)) ?_ (.bool _)
  simp only[execOp,hop];exact ZBX e2
theorem Zct(hr:Rel W0 B0 st ρ W)(he:EnvR (cx st ρ W st.A.length) e a.tmps){x:Operand}(hop:o.op=.move x\/o.op=.assign x)(hp:opd x=some p)
 (h:evalPO e st (.mv p)=some (v,st')):Fin W0 B0 st ρ W ((execOp a.eval o).run P W) v st':=by
 simp only[evalPO,Option.some.injEq,jP]at h;obtain⟨rfl,rfl⟩:=h;refine Fin.val hr (x:=a.eval x) ?_ (Zt hp he)
 rcases hop with hop|hop<;>simp[execOp,hop]
theorem ZmQ(hr:Rel W0 B0 st ρ W)(hop:o.op=.move (.const (.slice none 0 0))\/o.op=.assign (.const (.slice none 0 0)))
 (h:evalPO e st (.onil w)=some (v,st')):Fin W0 B0 st ρ W ((execOp a.eval o).run P W) v st':=by
 simp only[evalPO,Option.bind_eq_some_iff,JO,Option.some.injEq,jP]at h;obtain⟨⟨i,st1⟩,hn,rfl,rfl⟩:=h;obtain⟨g,hg⟩:=ZjW hr (.of_new hn) none;have hlen:=g.ev.len
 refine⟨.value (.slice none 0 0),_,_,_,?_,.inl Y,g,.ref (hg _ (by show st.A.length<=st1.A.length;omega))⟩
 rcases hop with hop|hop<;>simp[execOp,hop,Act.eval]
theorem ZqB(hr:Rel W0 B0 st ρ W){s:Sem Value}{t:TypeId}{x:Value}{av:AV}(hx:R (cx st ρ W st.A.length) av x)(hs:∀r W',(newVar t x).run P W=.ok r W'->s.run P W=.ok (.pointer (some r)) W')
 (hrun:(execOp a.eval o).run P W=(do pure (Next.value (<- s)):Sem Next).run P W)
 (h:(av.wide.bind fun w=>(st.new (.arr w 0 [av])).bind (X3 st.A.length))=some (v,st')):Fin W0 B0 st ρ W ((execOp a.eval o).run P W) v st':=by
 simp only[Option.bind_eq_some_iff,X3,Option.some.injEq,jP]at h;obtain⟨w,hw,⟨i,st1⟩,hn,rfl,rfl⟩:=h;obtain⟨ρ',W',e1,g,hv⟩:=ZoQ (P:=P) (t:=t) hr hx hw (.of_new hn)
 exact⟨_,_,_,_,by rw[hrun];exact ZBX (hs _ _ e1),.inl Y,g,hv⟩
theorem Zcu(hr:Rel W0 B0 st ρ W){s:Sem Value}{t:TypeId}(hs:∀r W',(newVar t (.slice none 0 0)).run P W=.ok r W'->s.run P W=.ok (.pointer (some r)) W')
 (hrun:(execOp a.eval o).run P W=(do pure (Next.value (<- s)):Sem Next).run P W)
 (h:evalPO e st (.boxnil w)=some (v,st')):Fin W0 B0 st ρ W ((execOp a.eval o).run P W) v st':=by
 simp only[evalPO,Option.bind_eq_some_iff,ZQ1,X3,Option.some.injEq,jP]at h;obtain⟨⟨i,st1⟩,hn,⟨j,st2⟩,hn2,rfl,rfl⟩:=h;obtain⟨ρ',W',e1,g,hv⟩:=Zq9 (P:=P) (t:=t) hr hn hn2
 exact⟨_,_,_,_,by rw[hrun];exact ZBX (hs _ _ e1),.inl Y,g,hv⟩
theorem ZqC{t:TypeId}{ks:List (Nat × Nat)}(h:ZRM P 6 t=some ks)(ha:Yt P t=some true):∃n,sz P t=some n:=by
 unfold ZRM at h
 split at h
 ·rename_i k hk;simp[Yt,hk]at ha
 ·rename_i hk;simp[Yt,hk]at ha
 ·rename_i hk;simp[Yt,hk]at ha
 ·split at h
  ·simp at h
  ·simp only[Option.bind_eq_some_iff]at h
   obtain⟨n,hn,_⟩:=h;exact⟨n,hn⟩
 ·simp only[Option.bind_eq_some_iff]at h
  obtain⟨n,hn,_⟩:=h;exact⟨n,hn⟩
 ·simp at h
theorem ZrC{C:Cx}(ok:C.Ok)(h:b2sV st x=some v){u:Value}(hx:R C x u):∃b n c,u=.slice b n c:=by
 unfold b2sV at h
 split at h
 ·simp at h
 ·simp only[Option.bind_eq_some_iff,Option.some.injEq]at h
  obtain⟨es,he,l,hl,rfl⟩:=h;unfold elems at he
  split at he
  ·cases hx;exact⟨_,_,_,rfl⟩
  ·cases hx<;>exact⟨_,_,_,rfl⟩
  ·rename_i l0 hns;exact absurd Y (hns l0)
  ·cases hx with
   | ref hp=>obtain⟨a,c,q⟩:=ok.ref hp;exact⟨a,_,c,q⟩
  ·simp at he
theorem ZGN{α:Type}{xs:Array α}{l:List α}(h:xs.toList=l):xs=l.toArray:=by rw[<- h]
theorem ZmR(hr:Rel W0 B0 st ρ W)(he:EnvR (cx st ρ W st.A.length) e a.tmps){c:Call}{b:Builtin}(hop:o.op=.call c)(hb:c.callee=.builtin b){po:PO}
 (hc:XM P b c.args.toList c.argTypes.toList=some po) (h:evalPO e st po=some (v,st')):Fin W0 B0 st ρ W ((execOp a.eval o).run P W) v st':=by
 obtain⟨cs,ex⟩:∃cs:Array Bool,(execOp a.eval o).run P W=(builtin b c.argTypes o.type cs (c.args.map a.eval)).run P W:=by
  simp only[execOp,hop,resolve,hb];exact⟨_,rfl⟩
 unfold XM at hc
 split at hc
 ·rename_i x t ha ht
  have ht:=ZGN ht
  have ha:c.args.map a.eval=#[a.eval x]:=by rw[ZGN ha];simp
  have er:∀z,(Builtin.len_ #[t] o.type #[a.eval x]).run P W=.ok z W->(execOp a.eval o).run P W=.ok (.value z) W:=by
   intro z hz;rw[ex,ha,ht];exact ZBX hz
  have key:∀k p,opd x=some p->po=.len k p->(k=0->P.underlying t=some .string)->(k=1->∃el,P.underlying t=some (.slice el))->(k=2->∃k el,P.underlying t=some (.map k el))->Fin W0 B0 st ρ W ((execOp a.eval o).run P W) v st':=by
   intro k p hp hk h0 h1 h2;subst hk;simp only[evalPO,Option.bind_eq_some_iff,Option.some.injEq,jP]at h;obtain⟨n,hn,rfl,rfl⟩:=h;exact Fin.val hr (er _ (Zsx (P:=P) hr hn (Zt hp he) h0 h1 h2)) (.int _ _)
  split at hc
  ·rename_i hu
   simp only[Option.map_eq_some_iff]at hc;obtain⟨p,hp,hk⟩:=hc
   exact key 0 p hp hk.symm (fun _=>hu) (by simp) (by simp)
  ·rename_i el hu
   simp only[Option.map_eq_some_iff]at hc;obtain⟨p,hp,hk⟩:=hc
   exact key 1 p hp hk.symm (by simp) (fun _=>⟨_,hu⟩) (by simp)
  ·rename_i k el hu
   simp only[Option.map_eq_some_iff]at hc;obtain⟨p,hp,hk⟩:=hc
   exact key 2 p hp hk.symm (by simp) (by simp) (fun _=>⟨_,_,hu⟩)
  ·simp at hc
 ·rename_i s x t u ha ht
  have ht:=ZGN ht
  have ha:c.args.map a.eval=#[a.eval s,a.eval x]:=by rw[ZGN ha];simp
  have key:∀(el:TypeId) (i:TypeInfo) (p q:Opd),P.underlying t=some (.slice el)->((∃el',P.underlying u=some (.slice el'))\/P.underlying u=some .string)->P.info? el=some i->i.zero.map (·.cells.size)=some i.size ->
   opd s=some p->opd x=some q->po=.app i.size i.bytes p q->Fin W0 B0 st ρ W ((execOp a.eval o).run P W) v st':=by
   intro el i p q hu hu2 hi hz hp hq hk;subst hk;simp only[evalPO,Option.bind_eq_some_iff]at h;obtain⟨ys,hys,h⟩:=h;obtain⟨z,ρ',W',hz,g,hv⟩:=ZoW (P:=P) (ty:=o.type) hr hys h (Zt hp he) (Zt hq he) hu hu2 hi rfl rfl hz;refine⟨_,_,_,_,?_,.inl Y,g,hv⟩;rw[ex,ha,ht];exact ZBX hz
  split at hc
  ·rename_i el el' hu hu2
   simp only[Option.bind_eq_some_iff]at hc;obtain⟨i,hi,hc⟩:=hc
   split at hc
   ·simp at hc
   ·rename_i hcond
    simp only[Option.bind_eq_some_iff,Option.map_eq_some_iff]at hc;obtain⟨p,hp,q,hq,hk⟩:=hc
    exact key el i p q hu (.inl ⟨_,hu2⟩) hi (by by_cases h9:i.zero.map (·.cells.size)=some i.size;exact h9;exact absurd (.inr h9) hcond) hp hq hk.symm
  ·rename_i el hu hu2
   simp only[Option.bind_eq_some_iff]at hc;obtain⟨i,hi,hc⟩:=hc
   split at hc
   ·rename_i hcond
    simp only[Option.bind_eq_some_iff,Option.map_eq_some_iff]at hc;obtain⟨p,hp,q,hq,hk⟩:=hc;exact key el i p q hu (.inr hu2) hi hcond.2 hp hq hk.symm
   ·simp at hc
  ·simp at hc
 ·rename_i d x t u ha ht
  have ht:=ZGN ht
  have ha:c.args.map a.eval=#[a.eval d,a.eval x]:=by rw[ZGN ha];simp
  split at hc
  ·rename_i el el' hu hu2
   simp only[Option.bind_eq_some_iff]at hc;obtain⟨w,hw,hc⟩:=hc
   split at hc
   ·simp at hc
   ·rename_i hw0
    simp only[Option.bind_eq_some_iff,Option.map_eq_some_iff]at hc;obtain⟨p,hp,q,hq,rfl⟩:=hc;simp only[evalPO,Option.bind_eq_some_iff]at h;obtain⟨ys,hys,h⟩:=h;obtain⟨z,ρ',W',hz,g,hv⟩:=ZvM (P:=P) (ty:=o.type) (u:=u) hr hys h (Zt hp he) (Zt hq he) hu hw hw0;refine⟨_,_,_,_,?_,.inl Y,g,hv⟩;rw[ex,ha,ht];exact ZBX hz
  ·simp at hc
 ·rename_i x y ha
  have ha:c.args.map a.eval=#[a.eval x,a.eval y]:=by rw[ZGN ha];simp
  simp only[Option.bind_eq_some_iff,Option.map_eq_some_iff]at hc;obtain⟨p,hp,q,hq,rfl⟩:=hc;simp only[evalPO]at h
  refine Q9 hr (s:=Builtin.min_ c.argTypes o.type #[a.eval x,a.eval y]) (by rw[ex,ha];rfl) h ?_
  intro v0 h0;obtain⟨z,hz,hv⟩:=Zpu (P:=P) (W:=W) h0 (Zt hp he) (Zt hq he) c.argTypes o.type
  exact⟨z,by simpa using hz,hv _⟩
 ·rename_i x y ha
  have ha:c.args.map a.eval=#[a.eval x,a.eval y]:=by rw[ZGN ha];simp
  simp only[Option.bind_eq_some_iff,Option.map_eq_some_iff]at hc;obtain⟨p,hp,q,hq,rfl⟩:=hc;simp only[evalPO]at h
  refine Q9 hr (s:=Builtin.max_ c.argTypes o.type #[a.eval x,a.eval y]) (by rw[ex,ha];rfl) h ?_
  intro v0 h0;obtain⟨z,hz,hv⟩:=Zpu (P:=P) (W:=W) h0 (Zt hp he) (Zt hq he) c.argTypes o.type
  exact⟨z,by simpa using hz,hv _⟩
 ·rename_i m k t u ha ht
  have ht:=ZGN ht
  have ha:c.args.map a.eval=#[a.eval m,a.eval k]:=by rw[ZGN ha];simp
  split at hc
  ·rename_i key el hu
   simp only[Option.bind_eq_some_iff,Option.map_eq_some_iff]at hc;obtain⟨kk,hkk,p,hp,q,hq,rfl⟩:=hc;simp only[evalPO,Option.bind_eq_some_iff,ZsD,Option.some.injEq,jP]at h;obtain⟨st1,hs,rfl,rfl⟩:=h;obtain⟨W',hrun,g⟩:=Zsz (P:=P) (u:=u) (ty:=o.type) hr hs (Zt hq he) (Zt hp he) hu hkk
   refine⟨_,.tuple #[],ρ,W',?_,.inl Y,g,.tup (xs:=[]) Y (by simp)⟩
   rw[ex,ha,ht];exact ZBX hrun
  ·simp at hc
 ·simp at hc
theorem Zs2(hr:Rel W0 B0 st ρ W)(he:EnvR (cx st ρ W st.A.length) e a.tmps){own:Bool}{cm:CM}{po:PO}(hc:Q5 P own cm o=some po)(hnc:∀m f l,po≠.call m f l)
 (h:evalPO e st po=some (v,st')):Fin W0 B0 st ρ W ((execOp a.eval o).run P W) v st':=by
 have mv:∀x,(o.op=.move x\/o.op=.assign x)->∀p,opd x=some p->po=.mv p->Fin W0 B0 st ρ W ((execOp a.eval o).run P W) v st':=fun x hop p hp e'=>by subst e';exact Zct hr he hop hp h
 unfold Q5 at hc
 split at hc
 ·rename_i x hop
  split at hc
  ·split at hc
   ·simp only[Option.bind_eq_some_iff]at hc
    obtain⟨w,hw,hc⟩:=hc
    split at hc
    ·simp at hc
    ·simp only[Option.some.injEq]at hc;subst hc
     exact ZmQ hr (.inl hop) h
   ·simp at hc
  ·simp only[Option.map_eq_some_iff]at hc
   obtain⟨p,hp,rfl⟩:=hc;exact Zct hr he (.inl hop) hp h
 ·rename_i x hop
  split at hc
  ·split at hc
   ·simp only[Option.bind_eq_some_iff]at hc
    obtain⟨w,hw,hc⟩:=hc
    split at hc
    ·simp at hc
    ·simp only[Option.some.injEq]at hc;subst hc
     exact ZmQ hr (.inr hop) h
   ·simp at hc
  ·simp only[Option.map_eq_some_iff]at hc
   obtain⟨p,hp,rfl⟩:=hc;exact Zct hr he (.inr hop) hp h
 ·-- pick
  rename_i c x y hop
  simp only[Option.bind_eq_some_iff,Option.map_eq_some_iff]at hc;obtain⟨c',hc',x',hx',y',hy',rfl⟩:=hc;simp only[evalPO]at h
  refine Q9 hr (s:=do pure (if <- asBool (a.eval c) then a.eval x else a.eval y)) (by simp[execOp,hop]) h ?_
  intro v0 h0;obtain⟨t,ht,hv⟩:=ZsS h0 (Zt hx' he) (Zt hy' he) (Zt hc' he)
  exact⟨_,by rw[ht];simp[asBool],hv⟩
 ·-- alloc
  rename_i el hop
  split at hc
  ·rename_i u hu
   simp only[Option.bind_eq_some_iff]at hc;obtain⟨w,hw,hc⟩:=hc
   split at hc
   ·simp at hc
   ·split at hc
    ·rename_i hz
     simp only[Option.some.injEq]at hc;subst hc
     refine Zcu hr (s:=Instr.alloc el true (.tuple #[])) (t:=el) ?_ (by simp[execOp,hop]) h
     intro r W' hn
     have hzr:(zeroValue el).run P W=.ok (.slice none 0 0) W:=by
      cases hi:P.info? el with
      | none=>rw[hi]at hz;simp at hz
      | some i=>rw[hi]at hz;simp at hz;simp[zeroValue,typeInfo,hi,hz]
     simp[Instr.alloc,hzr,hn]
    ·simp at hc
  ·simp only[Option.map_eq_some_iff]at hc
   obtain⟨z,hz,rfl⟩:=hc;obtain⟨zv,hzr,hzc,_⟩:=ZGu (W:=W) hz;simp only[evalPO,Opd.get]at h
   refine ZqB hr (s:=Instr.alloc el true (.tuple #[])) (t:=el) (hzc _) ?_ (by simp[execOp,hop]) h
   intro r W' hn
   simp[Instr.alloc,hzr,hn]
 ·-- box
  rename_i el x hop
  split at hc
  ·split at hc
   ·simp only[Option.bind_eq_some_iff]at hc
    obtain⟨w,hw,hc⟩:=hc
    split at hc
    ·simp at hc
    ·simp only[Option.some.injEq]at hc;subst hc
     refine Zcu hr (s:=Instr.box el (.slice none 0 0)) (t:=el) ?_ (by simp[execOp,hop,Act.eval]) h
     intro r W' hn
     simp[Instr.box,hn]
   ·simp at hc
  ·simp only[Option.map_eq_some_iff]at hc
   obtain⟨p,hp,rfl⟩:=hc;simp only[evalPO]at h
   refine ZqB hr (s:=Instr.box el (a.eval x)) (t:=el) (Zt hp he) ?_ (by simp[execOp,hop]) h
   intro r W' hn
   simp[Instr.box,hn]
 ·-- build
  rename_i t parts hop
  split at hc
  ·rename_i z fs hz hu
   simp only[Option.bind_eq_some_iff,Option.map_eq_some_iff]at hz hc;obtain⟨zv,hzz,rfl⟩:=hz;obtain⟨ps,hps,l,hl,rfl⟩:=hc;simp only[evalPO,Option.bind_eq_some_iff,Option.some.injEq,jP]at h;obtain⟨cs,hf,rfl,rfl⟩:=h
   obtain⟨hl1,hl2⟩:=ZXA (f:=fun i x=>(ps[i]?).bind fun q=>(opd x).map fun x=>(q.1,q.2,x)) hl
   obtain⟨x,hx,hv⟩:=ZmL (P:=P) (W:=W) (a:=a) (place:=fun i=>ps.toArray[i]?) (XN st ρ W st.A.length) hzz he hf ⟨hl1,fun i q p hq hp=>by
    have:=hl2 i q p hq hp
    simp only[Option.bind_eq_some_iff,Option.map_eq_some_iff]at this;obtain⟨q',hq',x',hx',rfl⟩:=this
    exact⟨by simpa using hq',hx'⟩⟩ (fun zv hz cs' hf'=>ZXB hu hps hz hf')
   exact Fin.val hr (by simp only[execOp,hop];exact ZBX hx) hv
  ·rename_i z n el hz hu
   simp only[Option.bind_eq_some_iff,Option.map_eq_some_iff]at hz hc;obtain⟨zv,hzz,rfl⟩:=hz;obtain⟨w,hw,l,hl,rfl⟩:=hc;simp only[evalPO,Option.bind_eq_some_iff,Option.some.injEq,jP]at h;obtain⟨cs,hf,rfl,rfl⟩:=h
   obtain⟨hl1,hl2⟩:=ZXA (f:=fun i x=>(opd x).map fun x=>(i*w,w,x)) hl
   obtain⟨x,hx,hv⟩:=ZmL (P:=P) (W:=W) (a:=a) (place:=fun i=>some (i*w,w)) (XN st ρ W st.A.length) hzz he hf ⟨hl1,fun i q p hq hp=>by
    have:=hl2 i q p hq hp
    simp only[Option.map_eq_some_iff]at this;obtain⟨x',hx',rfl⟩:=this
    exact⟨rfl,hx'⟩⟩ (fun zv hz cs' hf'=>ZZb hu hw hz hf')
   exact Fin.val hr (by simp only[execOp,hop];exact ZBX hx) hv
  ·simp at hc
 ·-- slice literal
  rename_i t n parts hop
  split at hc
  ·rename_i el hu
   simp only[Option.bind_eq_some_iff]at hc;obtain⟨w,hw,hc⟩:=hc
   split at hc
   ·simp at hc
   ·rename_i hcond
    simp only[Option.bind_eq_some_iff]at hc;obtain⟨z,hz,hc⟩:=hc
    split at hc
    ·rename_i hzw
     simp only[Option.map_eq_some_iff]at hc;obtain⟨l,hl,rfl⟩:=hc;simp only[evalPO,Option.bind_eq_some_iff]at h;obtain⟨es,hf,hk⟩:=h
     obtain⟨hl1,hl2⟩:=ZXA (f:=fun i x=>(opd x).map fun x=>(i,x)) hl
     obtain⟨cs,xs,hrun,hrl,hla,hcs,hlen⟩:=ZoU (P:=P) (W:=W) (a:=a) hu hw (by omega) (by omega) hz hzw (XN st ρ W st.A.length) he hf ⟨hl1,fun i q p hq hp=>by
      have:=hl2 i q p hq hp
      simp only[Option.map_eq_some_iff]at this;obtain⟨x',hx',rfl⟩:=this
      exact⟨rfl,hx'⟩⟩
     obtain⟨ρ',g,hv⟩:=ZvK (el:=el) hr hrl hla hcs hlen hk
     exact⟨_,_,_,_,by simp only[execOp,hop];exact ZBX hrun,.inl Y,g,hv⟩
    ·simp at hc
  ·simp at hc
 ·-- load
  rename_i t x hop
  simp only[Option.bind_eq_some_iff,Option.map_eq_some_iff]at hc;obtain⟨g,hg,n,hn,p,hp,rfl⟩:=hc;simp only[evalPO]at h
  refine Q9 hr (s:=Instr.loadAt t (a.eval x)) (by simp[execOp,hop]) h ?_
  intro v0 h0;obtain⟨b,z,hb,hz,hv⟩:=Zl0 (P:=P) hr h0 (Zt hp he) hg hn
  exact⟨z,by rw[hb];simp[Instr.loadAt,Instr.sureAddr,hz],hv⟩
 ·-- store
  rename_i t p x hop
  simp only[Option.bind_eq_some_iff,Option.map_eq_some_iff]at hc;obtain⟨n,hn,p',hp,x',hx,rfl⟩:=hc;simp only[evalPO,Option.bind_eq_some_iff,ZCI,Option.some.injEq,jP]at h;obtain⟨st1,hs,rfl,rfl⟩:=h;obtain⟨b,W',hb,hrun,g⟩:=Zqz (P:=P) hr hs (Zt hx he) (Zt hp he) hn;refine⟨.skip,Go.undef,ρ,W',?_,.inr ⟨rfl,rfl⟩,g,.undef⟩;simp only[execOp,hop];refine ZsQ ?_;rw[hb];simp[Instr.storeAt,Instr.sureAddr,hrun]
 ·-- nil check
  rename_i x hop
  simp only[Option.map_eq_some_iff]at hc;obtain⟨p,hp,rfl⟩:=hc;simp only[evalPO,Option.bind_eq_some_iff]at h;obtain⟨v0,h0,h1⟩:=h;obtain⟨rfl,rfl⟩:=ZU7 h1;obtain⟨hrun,hv⟩:=Zqw (P:=P) (W:=W) (XN _ _ _ _) h0 (Zt hp he) a.eval o x hop rfl;exact Fin.val hr hrun hv
 ·-- binary
  rename_i op t x y yt hop
  simp only[Option.bind_eq_some_iff]at hc;obtain⟨p,hp,q,hq,hc⟩:=hc
  have hbin:some (.bin op p q)=some po->Fin W0 B0 st ρ W ((execOp a.eval o).run P W) v st':=by
   intro hc;simp only[Option.some.injEq]at hc;subst hc;exact ZvN hr he hop hp hq h
  have heq:∀(k:Nat) (ks:List (Nat × Nat)),ZOD k ks p q op=some po ->
   (k=0->ZRM P 6 t=some ks/\(∃n,sz P t=some n)/\P.eqGuardType P.depth t=false/\Yt P t=some true) ->
   (k=3->∃el,P.underlying t=some (.pointer el))->(k=4->∃a b,P.underlying t=some (.map a b))->(k=5->∃a b c,P.underlying t=some (.func a b c))->(k=6->P.underlying t=some .bool) ->
   Fin W0 B0 st ρ W ((execOp a.eval o).run P W) v st':=by
   intro k ks hc h0 h3 h4 h5 h6;unfold ZOD at hc
   split at hc
   ·simp only[Option.some.injEq]at hc;subst hc
    exact ZqA hr he hop (.inl ⟨rfl,rfl⟩) hp hq h0 h3 h4 h5 h6 h
   ·simp only[Option.some.injEq]at hc;subst hc
    exact ZqA hr he hop (.inr ⟨rfl,rfl⟩) hp hq h0 h3 h4 h5 h6 h
   ·simp at hc
  split at hc
  ·exact hbin hc
  ·exact hbin hc
  ·rename_i hk;exact heq 6 [] hc (by simp) (by simp) (by simp) (by simp) (fun _=>hk)
  ·rename_i fs hk
   split at hc
   ·simp at hc
   ·rename_i hg
    simp only[Option.bind_eq_some_iff]at hc;obtain⟨ks,hks,hc⟩:=hc
    exact heq 0 ks hc (fun _=>⟨hks,ZqC hks (by simp[Yt,hk]),by simpa using hg,by simp[Yt,hk]⟩) (by simp) (by simp) (by simp) (by simp)
  ·rename_i n el hk
   split at hc
   ·simp at hc
   ·rename_i hg
    simp only[Option.bind_eq_some_iff]at hc;obtain⟨ks,hks,hc⟩:=hc
    exact heq 0 ks hc (fun _=>⟨hks,ZqC hks (by simp[Yt,hk]),by simpa using hg,by simp[Yt,hk]⟩) (by simp) (by simp) (by simp) (by simp)
  ·rename_i el hk;exact heq 3 [] hc (by simp) (fun _=>⟨_,hk⟩) (by simp) (by simp) (by simp)
  ·rename_i x1 x2 hk;exact heq 4 [] hc (by simp) (by simp) (fun _=>⟨_,_,hk⟩) (by simp) (by simp)
  ·rename_i x1 x2 x3 hk;exact heq 5 [] hc (by simp) (by simp) (by simp) (fun _=>⟨_,_,_,hk⟩) (by simp)
  ·simp at hc
 ·-- unary
  rename_i op t x hop
  simp only[Option.map_eq_some_iff]at hc;obtain⟨p,hp,rfl⟩:=hc;simp only[evalPO]at h
  refine Q9 hr (s:=Op.unary op (a.eval x)) (by simp only[execOp,hop]) h ?_
  intro v0 h0;obtain⟨z,hz,hv⟩:=Zw1 (P:=P) (W:=W) h0 (Zt hp he);exact⟨z,hz,hv _⟩
 ·-- conversion
  rename_i s d x hop
  split at hc
  ·rename_i k0 k hs hd
   simp only[Option.map_eq_some_iff]at hc;obtain⟨p,hp,rfl⟩:=hc;simp only[evalPO]at h
   refine Q9 hr (s:=convert s d (a.eval x)) (by simp only[execOp,hop]) h ?_
   intro v0 h0;obtain⟨z,hz,hv⟩:=ZsT (P:=P) (W:=W) h0 (Zt hp he) hs hd;exact⟨z,hz,hv _⟩
  ·rename_i hs hd
   simp only[Option.map_eq_some_iff]at hc;obtain⟨p,hp,rfl⟩:=hc;simp only[evalPO]at h
   refine Q9 hr (s:=convert s d (a.eval x)) (by simp only[execOp,hop]) h ?_
   intro v0 h0;obtain⟨z,hz,hv⟩:=ZsU (P:=P) (W:=W) h0 (Zt hp he) hs hd;exact⟨z,hz,hv _⟩
  ·rename_i el hs hd
   split at hc
   ·rename_i hel
    simp only[Option.map_eq_some_iff]at hc;obtain⟨p,hp,rfl⟩:=hc;simp only[evalPO]at h
    refine Q9 hr (s:=convert s d (a.eval x)) (by simp only[execOp,hop]) h ?_
    intro v0 h0;obtain⟨z,hz,hv⟩:=ZvL (P:=P) hr h0 (Zt hp he);refine⟨z,?_,hv _⟩;obtain⟨bb,n,c,hx⟩:=ZrC (XN _ _ _ _) h0 (Zt hp he);rw[hx]at hz ⊢;rw[run_convert_bytes_string W s d el bb n c hs hel hd];exact hz
   ·simp at hc
  ·simp at hc
 ·-- a function value
  rename_i fn f c hop
  have hn:Zn5 fn=true:=by
   cases q:Zn5 fn with
   | true=>rfl
   | false=>rw[q]at hc;simp at hc
  rw[if_pos hn]at hc;simp only[Option.bind_eq_some_iff,Option.map_eq_some_iff]at hc;obtain⟨f',hf,c',hc',rfl⟩:=hc;simp only[evalPO,Option.some.injEq,jP]at h;obtain⟨rfl,rfl⟩:=h
  refine Fin.val hr (x:=.func fn (f.map a.eval) (c.map a.eval)) (by simp only[execOp,hop];exact ZBX (by simp[Instr.makeFunc])) ?_
  have r1:=Zby hf he;have r2:=Zby hc' he
  rw[show f.map a.eval=(f.toList.map a.eval).toArray by rw[<- Array.toList_map,Array.toArray_toList],show c.map a.eval=(c.toList.map a.eval).toArray by rw[<- Array.toList_map,Array.toArray_toList]]
  exact .func fn hn r1.1 r2.1 r1.2 r2.2
 ·-- make a map
  rename_i t hop
  simp only[Option.some.injEq]at hc;subst hc;simp only[evalPO,Option.bind_eq_some_iff,ZUv,Option.some.injEq,jP]at h;obtain⟨⟨i,st1⟩,hn,rfl,rfl⟩:=h;obtain⟨g,hg⟩:=Zul hr (.of_new hn);have hlen:=g.ev.len
  refine⟨.value (.map (some W.heap.size)),_,_,_,?_,.inl Y,g,.map (hg _ (by show st.A.length<=st1.A.length;omega))⟩
  simp only[execOp,hop]
  exact ZBX (by simp[Instr.makeMap,newObj,Sem.run])
 ·-- make a slice
  rename_i t l c hop
  split at hc
  ·rename_i el hu
   simp only[Option.bind_eq_some_iff]at hc;obtain⟨i,hi,hc⟩:=hc
   split at hc
   ·simp at hc
   ·rename_i hw0
    simp only[Option.bind_eq_some_iff]at hc;obtain⟨z,hz,hc⟩:=hc
    split at hc
    ·rename_i hzw
     simp only[Option.bind_eq_some_iff,Option.map_eq_some_iff]at hc;obtain⟨l',hl,c',hc',rfl⟩:=hc;simp only[evalPO]at h;obtain⟨x,ρ',W',hx,g,hv⟩:=Zsw (P:=P) hr h (Zt hl he) (Zt hc' he) hu hi rfl rfl hw0 hz hzw
     exact⟨_,_,_,_,by simp only[execOp,hop];exact ZBX hx,.inl Y,g,hv⟩
    ·simp at hc
  ·simp at hc
 ·-- slice
  rename_i t x lo hi hop
  simp only[Option.bind_eq_some_iff]at hc;obtain⟨p,hp,lo',hlo,hi',hhi,hc⟩:=hc
  split at hc
  ·rename_i hu
   simp only[Option.some.injEq]at hc;subst hc;simp only[evalPO]at h
   refine Q9 hr (s:=Instr.sliceAt t (a.eval x) (lo.map a.eval) (hi.map a.eval) none) (by simp only[execOp,hop,Option.map_none]) h ?_
   intro v0 h0;obtain⟨z,hz,hv⟩:=ZsX (P:=P) (W:=W) h0 (Zt hp he) (Zb1 hlo he) (Zb1 hhi he) hu;exact⟨z,hz,hv _⟩
  ·rename_i el hu
   simp only[Option.bind_eq_some_iff]at hc;obtain⟨w,hw,hc⟩:=hc
   split at hc
   ·simp at hc
   ·rename_i hw0
    simp only[Option.some.injEq]at hc;subst hc;simp only[evalPO]at h
    refine Q9 hr (s:=Instr.sliceAt t (a.eval x) (lo.map a.eval) (hi.map a.eval) none) (by simp only[execOp,hop,Option.map_none]) h ?_
    intro v0 h0;exact Zuu (P:=P) hr h0 (Zt hp he) (Zb1 hlo he) (Zb1 hhi he) hu hw hw0
  ·simp at hc
 ·-- address of a field
  rename_i s x f hop
  split at hc
  ·rename_i fs hu
   simp only[Option.bind_eq_some_iff]at hc;obtain⟨q,hq,n,hn,hc⟩:=hc
   split at hc
   ·simp at hc
   ·rename_i hn0
    simp only[Option.map_eq_some_iff]at hc;obtain⟨p,hp,rfl⟩:=hc;simp only[evalPO]at h
    refine Q9 hr (s:=Instr.fieldAt s (a.eval x) f) (by simp only[execOp,hop]) h ?_
    intro v0 h0;exact ZsV (P:=P) h0 (Zt hp he) hu hq Y hn hn0
  ·simp at hc
 ·-- field
  rename_i s x f hop
  split at hc
  ·rename_i fs hu
   simp only[Option.bind_eq_some_iff,Option.map_eq_some_iff]at hc;obtain⟨q,hq,n,hn,g,hg,p,hp,rfl⟩:=hc;simp only[evalPO]at h
   refine Q9 hr (s:=Instr.field s (a.eval x) f) (by simp only[execOp,hop]) h ?_
   intro v0 h0;exact Zur (P:=P) (W:=W) (XN _ _ _ _) h0 (Zt hp he) hu hq Y hg hn
  ·simp at hc
 ·-- address of an element
  rename_i t x i hop
  split at hc
  ·rename_i el hu
   simp only[Option.bind_eq_some_iff]at hc;obtain⟨w,hw,hc⟩:=hc
   split at hc
   ·simp at hc
   ·simp only[Option.bind_eq_some_iff,Option.map_eq_some_iff]at hc
    obtain⟨p,hp,q,hq,rfl⟩:=hc;simp only[evalPO]at h
    refine Q9 hr (s:=Instr.indexAt t (a.eval x) (a.eval i)) (by simp only[execOp,hop]) h ?_
    intro v0 h0;exact Zut (P:=P) hr h0 (Zt hp he) (Zt hq he) hu hw
  ·rename_i n el hu
   simp only[Option.bind_eq_some_iff]at hc;obtain⟨w,hw,hc⟩:=hc
   split at hc
   ·simp at hc
   ·simp only[Option.bind_eq_some_iff,Option.map_eq_some_iff]at hc
    obtain⟨p,hp,q,hq,rfl⟩:=hc;simp only[evalPO]at h
    refine Q9 hr (s:=Instr.indexAt t (a.eval x) (a.eval i)) (by simp only[execOp,hop]) h ?_
    intro v0 h0;exact Zus (P:=P) h0 (Zt hp he) (Zt hq he) hu hw
  ·simp at hc
 ·-- element
  rename_i t x i hop
  split at hc
  ·rename_i hu
   simp only[Option.bind_eq_some_iff,Option.map_eq_some_iff]at hc;obtain⟨p,hp,q,hq,rfl⟩:=hc;simp only[evalPO]at h
   refine Q9 hr (s:=Instr.index t (a.eval x) (a.eval i)) (by simp only[execOp,hop]) h ?_
   intro v0 h0;obtain⟨z,hz,hv⟩:=Zqy (P:=P) (W:=W) h0 (Zt hp he) (Zt hq he) hu;exact⟨z,hz,hv _⟩
  ·rename_i n el hu
   simp only[Option.bind_eq_some_iff,Option.map_eq_some_iff]at hc;obtain⟨w,hw,g,hg,p,hp,q,hq,rfl⟩:=hc;simp only[evalPO]at h
   refine Q9 hr (s:=Instr.index t (a.eval x) (a.eval i)) (by simp only[execOp,hop]) h ?_
   intro v0 h0;exact Zqx (P:=P) (W:=W) (XN _ _ _ _) h0 (Zt hp he) (Zt hq he) hu hg hw
  ·simp at hc
 ·-- lookup
  rename_i t x i ok hop
  split at hc
  ·rename_i k el hu
   simp only[Option.bind_eq_some_iff,Option.map_eq_some_iff]at hc;obtain⟨kk,hkk,z,hz,p,hp,q,hq,rfl⟩:=hc;simp only[evalPO]at h
   refine Q9 hr (s:=Instr.lookup t (a.eval x) (a.eval i) ok) (by simp only[execOp,hop]) h ?_
   intro v0 h0;exact Zsy (P:=P) hr h0 (Zt hq he) (Zt hp he) hu hkk hz
  ·simp at hc
 ·-- map update
  rename_i t m k x hop
  split at hc
  ·rename_i key el hu
   simp only[Option.bind_eq_some_iff,Option.map_eq_some_iff]at hc;obtain⟨kk,hkk,m',hm,k',hk,x',hx,rfl⟩:=hc;simp only[evalPO,Option.bind_eq_some_iff,ZCI,Option.some.injEq,jP]at h;obtain⟨st1,hs,rfl,rfl⟩:=h;obtain⟨W',hrun,g⟩:=ZmO (P:=P) hr hs (Zt hk he) (Zt hx he) (Zt hm he) hu hkk;refine⟨.skip,Go.undef,ρ,W',?_,.inr ⟨rfl,rfl⟩,g,.undef⟩;simp only[execOp,hop];exact ZsQ hrun
  ·simp at hc
 ·-- insert
  rename_i t m k x hop
  split at hc
  ·rename_i key el hu
   simp only[Option.bind_eq_some_iff,Option.map_eq_some_iff]at hc;obtain⟨kk,hkk,m',hm,k',hk,x',hx,rfl⟩:=hc;simp only[evalPO,Option.bind_eq_some_iff,ZCI,Option.some.injEq,jP]at h;obtain⟨st1,hs,rfl,rfl⟩:=h;obtain⟨W',hrun,g⟩:=ZmO (P:=P) hr hs (Zt hk he) (Zt hx he) (Zt hm he) hu hkk;refine⟨.skip,Go.undef,ρ,W',?_,.inr ⟨rfl,rfl⟩,g,.undef⟩;simp only[execOp,hop];exact ZsQ hrun
  ·simp at hc
 ·-- extract
  rename_i x i hop
  simp only[Option.map_eq_some_iff]at hc;obtain⟨p,hp,rfl⟩:=hc;simp only[evalPO]at h
  refine Q9 hr (s:=Instr.extract (a.eval x) i) (by simp only[execOp,hop]) h ?_
  intro v0 h0;exact Zuq (P:=P) (W:=W) h0 (Zt hp he)
 ·-- call
  rename_i c hop
  split at hc
  ·rename_i b hb
   exact ZmR hr he hop hb hc h
  ·simp only[Option.bind_eq_some_iff,Option.map_eq_some_iff]at hc
   obtain⟨f',hf,l,hl,rfl⟩:=hc;exact absurd Y (hnc _ _ _)
  ·simp at hc
 ·simp at hc
end
end Go.QAbs
namespace Go.QAbs
variable {k v x z:AV}{b:Blk}{e e':Env}{A':List (Bool × List Blk)}{es ys:LV}{xs:List Value}{c i ix kk n w:Nat}{p:Opd}{o:Oper}{O:Orc}{s s' st st':St}
def More(s t:St):Prop:=∀lv ix b,s.get lv ix=some b->t.get lv ix=some b
theorem More.mask(st:St):More st.mask st:=by
 intro lv ix b h;unfold St.mask St.get at h;unfold St.get;simp only[List.length_map,jG]at h
 split at h
 ·rename_i h1;rw[if_pos h1];exact h
 ·rename_i h1
  simp only[Option.bind_eq_some_iff,Option.map_eq_some_iff]at h;obtain⟨r,⟨r0,_,rfl⟩,h⟩:=h
  simp[vis]at h
theorem More.blank(st:St):More .blank st:=by
 intro lv ix b h;unfold St.blank St.get at h
 split at h<;>simp[vis]at h
theorem ZXC(P:Nat->Bool):∀(L:List Blk) (i k:Nat),(ZY5 P k L)[i]?=(L[i]?).map fun b=>if P (k+i)=true then .hole 0 else b
 | [],i,k=>by simp[ZY5]
 | b::L,0,k=>by simp[ZY5]
 | b::L,i+1,k=>by
  simp only[ZY5,List.getElem?_cons_succ,ZXC P L i (k+1)]
  rw[show k+1+i=k+(i+1) by omega]
theorem ZiV(P:Nat->Nat->Bool):∀(A:List (Bool × List Blk)) (i k:Nat),(ZY6 P k A)[i]?=(A[i]?).map fun r=>(r.1,ZY5 (P (k+i)) 0 r.2)
 | [],i,k=>by simp[ZY6]
 | b::L,0,k=>by simp[ZY6]
 | b::L,i+1,k=>by
  simp only[ZY6,List.getElem?_cons_succ,ZiV P L i (k+1)]
  rw[show k+1+i=k+(i+1) by omega]
theorem ZU8(P:Nat->Nat->Bool):∀(A:List (Bool × List Blk)) (k:Nat),(ZY6 P k A).length=A.length
 | [],k=>rfl
 | b::L,k=>by simp only[ZY6,List.length_cons,ZU8 P L (k+1)]
theorem ZmS(c:Bool)(o:Option Blk):vis (o.map fun b=>if c=true then .hole 0 else b)=if c=true then none else vis o:=by
 cases o with
 | none=>cases c<;>rfl
 | some b=>cases c<;>simp[vis]
theorem XO(P:Nat->Nat->Bool)(st:St)(lv ix:Nat):(st.hide P).get lv ix=if P lv ix=true then none else st.get lv ix:=by
 unfold St.hide St.get;simp only[ZU8]
 by_cases h:lv=st.A.length
 ·subst h
  simp only[if_true,ZXC,Nat.zero_add];rw[<- ZmS]
 ·simp only[if_neg h,ZiV,Nat.zero_add]
  cases hA:st.A[lv]? with
  | none=>simp
  | some r=>simp only[Option.map_some,Option.bind_some,ZXC,Nat.zero_add];rw[<- ZmS]
theorem More.hide(P:Nat->Nat->Bool)(st:St):More (st.hide P) st:=by
 intro lv ix b h;rw[XO]at h
 split at h
 ·simp at h
 ·exact h
section
variable {s t:St}{e:Env}
theorem More.bind{α:Type}{lv:Nat}{f:Option Blk->Option α}(m:More s t)(h0:f none=none){v:α}(h:f (s.get lv ix)=some v):f (t.get lv ix)=some v:=by
 cases hb:s.get lv ix with
 | none=>rw[hb,h0]at h;simp at h
 | some b=>rw[m _ _ _ hb,<- hb];exact h
theorem More.wIs{lv ver:Nat}(m:More s t)(h:wIs w ver (s.get lv ix)=true):wIs w ver (t.get lv ix)=true:=by
 cases hb:s.get lv ix with
 | none=>rw[hb]at h;simp[QAbs.wIs]at h
 | some b=>rw[m _ _ _ hb,<- hb];exact h
theorem More.elems{l:LV}(m:More s t)(h:elems s x=some l):elems t x=some l:=by
 unfold QAbs.elems at *
 split at h<;>first|exact h|exact m.bind (f:=ZFG _ _ _) Y h
theorem More.loadP{g:Bool}(m:More s t)(h:loadP s g n x=some v):loadP t g n x=some v:=by
 unfold QAbs.loadP at *
 split at h<;>first|exact h|exact m.bind (f:=ZGp _ _ _ _ _) Y h
theorem More.slcV{lo hi:Option AV}(m:More s t)(h:slcV s w lo hi x=some v):slcV t w lo hi x=some v:=by
 unfold QAbs.slcV at *
 split at h
 ·exact h
 ·exact h
 ·simp only[Option.bind_eq_some_iff]at h ⊢
  obtain⟨a,ha,b,hb,h⟩:=h;refine⟨a,ha,b,hb,?_⟩
  split at h
  ·rename_i hw;rw[if_pos (m.wIs hw)];exact h
  ·simp at h
 ·exact h
theorem More.ixSV{i:AV}(m:More s t)(h:ixSV s w i x=some v):ixSV t w i x=some v:=by
 unfold QAbs.ixSV at *
 split at h
 ·exact h
 ·simp only[Option.bind_eq_some_iff]at h ⊢
  obtain⟨a,ha,h⟩:=h;refine⟨a,ha,?_⟩
  split at h
  ·rename_i hw;rw[if_pos (m.wIs hw)];exact h
  ·simp at h
 ·exact h
theorem More.lookV{ok:Bool}(m:More s t)(h:lookV s kk z ok k x=some v):lookV t kk z ok k x=some v:=by
 unfold QAbs.lookV at *
 simp only[Option.bind_eq_some_iff]at h ⊢;obtain⟨es,hes,h⟩:=h;refine⟨es,?_,h⟩
 unfold Zlm at *
 split at hes<;>first|exact hes|exact m.bind (f:=ZZZ) Y hes
theorem More.lenOf{k:Nat}{v:Nat}(m:More s t)(h:lenOf s k x=some v):lenOf t k x=some v:=by
 unfold QAbs.lenOf at *
 split at h<;>first|exact h|exact m.bind (f:=ZcG) Y h
theorem More.b2sV(m:More s t)(h:b2sV s x=some v):b2sV t x=some v:=by
 unfold QAbs.b2sV at *
 split at h
 ·exact h
 ·simp only[Option.bind_eq_some_iff]at h ⊢
  obtain⟨es,hes,h⟩:=h;exact⟨es,m.elems hes,h⟩
theorem ZIb{q q':Option AV}(h:q.bind (Qe s)=some (v,s'))(k:∀v0,q=some v0->q'=some v0):q'.bind (Qe t)=some (v,t)/\s'=s:=by
 simp only[Option.bind_eq_some_iff]at h;obtain⟨v0,h0,h1⟩:=h;obtain⟨rfl,rfl⟩:=ZU7 h1
 exact⟨by rw[k _ h0];rfl,rfl⟩
theorem QS{o:PO}(ho:o.reads=true)(m:More s t)(h:evalPO e s o=some (v,s')):evalPO e t o=some (v,t)/\s'=s:=by
 cases o<;>simp only[PO.reads,jB]at ho<;>simp only[evalPO]at h ⊢
 case mv=>simp at h;simp[h]
 case build =>
  simp only[Option.bind_eq_some_iff,Option.some.injEq,jP]at h ⊢;obtain⟨cs,h0,rfl,rfl⟩:=h;exact⟨⟨cs,h0,rfl,trivial⟩,rfl⟩
 case eqs =>
  simp only[Option.bind_eq_some_iff,Option.some.injEq,jP]at h ⊢;obtain⟨cs,h0,rfl,rfl⟩:=h;exact⟨⟨cs,h0,rfl,trivial⟩,rfl⟩
 case mkf=>simp at h;simp[h]
 case len =>
  simp only[Option.bind_eq_some_iff,Option.some.injEq,jP]at h ⊢;obtain⟨n,h0,rfl,rfl⟩:=h;exact⟨⟨n,m.lenOf h0,rfl,trivial⟩,rfl⟩
 case ld=>exact ZIb h fun _ q=>m.loadP q
 case slc=>exact ZIb h fun _ q=>m.slcV q
 case ixS=>exact ZIb h fun _ q=>m.ixSV q
 case look=>exact ZIb h fun _ q=>m.lookV q
 case b2s=>exact ZIb h fun _ q=>m.b2sV q
 all_goals exact ZIb h fun _ q=>q
end
section
variable {e e':Env}
theorem Qy{x:Opd}(h:∀t∈x.slots,look e t=look e' t):x.get e=x.get e':=by
 cases x with
 | s t=>exact h t (by simp[Opd.slots])
 | v a=>rfl
theorem Zb2{x:Option Opd}(h:∀t∈ZcO x,look e t=look e' t):ZGo e x=ZGo e' x:=by
 cases x with
 | none=>rfl
 | some x=>simp only[ZGo];rw[Qy h]
theorem ZU9:∀ {l:List Opd},(∀t∈ZTX l,look e t=look e' t)->Xu e l=Xu e' l
 | [],_=>rfl
 | x::xs,h=>by
  simp only[ZTX,List.mem_append]at h
  simp only[Xu];rw[Qy fun t ht=>h t (.inl ht),ZU9 fun t ht=>h t (.inr ht)]
theorem ZiW:∀ {l:List (Nat × Nat × Opd)},(∀t∈ZjQ l,look e t=look e' t)->Xq e l=Xq e' l
 | [],_=>rfl
 | x::xs,h=>by
  simp only[ZjQ,List.mem_append]at h
  simp only[Xq];rw[Qy fun t ht=>h t (.inl ht),ZiW fun t ht=>h t (.inr ht)]
theorem ZXD:∀ {l:List (Nat × Opd)},(∀t∈ZjR l,look e t=look e' t)->JU e l=JU e' l
 | [],_=>rfl
 | x::xs,h=>by
  simp only[ZjR,List.mem_append]at h
  simp only[JU];rw[Qy fun t ht=>h t (.inl ht),ZXD fun t ht=>h t (.inr ht)]
theorem YR{o:PO}(h:∀t∈o.slots,look e t=look e' t):evalPO e st o=evalPO e' st o:=by
 cases o<;>simp only[PO.slots,List.mem_append]at h<;>simp only[evalPO]
 case pick=>rw[Qy fun t ht=>h t (.inl ht),Qy fun t ht=>h t (.inr (.inl ht)),Qy fun t ht=>h t (.inr (.inr ht))]
 case build=>rw[ZiW h]
 case bslice=>rw[ZXD h]
 case mkf=>rw[ZU9 fun t ht=>h t (.inl ht),ZU9 fun t ht=>h t (.inr ht)]
 case slcS=>rw[Qy fun t ht=>h t (.inl ht),Zb2 fun t ht=>h t (.inr (.inl ht)),Zb2 fun t ht=>h t (.inr (.inr ht))]
 case slc=>rw[Qy fun t ht=>h t (.inl ht),Zb2 fun t ht=>h t (.inr (.inl ht)),Zb2 fun t ht=>h t (.inr (.inr ht))]
 case mupd=>rw[Qy fun t ht=>h t (.inl ht),Qy fun t ht=>h t (.inr (.inl ht)),Qy fun t ht=>h t (.inr (.inr ht))]
 all_goals first
  | done
  | rw[Qy h]
  | rw[Qy fun t ht=>h t (.inl ht),Qy fun t ht=>h t (.inr ht)]
theorem Zs3{o:PO}(h:∀t∈o.slots,look e t=look e' t):newOf e o=newOf e' o:=by
 cases o<;>simp only[PO.slots,List.mem_append]at h<;>simp only[newOf]
 case box=>rw[Qy h]
 case mkslice=>rw[Qy fun t ht=>h t (.inl ht),Qy fun t ht=>h t (.inr ht)]
theorem Zs4{o:PO}{k:WK}(h:∀t∈k.slots++o.slots,look e t=look e' t):Zs e st o k=Zs e' st o k:=by
 simp only[List.mem_append]at h
 have ho:∀t∈o.slots,look e t=look e' t:=fun t ht=>h t (.inr ht)
 cases k with
 | blind=>simp only[Zs];rw[YR ho]
 | imm =>
  simp only[Zs];unfold Zlo
  split
  ·simp only[PO.slots]at ho;rw[ZXD ho]
  ·rfl
 | app0 =>
  simp only[Zs];unfold ZLC
  split
  ·rename_i w bytes s x
   rw[YR ho];simp only[PO.slots,List.mem_append]at ho
   rw[Qy fun t ht=>ho t (.inl ht)]
  ·rfl
 | hide _ =>
  simp only[Zs]
  rw[ZU9 fun t ht=>h t (.inl ht),YR ho]
 | plain b =>
  simp only[Zs];unfold ZTU
  split
  ·rename_i n a x
   rw[YR ho,Qy fun t ht=>h t (.inl ht)]
   simp only[PO.slots,List.mem_append]at ho
   rw[Qy fun t ht=>ho t (.inl ht),Qy fun t ht=>ho t (.inr ht)]
  ·rfl
 | off b =>
  simp only[Zs];unfold Zqn
  split
  ·rename_i n a x
   rw[YR ho,Qy fun t ht=>h t (.inl ht)]
   simp only[PO.slots,List.mem_append]at ho
   rw[Qy fun t ht=>ho t (.inl ht),Qy fun t ht=>ho t (.inr ht)]
  ·rfl
 | only b =>
  simp only[Zs]
  rw[Qy fun t ht=>h t (.inl ht),YR ho]
 | first b n =>
  simp only[Zs]
  rw[Qy fun t ht=>h t (.inl ht),YR ho]
 | app0n n =>
  simp only[Zs];unfold ZLC
  split
  ·split
   ·rename_i w bytes s x
    rw[YR ho];simp only[PO.slots,List.mem_append]at ho
    rw[Qy fun t ht=>ho t (.inl ht)]
   ·rfl
  ·rfl
 | here j=>simp only[Zs];rw[Zs3 ho]
 | grow b =>
  simp only[Zs];unfold Zlp
  split
  ·rename_i w bytes sl x
   rw[YR ho,Qy fun t ht=>h t (.inl ht)]
   simp only[PO.slots,List.mem_append]at ho
   rw[Qy fun t ht=>ho t (.inl ht),Qy fun t ht=>ho t (.inr ht)]
  ·rfl
theorem ZiX{o:PO}{t:Nat}(h:t∈o.slots):t∈o.all:=by
 cases o<;>first|exact h|simp[PO.slots]at h
theorem ZrD{o:PO}(h:∀t∈o.all,look e t=look e' t):Zd O e st o=Zd O e' st o:=by
 cases o with
 | call m f l =>
  simp only[PO.all,PO.slots,List.mem_append]at h
  simp only[Zd];rw[Qy fun t ht=>h t (.inl ht),ZU9 fun t ht=>h t (.inr ht)]
 | w k o=>exact Zs4 h
 | _=>exact YR fun t ht=>h t (ZiX ht)
theorem Zs5{p:PI}(h:∀t∈p.op.all,look e t=look e' t):Qs O e st p=Qs O e' st p:=by
 unfold Qs
 rw[YR (fun t ht=>h t (ZiX ht)),ZrD h]
end
theorem ZoY{g:Option (Nat × Bool)}(h:∀t∈ZoA g,look e t=look e' t):wantedV e g=wantedV e' g:=by
 cases g with
 | none=>rfl
 | some g=>obtain⟨t,w⟩:=g;simp only[wantedV];rw[h t (by simp[ZoA])]
def ZLE(O:Orc)(p:PI)(e:Env)(st:St):Bool->OS
 | true=>Qs O e st p
 | false=>some (.undef,st)
def XJ(O:Orc)(p:PI)(e:Env)(st:St):OS:=(wantedV e p.guard).bind (ZLE O p e st)
theorem ZAR(O:Orc)(p:PI)(ps:List PI)(e:Env)(st:St):JK O (p::ps) e st=(XJ O p e st).bind fun r=>JK O ps (ZC5 e p.dst r.1) r.2:=by
 simp only[JK,XJ]
 cases wantedV e p.guard with
 | none=>rfl
 | some b =>
  cases b with
  | true=>simp only[Option.bind_some,Zn8,ZLE];rfl
  | false=>simp[Zn8,ZLE]
theorem ZVA{p:PI}(h:∀t∈p.slots,look e t=look e' t):XJ O p e st=XJ O p e' st:=by
 simp only[PI.slots,List.mem_append]at h;unfold XJ
 rw[ZoY fun t ht=>h t (.inl ht)]
 congr 1
 funext b
 cases b with
 | true=>exact Zs5 fun t ht=>h t (.inr ht)
 | false=>rfl
def EqE(e e':Env):Prop:=∀t,look e t=look e' t
theorem EqE.set(h:EqE e e')(d:Option Nat)(v:AV):EqE (ZC5 e d v) (ZC5 e' d v):=by
 intro t
 cases d with
 | none=>exact h t
 | some d=>simp only[ZC5,look];split;rfl;exact h t
theorem ZiY{O:Orc}:∀ {ps:List PI} {e e':Env} {st:St} {r:Env × St},EqE e e'->JK O ps e st=some r->∃r',JK O ps e' st=some r'/\EqE r.1 r'.1/\r'.2=r.2
 | [],e,e',st,r,h,hr=>by simp only[JK,Option.some.injEq]at hr;subst hr;exact⟨_,rfl,h,rfl⟩
 | p::ps,e,e',st,r,h,hr=>by
  rw[ZAR,Option.bind_eq_some_iff]at hr;obtain⟨q,hq,hr⟩:=hr;obtain⟨r',h1,h2,h3⟩:=ZiY (h.set p.dst q.1) hr
  exact⟨r',by rw[ZAR,<- ZVA fun t _=>h t,hq];exact h1,h2,h3⟩
theorem ZQ6{d:Option Nat}{l:List Nat}(h:notIn d l=true):∀t∈l,look (ZC5 e d v) t=look e t:=by
 intro t ht
 cases d with
 | none=>rfl
 | some d =>
  simp only[ZC5,look];rw[if_neg]
  rintro rfl
  simp[notIn,ht]at h
theorem ZrE{d d':Option Nat}{v':AV}(h:ZcP d d'=true):EqE (ZC5 (ZC5 e d v) d' v') (ZC5 (ZC5 e d' v') d v):=by
 intro t
 cases d with
 | none=>rfl
 | some d =>
  cases d' with
  | none=>rfl
  | some d' =>
   simp only[ZcP,bne_iff_ne,ne_eq]at h;simp only[ZC5,look]
   by_cases h1:d'=t
   ·rw[if_pos h1,if_neg (by omega),if_pos h1]
   ·rw[if_neg h1]
    split<;>simp
theorem ZqD{o:PO}(ho:o.pure=true){t:St}(h:evalPO e s o=some (v,s')):evalPO e t o=some (v,t)/\s'=s:=by
 cases o<;>simp only[PO.pure,jB]at ho<;>simp only[evalPO]at h ⊢
 case mv=>simp at h;simp[h]
 case build =>
  simp only[Option.bind_eq_some_iff,Option.some.injEq,jP]at h ⊢;obtain⟨cs,h0,rfl,rfl⟩:=h;exact⟨⟨cs,h0,rfl,trivial⟩,rfl⟩
 case eqs =>
  simp only[Option.bind_eq_some_iff,Option.some.injEq,jP]at h ⊢;obtain⟨cs,h0,rfl,rfl⟩:=h;exact⟨⟨cs,h0,rfl,trivial⟩,rfl⟩
 case mkf=>simp at h;simp[h]
 case len k x =>
  simp only[Option.bind_eq_some_iff,Option.some.injEq,jP]at h ⊢;obtain⟨n,h0,rfl,rfl⟩:=h;refine⟨⟨n,?_,rfl,trivial⟩,rfl⟩;unfold lenOf at h0 ⊢
  split at h0<;>simp_all
 all_goals exact ZIb h fun _ q=>q
theorem ZqE{L:List Blk}{c:Blk}(h:vis L[i]?=some c):L[i]?=some c:=by
 unfold vis at h
 split at h
 ·simp at h
 ·exact h
theorem Zcv{L:List Blk}{c:Blk}(h:vis L[i]?=some c):vis (L++[b])[i]?=some c:=by
 rw[jL (Zm (ZqE h))];exact h
theorem Zs6(h:s.new b=some (i,s')):More s s'/\s'.A=s.A/\s'.ro=s.ro/\∃c,s'.L=s.L++[c]:=by
 unfold St.new at h
 split at h
 ·simp at h
 ·simp only[Option.some.injEq,jP]at h
  obtain⟨rfl,rfl⟩:=h;refine⟨?_,rfl,rfl,b,rfl⟩;intro lv ix c hc;unfold St.get at hc ⊢
  simp only
  split at hc
  ·rename_i h1
   rw[if_pos h1];exact Zcv hc
  ·rename_i h1;rw[if_neg h1];exact hc
structure Adds(s s':St):Prop where
 more:More s s'
 mask:More s.mask s'.mask
theorem Adds.of_new(h:s.new b=some (i,s')):Adds s s':=by
 obtain⟨h1,h2,h3,c,h4⟩:=Zs6 h;refine⟨h1,?_⟩;intro lv ix d hd;unfold St.get St.mask at hd ⊢;simp only[h2,h4,List.length_map,jG]at hd ⊢
 split at hd
 ·rename_i h1
  rw[if_pos h1];exact Zcv hd
 ·rename_i h1;rw[if_neg h1];exact hd
theorem Adds.trans{t u:St}(h:Adds s t)(k:Adds t u):Adds s u:=⟨fun _ _ _ q=>k.more _ _ _ (h.more _ _ _ q),fun _ _ _ q=>k.mask _ _ _ (h.mask _ _ _ q)⟩
theorem ZvO{o:PO}(ho:o.adds=true)(h:evalPO e s o=some (v,s')):Adds s s':=by
 cases o<;>simp only[PO.adds,jB]at ho<;>simp only[evalPO]at h
 case onil =>
  simp only[Option.bind_eq_some_iff,JO,Option.some.injEq,jP]at h;obtain⟨⟨i,s1⟩,hn,_,rfl⟩:=h;exact .of_new hn
 case box =>
  simp only[Option.bind_eq_some_iff,X3,Option.some.injEq,jP]at h;obtain⟨w,_,⟨i,s1⟩,hn,_,rfl⟩:=h;exact .of_new hn
 case boxnil =>
  simp only[Option.bind_eq_some_iff,ZQ1,X3,Option.some.injEq,jP]at h;obtain⟨⟨i,s1⟩,hn,⟨j,s2⟩,hn2,_,rfl⟩:=h;exact (Adds.of_new hn).trans (.of_new hn2)
 case bslice own w z ps =>
  simp only[Zf5,ho,if_true,Option.bind_eq_some_iff,JO,Option.some.injEq,jP]at h;obtain⟨es,_,⟨i,s1⟩,hn,_,rfl⟩:=h;exact .of_new hn
 case mkmap =>
  simp only[Option.bind_eq_some_iff,ZUv,Option.some.injEq,jP]at h;obtain⟨⟨i,s1⟩,hn,_,rfl⟩:=h;exact .of_new hn
 case mkslice =>
  unfold ZiF at h
  split at h
  ·split at h
   ·simp only[Option.bind_eq_some_iff,JO,Option.some.injEq,jP]at h
    obtain⟨⟨i,s1⟩,hn,_,rfl⟩:=h;exact .of_new hn
   ·simp at h
  ·simp at h
theorem Yw{f:St->AV->OS}{st:St}:∀ {es:LV},(∀v,v∈es->f st v=some (v,st))->mapSt f st es=some (es,st)
 | [],_=>rfl
 | v::vs,h=>by
  have ih:mapSt f st vs=some (vs,st):=Yw (fun u hu=>h u (List.mem_cons_of_mem _ hu))
  simp only[mapSt,h v (List.mem_cons_self ..),Option.bind_some,ih,ZBv]
theorem ZDE:∀ {n b:Nat} {st:St} {v:AV},imm n v=true->Zb n b st v=some (v,st)
 | 0,_,_,_,h=>by simp[imm]at h
 | n+1,b,st,v,h=>by
  cases v<;>first
   | (simp only[imm,jB]at h;done)
   | (simp only[imm, List.all_eq_true]at h
      simp only[Zb,Yw (fun u hu=>ZDE (h u hu)),Option.bind_some,ZcE];done)
   | (rename_i cs
      have h':∀u,u∈cs->keepN (Zb n b) st u=some (u,st):=by
       intro u hu;have h2:=List.all_eq_true.1 h u hu;unfold keepN
       split
       ·rfl
       ·rename_i hn
        rw[Bool.or_eq_true]at h2;exact ZDE (h2.resolve_left hn)
      simp only[Zb,Yw h',Option.bind_some,Zf3];done)
   | (simp only[Zb];done)
theorem ZBE:∀ {n b:Nat} {st:St} {v:AV},ZA0 n b v=true->Zb n b st v=some (v,st)
 | 0,_,_,_,h=>by simp[ZA0]at h
 | n+1,b,st,v,h=>by
  cases v with
  | nils=>simp[ZA0]at h
  | ptr lv ix ver i o=>simp only[ZA0,decide_eq_true_eq]at h;simp only[Zb,if_pos h]
  | map lv ix=>simp only[ZA0,decide_eq_true_eq]at h;simp only[Zb,if_pos h]
  | ref lv ix ver s m=>simp only[ZA0,decide_eq_true_eq]at h;simp only[Zb,if_pos h]
  | agg cs =>
   have h':∀u,u∈cs->keepN (Zb n b) st u=some (u,st):=by
    intro u hu;have h2:=List.all_eq_true.1 h u hu;unfold keepN
    split
    ·rfl
    ·rename_i hn
     rw[Bool.or_eq_true]at h2;exact ZBE (h2.resolve_left hn)
   simp only[Zb,Yw h',Option.bind_some,Zf3]
  | tup cs =>
   simp only[ZA0,List.all_eq_true]at h
   simp only[Zb,Yw (fun u hu=>ZBE (h u hu)),Option.bind_some,ZcE]
  | func fn f c =>
   simp only[ZA0,Bool.and_eq_true,List.all_eq_true]at h
   simp only[Zb,if_pos h.1,Yw (fun u hu=>ZBE (h.2.1 u hu)),Yw (fun u hu=>ZBE (h.2.2 u hu)),Option.bind_some]
  | iface t v =>
   simp only[ZA0]at h;simp only[Zb,ZBE h,Option.bind_some,Zn4]
  | _=>simp only[Zb]
def ZCL:Blk->Option Nat
 | .hole j=>some j
 | _=>none
def ZBs(L:List Blk):List (Option Nat):=L.map ZCL
def JN(A:List (Bool × List Blk)):List (Bool × List (Option Nat)):=A.map fun r=>(r.1,ZBs r.2)
def HoleIn(A:List (Bool × List Blk))(M i:Nat):Prop:=∃r j,A[M]?=some r/\r.2[i]?=some (.hole j)
theorem HoleIn.of_tags{A:List (Bool × List Blk)}{M:Nat}(h:HoleIn A M i)(ht:JN A'=JN A):HoleIn A' M i:=by
 obtain⟨r,j,h1,h2⟩:=h
 have e1:(JN A)[M]?=some (r.1,ZBs r.2):=by unfold JN;rw[jG,h1];rfl
 rw[<- ht]at e1;unfold JN at e1;rw[jG,Option.map_eq_some_iff]at e1;obtain⟨r',h3,h4⟩:=e1
 have e2:(ZBs r.2)[i]?=some (some j):=by unfold ZBs;rw[jG,h2];rfl
 simp only[jP]at h4;rw[<- h4.2]at e2;unfold ZBs at e2;rw[jG,Option.map_eq_some_iff]at e2;obtain⟨b,h5,h6⟩:=e2
 cases b<;>simp[ZCL]at h6
 subst h6;exact⟨r',_,h3,h5⟩
def fillA(M i:Nat)(B:Blk)(A:List (Bool × List Blk)):List (Bool × List Blk):=A.modify M fun r=>(r.1,r.2.set i B)
def St.fillA(M i:Nat)(B:Blk)(st:St):St:={ st with A:=QAbs.fillA M i B st.A }
theorem QF(M i:Nat)(B:Blk)(A:List (Bool × List Blk)):(fillA M i B A).length=A.length:=by simp[fillA]
theorem Jw(M i:Nat)(B:Blk)(A:List (Bool × List Blk))(lv:Nat):(fillA M i B A)[lv]?=(A[lv]?).map fun r=>if M=lv then (r.1,r.2.set i B) else r:=by
 unfold fillA;rw[List.getElem?_modify]
 cases A[lv]?<;>simp
theorem Jx{M:Nat}{B:Blk}(h:HoleIn st.A M i):More st (st.fillA M i B):=by
 obtain⟨r,j,h1,h2⟩:=h;intro lv ix b hb;unfold St.get at hb ⊢;simp only[St.fillA,QF,Jw]
 split at hb
 ·rename_i hl;rw[if_pos hl];exact hb
 ·rename_i hl
  rw[if_neg hl];simp only[Option.bind_eq_some_iff]at hb;obtain⟨r',h3,h4⟩:=hb;rw[h3,Option.map_some,Option.bind_some]
  by_cases hM:M=lv
  ·subst hM
   rw[if_pos rfl];rw[h1]at h3;simp only[Option.some.injEq]at h3;subst h3
   have hne:i≠ix:=by
    intro q;subst q;rw[h2]at h4;simp[vis]at h4
   simp only[jS hne];exact h4
  ·rw[if_neg hM];exact h4
def LO{α:Type}(F:St->Option (α × St)):Prop:=∀(A A':List (Bool × List Blk)) (ro:Bool) (L:List Blk) (r:α × St),A'.length=A.length->F ⟨A,ro,L⟩=some r->r.2.A=A/\F ⟨A',ro,L⟩=some (r.1,⟨A',r.2.ro,r.2.L⟩)
def FrP{α:Type}(F:St->Option (α × St)):Prop:=∀(st:St) (r:α × St),F st=some r->JN r.2.A=JN st.A/\∀M i B,HoleIn st.A M i->F (st.fillA M i B)=some (r.1,r.2.fillA M i B)
theorem LO.fr{α:Type}{F:St->Option (α × St)}(h:LO F):FrP F:=by
 rintro⟨A,ro,L⟩ r hr
 obtain⟨h1,_⟩:=h A A ro L r rfl hr
 refine⟨by rw[h1],fun M i B hh=>?_⟩
 obtain⟨_,h2⟩:=h A (fillA M i B A) ro L r (QF _ _ _ _) hr;obtain⟨v,⟨A2,ro2,L2⟩⟩:=r
 simp only at h1;subst h1
 exact h2
theorem FrP.ret{α:Type}(v:α):FrP fun st=>some (v,st):=by
 intro st r h;simp only[Option.some.injEq]at h;subst h
 exact⟨rfl,fun _ _ _ _=>rfl⟩
theorem FrP.nope{α:Type}:FrP (α:=α) fun _=>none:=fun st r h=>by simp at h
theorem FrP.bind{α β:Type}{F:St->Option (α × St)}{G:α->St->Option (β × St)}(h:FrP F)(k:∀v,FrP (G v)):FrP fun st=>(F st).bind fun r=>G r.1 r.2:=by
 intro st r hr;simp only[Option.bind_eq_some_iff]at hr;obtain⟨q,hq,hr⟩:=hr;obtain⟨h1,h2⟩:=h st q hq;obtain⟨k1,k2⟩:=k q.1 q.2 r hr
 refine⟨k1.trans h1,fun M i B hh=>?_⟩
 simp only[h2 M i B hh,Option.bind_some];exact k2 M i B (hh.of_tags h1)
theorem LO.ret{α:Type}(v:α):LO fun st=>some (v,st):=by
 intro A A' ro L r _ h;simp only[Option.some.injEq]at h;subst h;exact⟨rfl,rfl⟩
theorem LO.bind{α β:Type}{F:St->Option (α × St)}{G:α->St->Option (β × St)}(h:LO F)(k:∀v,LO (G v)):LO fun st=>(F st).bind fun r=>G r.1 r.2:=by
 intro A A' ro L r hl hr;simp only[Option.bind_eq_some_iff]at hr;obtain⟨⟨v,A1,ro1,L1⟩,hq,hr⟩:=hr;obtain⟨h1,h2⟩:=h A A' ro L _ hl hq
 simp only at h1;subst h1
 obtain⟨k1,k2⟩:=k v A1 A' ro1 L1 r hl hr;refine⟨k1,?_⟩;simp only[h2,Option.bind_some];exact k2
theorem LO.cond{α:Type}{c:Prop}[Decidable c]{F G:St->Option (α × St)}(h:LO F)(k:LO G):LO fun st=>if c then F st else G st:=by
 by_cases hc:c
 ·simp only[if_pos hc];exact h
 ·simp only[if_neg hc];exact k
theorem LO.nope{α:Type}:LO (α:=α) fun _=>none:=fun A A' ro L r _ h=>by simp at h
theorem LO.new(b:Blk):LO fun st=>st.new b:=by
 intro A A' ro L r hl h;simp only[St.new]at h ⊢
 split at h
 ·simp at h
 ·rename_i hro
  simp only[Option.some.injEq]at h;subst h;rw[if_neg hro];exact⟨rfl,rfl⟩
theorem LO.opt{α β:Type}{q:Option α}{G:α->St->Option (β × St)}(k:∀v,LO (G v)):LO fun st=>q.bind fun v=>G v st:=by
 cases q with
 | none=>exact LO.nope
 | some v=>exact k v
theorem LO.mapSt{f:St->AV->OS}(h:∀v,LO fun st=>f st v):∀vs,LO fun st=>mapSt f st vs
 | []=>LO.ret []
 | v::vs=>LO.bind (F:=fun st=>f st v) (G:=fun x st=>(QAbs.mapSt f st vs).bind (ZBv x)) (h v) fun x=>LO.bind (F:=fun st=>QAbs.mapSt f st vs) (G:=fun l st=>some (x::l,st)) (LO.mapSt h vs) fun l=>LO.ret _
theorem LO.keepN{f:St->AV->OS}(h:∀v,LO fun st=>f st v)(v:AV):LO fun st=>QAbs.keepN f st v:=by
 unfold QAbs.keepN
 split
 ·exact LO.ret _
 ·exact h v
theorem LO.slV:∀(n b:Nat) (v:AV),LO fun st=>Zb n b st v
 | 0,b,v=>LO.nope
 | n+1,b,v=>by
  cases v with
  | ptr lv ix ver i o =>
   intro A A' ro L r hl h;simp only[Zb]at h ⊢
   split at h
   ·rename_i hc
    simp only[Option.some.injEq]at h;subst h;rw[if_pos hc];exact⟨rfl,rfl⟩
   ·rename_i hc
    rw[if_neg hc]
    split at h
    ·rename_i hd
     rw[if_pos (by rw[hl];exact hd)]
     exact (LO.opt (q:=Zn3 ver i L[ix]?) (G:=fun e st=>(Zb n 0 st e).bind (Zr9 o)) fun e=>LO.bind (G:=fun l st=>some (AV.lptr l o,st)) (LO.slV n 0 e) fun l=>LO.ret _) A A' ro (L.set ix .dead) r hl h
    ·simp at h
  | map lv ix=>exact LO.cond (F:=fun st=>some (AV.map lv ix,st)) (LO.ret _) LO.nope
  | ref lv ix ver s m =>
   intro A A' ro L r hl h;simp only[Zb]at h ⊢
   split at h
   ·rename_i hc
    simp only[Option.some.injEq]at h;subst h;rw[if_pos hc];exact⟨rfl,rfl⟩
   ·rename_i hc
    rw[if_neg hc]
    split at h
    ·rename_i hd
     rw[if_pos (by rw[hl];exact hd)]
     exact (LO.opt (q:=ZFG ver s m L[ix]?) (G:=fun es st=>(QAbs.mapSt (Zb n 0) st es).bind ZjK) fun es=>LO.bind (G:=fun l st=>some (AV.lit l,st)) (LO.mapSt (fun v=>LO.slV n 0 v) es) fun l=>LO.ret _) A A' ro (L.set ix .dead) r hl h
    ·simp at h
  | agg cs=>exact LO.bind (G:=fun l st=>some (AV.agg l,st)) (LO.mapSt (fun v=>LO.keepN (fun v=>LO.slV n b v) v) cs) fun l=>LO.ret _
  | tup cs=>exact LO.bind (G:=fun l st=>some (AV.tup l,st)) (LO.mapSt (fun v=>LO.slV n b v) cs) fun l=>LO.ret _
  | func fn f c =>
   by_cases hy:Zqm b fn=true
   case neg=>intro A A' ro L r hl h;simp[Zb,hy]at h
   have hq:(fun st=>Zb (n+1) b st (.func fn f c))=fun st=>(QAbs.mapSt (Zb n b) st f).bind fun r=>(QAbs.mapSt (Zb n b) r.2 c).bind fun q=>some (AV.func fn r.1 q.1,q.2):=by
    funext st;simp only[Zb,if_pos hy]
   rw[hq]
   exact LO.bind (G:=fun l st=>(QAbs.mapSt (Zb n b) st c).bind fun q=>some (AV.func fn l q.1,q.2)) (LO.mapSt (fun v=>LO.slV n b v) f) fun l=>LO.bind (G:=fun q st=>some (AV.func fn l q,st)) (LO.mapSt (fun v=>LO.slV n b v) c) fun q=>LO.ret _
  | iface t x=>exact LO.bind (G:=fun l st=>some (AV.iface t l,st)) (LO.slV n b x) fun l=>LO.ret _
  | nils=>exact LO.ret (AV.lit [])
  | _=>exact LO.ret (α:=AV) _
theorem FrP.read{α:Type}{q:St->Option α}(h:∀s t v,More s t->q s=some v->q t=some v):FrP fun st=>(q st).bind fun v=>some (v,st):=by
 intro st r hr;simp only[Option.bind_eq_some_iff,Option.some.injEq]at hr;obtain⟨v,hv,rfl⟩:=hr
 refine⟨rfl,fun M i B hh=>?_⟩
 simp only[h _ _ _ (Jx hh) hv,Option.bind_some]
theorem Zs7{L:List Blk}{b0:Blk}(h:L[ix]?=some b0)(h0:ZCL b0=ZCL b):ZBs (L.set ix b)=ZBs L:=by
 apply List.ext_getElem?
 intro i;simp only[ZBs,jG,List.getElem?_set]
 split
 ·rename_i hi
  subst hi;rw[if_pos (Zm h),h]
  simp[h0]
 ·rfl
theorem ZXE{lv:Nat}{b0:Blk}(hg:st.get lv ix=some b0)(hb:ZCL b=none)(h:st.put lv ix b=some st'):
 JN st'.A=JN st.A/\∀M i B,HoleIn st.A M i->(st.fillA M i B).put lv ix b=some (st'.fillA M i B):=by
 unfold St.put at h;unfold St.get at hg
 split at h
 ·rename_i hl
  split at h
  ·simp at h
  ·rename_i hro
   split at h
   ·rename_i hix
    simp only[Option.some.injEq]at h;subst h
    refine⟨rfl,fun M i B hh=>?_⟩
    subst hl
    simp[St.put,St.fillA,QF,hro,hix]
   ·simp at h
 ·rename_i hl
  rw[if_neg hl]at hg;simp only[Option.bind_eq_some_iff]at hg;obtain⟨r,hA,hv⟩:=hg;have hv1:=ZqE hv
  have h0:ZCL b0=none:=by
   cases b0<;>first|rfl|(rw[hv1]at hv;simp[vis]at hv)
  obtain⟨ro,bs⟩:=r;rw[hA]at h
  cases ro with
  | true=>simp[ZIR]at h
  | false =>
   simp only[ZIR]at h
   split at h
   ·rename_i hix
    simp only[Option.some.injEq]at h;subst h;have hlt:=Zm hA
    refine⟨?_,fun M i B hh=>?_⟩
    ·apply List.ext_getElem?
     intro k;simp only[JN,jG,List.getElem?_set]
     split
     ·rename_i hk
      subst hk
      first|rw[if_pos hlt,hA]|rw[hA]
      simp only[Option.map_some]
      rw[Zs7 hv1 (by rw[h0,hb])]
     ·rfl
    ·obtain⟨r,j,h1,h2⟩:=hh
     simp only[St.put,St.fillA,QF];rw[if_neg hl,Jw,hA];simp only[Option.map_some]
     by_cases hM:M=lv
     ·subst hM
      rw[if_pos rfl];rw[hA]at h1;simp only[Option.some.injEq]at h1;subst h1
      have hne:i≠ix:=by
       intro q;subst q;rw[h2]at hv1;simp only[Option.some.injEq]at hv1;rw[<- hv1]at h0;simp[ZCL]at h0
      simp only[ZIR,List.length_set,if_pos hix,Option.some.injEq,St.mk.injEq,and_true]
      apply List.ext_getElem?
      intro k;simp only[List.getElem?_set,Jw,QF]
      by_cases hk:M=k
      ·subst hk
       simp only[if_true,if_pos hlt,Option.map_some];rw[List.set_comm _ _ hne]
      ·simp only[if_neg hk]
     ·rw[if_neg hM]
      simp only[ZIR,if_pos hix,Option.some.injEq,St.mk.injEq,and_true]
      apply List.ext_getElem?
      intro k;simp only[List.getElem?_set,Jw,QF]
      by_cases hk:lv=k
      ·subst hk
       simp only[if_true,if_pos hlt,Option.map_some,if_neg hM]
      ·simp only[if_neg hk]
   ·simp at h
theorem FrP.congr{α:Type}{F G:St->Option (α × St)}(h:FrP F)(e:∀st,G st=F st):FrP G:=by
 have:G=F:=funext e
 rw[this];exact h
theorem ZvP{q:Option AV}:FrP fun st=>q.bind (Qe st):=by
 cases q with
 | none=>exact FrP.nope
 | some v=>exact FrP.ret v
theorem ZVB{q:St->Option AV}(h:∀s t v,More s t->q s=some v->q t=some v):FrP fun st=>(q st).bind (Qe st):=FrP.read h
theorem ZXF(b:Blk)(K:Nat->Nat->AV):FrP fun st=>(st.new b).bind fun r=>some (K st.A.length r.1,r.2):=by
 refine LO.fr ?_;intro A A' ro L r hl h;have h':(LO.new b)=(LO.new b):=rfl;simp only[Option.bind_eq_some_iff,Option.some.injEq]at h;obtain⟨⟨i,A1,ro1,L1⟩,hn,rfl⟩:=h;obtain⟨h1,h2⟩:=LO.new b A A' ro L _ hl hn
 simp only at h1;subst h1
 refine⟨rfl,?_⟩;simp only[h2,Option.bind_some,hl]
theorem ZrF(n lv ix ver i o:Nat)(x:AV):FrP fun st=>(Xp st n lv ix ver i o x (st.get lv ix)).bind ZCI:=by
 intro st r hr;simp only[Option.bind_eq_some_iff,ZCI,Option.some.injEq]at hr;obtain⟨st',h,rfl⟩:=hr
 cases hg:st.get lv ix with
 | none=>rw[hg]at h;simp[Xp]at h
 | some b0 =>
  rw[hg]at h
  cases b0 with
  | arr w ver' es =>
   simp only[Xp]at h
   split at h
   ·rename_i hv
    simp only[Option.bind_eq_some_iff]at h;obtain⟨el,h1,e',h2,h3⟩:=h;obtain⟨k1,k2⟩:=ZXE hg rfl h3
    refine⟨k1,fun M j B hh=>?_⟩
    simp only[Jx hh lv ix _ hg,Xp,if_pos hv,h1,h2,Option.bind_some,k2 M j B hh,ZCI]
   ·simp at h
  | _=>simp[Xp]at h
theorem ZrG(n:Nat)(x a:AV):FrP fun st=>(ZA7 st n x a).bind ZCI:=by
 cases a with
 | ptr lv ix ver i o =>
  exact (FrP.bind (F:=fun st=>Zb QK (lv+1) st x) (G:=fun v st=>(Xp st n lv ix ver i o v (st.get lv ix)).bind ZCI) (LO.slV _ _ _).fr fun v=>ZrF n lv ix ver i o v).congr fun st=>by
   simp only[ZA7,Option.bind_assoc];rfl
 | _=>exact FrP.nope.congr fun st=>rfl
theorem ZvQ(w bytes lv ix ver s n:Nat)(ys:LV):FrP fun st=>ZRL st w bytes lv ix ver s n ys (st.get lv ix):=by
 intro st r hr
 simp only at hr
 cases hg:st.get lv ix with
 | none=>simp only[hg,ZRL,reduceCtorEq]at hr
 | some b0 =>
  rw[hg]at hr
  cases b0 with
  | arr w' ver' es =>
   simp only[ZRL]at hr
   split at hr
   ·rename_i hc
    simp only[Option.bind_eq_some_iff,Option.some.injEq]at hr;obtain⟨st',h3,rfl⟩:=hr;obtain⟨k1,k2⟩:=ZXE hg rfl h3
    refine⟨k1,fun M j B hh=>?_⟩
    simp only[Jx hh lv ix _ hg,ZRL,if_pos hc,k2 M j B hh,Option.bind_some]
   ·simp at hr
  | _=>simp only[ZRL,reduceCtorEq]at hr
theorem ZoZ(w bytes:Nat)(ys:LV)(s:AV):FrP fun st=>Q4 st w bytes ys s:=by
 cases s with
 | nils =>
  by_cases hc:ys.length<4294967296/\bytes<=4096/\JH w ys=true
  ·exact (ZXF (.arr w 0 ys) fun lv ix=>.ref lv ix 0 0 ys.length).congr fun st=>by simp only[Q4,if_pos hc];rfl
  ·exact FrP.nope.congr fun st=>by simp only[Q4,if_neg hc]
 | lit es =>
  by_cases hc:ys.isEmpty=true
  ·exact (FrP.ret (AV.lit es)).congr fun st=>by simp only[Q4,if_pos hc]
  ·exact FrP.nope.congr fun st=>by simp only[Q4,if_neg hc]
 | ref lv ix ver b n =>
  by_cases hc:JH w ys=true
  ·exact (FrP.bind (F := fun st => mapSt (Zb QK (lv + 1)) st ys) (G := fun v st => ZRL st w bytes lv ix ver b n v (st.get lv ix)) (LO.mapSt (fun v => LO.slV _ _ v) ys).fr fun v => ZvQ w bytes lv ix ver b n v).congr fun st => by
    simp only[Q4,if_pos hc];rfl
  ·exact FrP.nope.congr fun st=>by simp only[Q4,if_neg hc]
 | _=>exact FrP.nope.congr fun st=>rfl
theorem ZvR(w lv ix ver s n:Nat)(ys:LV):FrP fun st=>ZjN st w lv ix ver s n ys (st.get lv ix):=by
 intro st r hr
 simp only at hr
 cases hg:st.get lv ix with
 | none=>simp only[hg,ZjN,reduceCtorEq]at hr
 | some b0 =>
  rw[hg]at hr
  cases b0 with
  | arr w' ver' es =>
   simp only[ZjN]at hr
   split at hr
   ·rename_i hc
    simp only[Option.bind_eq_some_iff,Option.some.injEq]at hr;obtain⟨st',h3,rfl⟩:=hr;obtain⟨k1,k2⟩:=ZXE hg rfl h3
    refine⟨k1,fun M j B hh=>?_⟩
    simp only[Jx hh lv ix _ hg,ZjN,if_pos hc,k2 M j B hh,Option.bind_some]
   ·simp at hr
  | _=>simp only[ZjN,reduceCtorEq]at hr
theorem ZvS(w:Nat)(ys:LV)(d:AV):FrP fun st=>Zn7 st w ys d:=by
 cases d with
 | ref lv ix ver b n =>
  by_cases hc:JH w ys=true
  ·exact (FrP.bind (F := fun st => mapSt (Zb QK (lv + 1)) st ys) (G := fun v st => ZjN st w lv ix ver b n v (st.get lv ix)) (LO.mapSt (fun v => LO.slV _ _ v) ys).fr fun v => ZvR w lv ix ver b n v).congr fun st => by
    simp only[Zn7,if_pos hc]
  ·exact FrP.nope.congr fun st=>by simp only[Zn7,if_neg hc]
 | _=>exact FrP.nope.congr fun st=>rfl
theorem ZvT(kk:Nat)(k v m:AV):FrP fun st=>(ZY4 st kk k v m).bind ZCI:=by
 cases m with
 | map lv ix =>
  by_cases hc:XK kk k=true
  ·refine (FrP.bind (F := fun st => Zb QK (lv + 1) st v) (G := fun x st => (ZcI lv ix k (x, st)).bind ZCI) (LO.slV _ _ _).fr fun x => ?_).congr fun st => by
    simp only[ZY4,if_pos hc,Option.bind_assoc]
   intro st r hr;simp only[Option.bind_eq_some_iff,ZCI,Option.some.injEq,ZcI]at hr;obtain⟨st',⟨es,h1,es',h2,h3⟩,rfl⟩:=hr
   cases hg:st.get lv ix with
   | none=>rw[hg]at h1;simp[ZZZ]at h1
   | some b0 =>
    obtain⟨k1,k2⟩:=ZXE hg rfl h3
    refine⟨k1,fun M j B hh=>?_⟩
    simp only[ZcI,Jx hh lv ix _ hg];rw[hg]at h1;simp only[h1,h2,Option.bind_some,k2 M j B hh,ZCI]
  ·exact FrP.nope.congr fun st=>by simp only[ZY4,if_neg hc];rfl
 | _=>exact FrP.nope.congr fun st=>rfl
theorem ZvU(kk:Nat)(k m:AV):FrP fun st=>(ZcJ st kk k m).bind ZsD:=by
 cases m with
 | map lv ix =>
  by_cases hc:XK kk k=true
  ·intro st r hr
   simp only[ZcJ,if_pos hc,Option.bind_eq_some_iff,ZsD,Option.some.injEq]at hr;obtain⟨st',⟨es,h1,es',h2,h3⟩,rfl⟩:=hr
   cases hg:st.get lv ix with
   | none=>rw[hg]at h1;simp[ZZZ]at h1
   | some b0 =>
    obtain⟨k1,k2⟩:=ZXE hg rfl h3
    refine⟨k1,fun M j B hh=>?_⟩
    simp only[ZcJ,if_pos hc,Jx hh lv ix _ hg];rw[hg]at h1;simp only[h1,h2,Option.bind_some,k2 M j B hh,ZsD]
  ·exact FrP.nope.congr fun st=>by simp only[ZcJ,if_neg hc];rfl
 | _=>exact FrP.nope.congr fun st=>rfl
theorem ZiZ(e:Env)(o:PO):FrP fun st=>evalPO e st o:=by
 cases o<;>simp only[evalPO]
 case mv=>exact FrP.ret _
 case onil w=>exact ZXF _ fun lv ix=>.ref lv ix 0 0 0
 case box x =>
  cases (x.get e).wide with
  | none=>exact FrP.nope
  | some w=>exact ZXF (.arr w 0 [x.get e]) fun lv ix=>.ptr lv ix 0 0 0
 case boxnil w =>
  refine LO.fr ?_;intro A A' ro L r hl h;simp only[Option.bind_eq_some_iff,ZQ1]at h;obtain⟨⟨i,A1,ro1,L1⟩,hn,⟨i2,A2,ro2,L2⟩,hn2,h⟩:=h;simp only[X3,Option.some.injEq]at h;subst h;obtain⟨h1,h2⟩:=LO.new _ A A' ro L _ hl hn
  simp only at h1;subst h1
  obtain⟨k1,k2⟩:=LO.new _ A1 A' ro1 L1 _ hl hn2
  simp only at k1;subst k1
  refine⟨rfl,?_⟩;simp only[h2,Option.bind_some,ZQ1,hl,k2,X3]
 case build z ps =>
  cases fillV z (Xq e ps) with
  | none=>exact FrP.nope
  | some cs=>exact FrP.ret _
 case bslice own w z ps =>
  cases fillE w z (JU e ps) with
  | none=>exact FrP.nope
  | some es =>
   cases own with
   | true=>exact ZXF (.arr w 0 es) fun lv ix=>.ref lv ix 0 0 es.length
   | false =>
    by_cases hc:es.isEmpty=true
    ·exact (FrP.ret AV.nils).congr fun st=>by simp only[Option.bind_some,Zf5,jB,if_false,if_pos hc]
    ·exact (FrP.bind (G := fun l st => some (AV.lit l, st)) (LO.mapSt (fun v => LO.slV _ 0 v) es).fr fun l => FrP.ret _).congr fun st => by
      simp only[Option.bind_some,Zf5,jB,if_false,if_neg hc];rfl
 case ld g n a=>exact ZVB fun s t v m h=>m.loadP h
 case st n a x=>exact ZrG n _ _
 case eqs neg kind ks x y =>
  cases eqV ks kind (x.get e) (y.get e) with
  | none=>exact FrP.nope
  | some b=>exact FrP.ret _
 case b2s x=>exact ZVB fun s t v m h=>m.b2sV h
 case mkf=>exact FrP.ret _
 case mkmap=>exact ZXF _ fun lv ix=>.map lv ix
 case mkslice w bytes z l c =>
  refine FrP.congr (F:=fun st=>(mkslB w bytes z (l.get e) (c.get e)).bind fun r=>(st.new r.1).bind fun q=>some (AV.ref st.A.length q.1 0 0 r.2,q.2)) ?_ ?_
  ·cases mkslB w bytes z (l.get e) (c.get e) with
   | none=>exact FrP.nope
   | some r=>exact ZXF r.1 fun lv ix=>.ref lv ix 0 0 r.2
  ·intro st
   unfold ZiF mkslB
   split
   ·split<;>rfl
   ·rfl
 case slc w x lo hi=>exact ZVB fun s t v m h=>m.slcV h
 case ixS w x i=>exact ZVB fun s t v m h=>m.ixSV h
 case look kk z ok x i=>exact ZVB fun s t v m h=>m.lookV h
 case mupd kk x k v=>exact ZvT kk _ _ _
 case mdel kk x k=>exact ZvU kk _ _
 case len k x=>exact FrP.read (q:=fun st=>(lenOf st k (x.get e)).map fun (n:Nat)=>AV.int .i64 (n:Int)) (fun s t v m h=>by
  simp only[Option.map_eq_some_iff]at h ⊢;obtain⟨n,hn,rfl⟩:=h
  exact⟨n,m.lenOf hn,rfl⟩) |>.congr fun st=>by cases lenOf st k (x.get e)<;>rfl
 case app w bytes s x =>
  intro st r hr;simp only[Option.bind_eq_some_iff]at hr;obtain⟨ys,h1,h2⟩:=hr;obtain⟨k1,k2⟩:=ZoZ w bytes ys (s.get e) st r h2
  refine⟨k1,fun M i B hh=>?_⟩
  simp only[(Jx hh).elems h1,Option.bind_some,k2 M i B hh]
 case cpy w d x =>
  intro st r hr;simp only[Option.bind_eq_some_iff]at hr;obtain⟨ys,h1,h2⟩:=hr;obtain⟨k1,k2⟩:=ZvS w ys (d.get e) st r h2
  refine⟨k1,fun M i B hh=>?_⟩
  simp only[(Jx hh).elems h1,Option.bind_some,k2 M i B hh]
 case call=>exact FrP.nope
 case w=>exact FrP.nope
 all_goals exact ZvP
theorem More.hide2{t:St}(P:Nat->Nat->Bool)(m:More s t):More (s.hide P) (t.hide P):=by
 intro lv ix b h;rw[XO]at h ⊢
 split at h
 ·simp at h
 ·rename_i hp;rw[if_neg hp];exact m _ _ _ h
theorem fr_w(e:Env)(o:PO)(k:WK):FrP fun st=>Zs e st o k:=by
 cases k<;>simp only[Zs]
 case blind =>
  by_cases hc:o.reads=true
  ·cases hq:evalPO e .blank o with
   | none=>exact FrP.nope.congr fun st=>by simp[hc]
   | some r=>exact (FrP.ret r.1).congr fun st=>by simp[hc,Z8]
  ·exact FrP.nope.congr fun st=>by simp[hc]
 case imm =>
  unfold Zlo
  cases o<;>try exact FrP.nope
  rename_i own w z ps
  cases own with
  | true=>exact FrP.nope.congr fun st=>rfl
  | false =>
   cases hf:fillE w z (JU e ps) with
   | none=>exact FrP.nope.congr fun st=>by show (fillE w z (JU e ps)).bind (ZcM st)=none;rw[hf];rfl
   | some es =>
    by_cases hc:es.all (imm 6)=true
    ·exact (FrP.ret (if es.isEmpty=true then .nils else .lit es)).congr fun st=>by show (fillE w z (JU e ps)).bind (ZcM st)=_;rw[hf,Option.bind_some,ZcM,if_pos hc]
    ·exact FrP.nope.congr fun st=>by show (fillE w z (JU e ps)).bind (ZcM st)=none;rw[hf,Option.bind_some,ZcM,if_neg hc]
 case app0 =>
  unfold ZLC
  cases o<;>try exact FrP.nope
  rename_i w bytes s x
  by_cases hc:Xo (s.get e)=true
  ·exact (ZiZ e (.app w bytes s x)).congr fun st=>by simp only[if_pos hc]
  ·exact FrP.nope.congr fun st=>by simp only[if_neg hc]
 case hide az =>
  by_cases hc:o.reads=true
  ·refine (FrP.read (q:=fun st=>(evalPO e (st.hide (ZAc (Xu e az))) o).map (·.1)) (fun s t v m h=>?_)).congr fun st=>?_
   ·simp only[Option.map_eq_some_iff]at h ⊢
    obtain⟨⟨v0,s0⟩,h0,rfl⟩:=h;exact⟨_,(QS hc (m.hide2 _) h0).1,rfl⟩
   ·simp only[if_pos hc]
    cases evalPO e (st.hide (ZAc (Xu e az))) o<;>rfl
  ·exact FrP.nope.congr fun st=>by simp[hc]
 case first b n =>
  by_cases hc:o.reads=true/\Zuh n (b.get e)=true
  ·refine (FrP.read (q:=fun st=>(evalPO e (st.hide fun lv ix=>!YQ lv ix (b.get e)) o).map (·.1)) (fun s t v m h=>?_)).congr fun st=>?_
   ·simp only[Option.map_eq_some_iff]at h ⊢
    obtain⟨⟨v0,s0⟩,h0,rfl⟩:=h;exact⟨_,(QS hc.1 (m.hide2 _) h0).1,rfl⟩
   ·simp only[if_pos hc]
    cases evalPO e (st.hide fun lv ix=>!YQ lv ix (b.get e)) o<;>rfl
  ·exact FrP.nope.congr fun st=>by simp only[if_neg hc]
 case app0n n =>
  unfold ZLC
  cases o
  case app w bytes s x =>
   by_cases hc:Xo (s.get e)=true
   ·intro st r hr
    simp only[if_pos hc]at hr
    split at hr
    ·rename_i hn
     obtain⟨k1,k2⟩:=ZiZ e (.app w bytes s x) st r hr
     refine⟨k1,fun M i B hh=>?_⟩
     simp only[if_pos hc]
     rw[if_pos (show n<=(st.fillA M i B).L.length from hn)]
     exact k2 M i B hh
    ·simp at hr
   ·exact FrP.nope.congr fun st=>by simp only[if_neg hc];split<;>rfl
  all_goals exact FrP.nope.congr fun st=>by simp
 case only b =>
  by_cases hc:o.reads=true
  ·refine (FrP.read (q:=fun st=>(evalPO e (st.hide fun lv ix=>!YQ lv ix (b.get e)) o).map (·.1)) (fun s t v m h=>?_)).congr fun st=>?_
   ·simp only[Option.map_eq_some_iff]at h ⊢
    obtain⟨⟨v0,s0⟩,h0,rfl⟩:=h;exact⟨_,(QS hc (m.hide2 _) h0).1,rfl⟩
   ·simp only[if_pos hc]
    cases evalPO e (st.hide fun lv ix=>!YQ lv ix (b.get e)) o<;>rfl
  ·exact FrP.nope.congr fun st=>by simp[hc]
 case off b =>
  unfold Zqn
  cases o<;>try exact FrP.nope
  rename_i n a x
  by_cases hc:Zlq (b.get e) (a.get e) (x.get e)=true
  ·exact (ZiZ e (.st n a x)).congr fun st=>by simp only[if_pos hc]
  ·exact FrP.nope.congr fun st=>by simp only[if_neg hc]
 case plain b =>
  unfold ZTU
  cases o<;>try exact FrP.nope
  rename_i n a x
  by_cases hc:ZIU (a.get e) (b.get e)=true/\imm 6 (x.get e)=true
  ·exact (ZiZ e (.st n a x)).congr fun st=>by simp only[if_pos hc]
  ·exact FrP.nope.congr fun st=>by simp only[if_neg hc]
 case grow b =>
  unfold Zlp
  cases o<;>try exact FrP.nope
  rename_i w bytes sl x
  intro st r hr
  simp only at hr ⊢
  split at hr
  ·rename_i hc
   obtain⟨k1,k2⟩:=ZiZ e (.app w bytes sl x) st r hr
   refine⟨k1,fun M i B hh=>?_⟩
   have hr':=hr;simp only[evalPO,Option.bind_eq_some_iff]at hr';obtain⟨ys,h1,_⟩:=hr';rw[h1]at hc
   rw[if_pos (by rw[(Jx hh).elems h1];exact hc)]
   exact k2 M i B hh
  ·simp at hr
 case here j =>
  cases newOf e o with
  | none=>exact FrP.nope
  | some b =>
   refine LO.fr ?_;intro A A' ro L r hl h;simp only[Option.bind_some,ZcL]at h ⊢
   split at h
   ·rename_i hc
    rw[if_pos hc];simp only[Option.bind_eq_some_iff,ZcK,Option.some.injEq]at h ⊢;obtain⟨i,hi,rfl⟩:=h
    exact⟨rfl,i,hi,by rw[hl]⟩
   ·simp at h
def FrO(O:Orc):Prop:=∀f args,FrP fun st=>O f args st
theorem ZIc{M:Nat}{B:Blk}(h:HoleIn st.A M i):(st.fillA M i B).push=st.push.fillA M i B:=by
 obtain⟨r,j,h1,h2⟩:=h;have hlt:=Zm h1;simp only[St.push,St.fillA,St.mk.injEq,and_true]
 apply List.ext_getElem?
 intro k;rw[Jw]
 by_cases hk:k<st.A.length
 ·rw[jL (by rw[QF];exact hk),jL hk,Jw]
 ·rw[List.getElem?_append_right (by rw[QF];omega),List.getElem?_append_right (by omega),QF]
  cases hx:([(st.ro,st.L)]:List (Bool × List Blk))[k-st.A.length]? with
  | none=>rfl
  | some x=>simp only[Option.map_some];rw[if_neg (by omega)]
theorem HoleIn.push{M:Nat}(h:HoleIn st.A M i):HoleIn st.push.A M i:=by
 obtain⟨r,j,h1,h2⟩:=h
 exact⟨r,j,by simp only[St.push];rw[jL (Zm h1)];exact h1,h2⟩
theorem ZOI:∀ {A A':List (Bool × List Blk)} {r:Bool × List Blk},pop A=some (A',r)->A=A'++[r]
 | [],_,_,h=>by simp[pop]at h
 | [a],A',r,h=>by simp only[pop,Option.some.injEq,jP]at h;obtain⟨rfl,rfl⟩:=h;rfl
 | a::b::A,A',r,h=>by
  simp only[pop,Option.map_eq_some_iff,jP]at h;obtain⟨⟨A1,r1⟩,h1,rfl,rfl⟩:=h;rw[ZOI h1];rfl
theorem Zcw{A:List (Bool × List Blk)}{r:Bool × List Blk}{M:Nat}{B:Blk}(h:pop A=some (A',r))(hM:M<A'.length):pop (fillA M i B A)=some (fillA M i B A',r):=by
 have:=ZOI h;subst this
 have e:fillA M i B (A'++[r])=fillA M i B A'++[r]:=by
  apply List.ext_getElem?
  intro k;rw[Jw]
  by_cases hk:k<A'.length
  ·rw[jL hk,jL (by rw[QF];exact hk),Jw]
  ·rw[List.getElem?_append_right (by omega),List.getElem?_append_right (by rw[QF];omega),QF]
   cases hx:([r]:List (Bool × List Blk))[k-A'.length]? with
   | none=>rfl
   | some x=>simp only[Option.map_some];rw[if_neg (by omega)]
 rw[e,Yd]
theorem Zcx{r r':Bool × List Blk}{B':List (Bool × List Blk)}(h:JN (A'++[r])=JN (B'++[r'])):JN A'=JN B'/\(r.1=r'.1/\ZBs r.2=ZBs r'.2):=by
 unfold JN at h ⊢;rw[List.map_append,List.map_append,jC,List.map_nil,jC,List.map_nil]at h
 have:=List.append_inj' h rfl
 exact⟨this.1,by simpa using this.2⟩
theorem Zcy{F:St->OS}(h:FrP F):FrP fun st=>(F st.push).bind fun r=>Y5 r:=by
 intro st r hr;simp only[Option.bind_eq_some_iff,Y5,ZcN,Option.some.injEq]at hr;obtain⟨⟨v,s1⟩,h1,⟨A',rr⟩,h2,rfl⟩:=hr;obtain⟨k1,k2⟩:=h _ _ h1
 simp only at k1 h2
 have e:=ZOI h2
 have ht:JN A'=JN st.A/\(rr.1=st.ro/\ZBs rr.2=ZBs st.L):=by
  rw[e]at k1;exact Zcx (r':=(st.ro,st.L)) k1
 refine⟨ht.1,fun M i B hh=>?_⟩
 have hl:A'.length=st.A.length:=by have:=congrArg List.length ht.1;simpa [JN] using this
 simp only[ZIc hh,k2 M i B hh.push,Option.bind_some,Y5]
 have hM:M<A'.length:=by obtain⟨r0,j,q1,q2⟩:=hh;rw[hl];exact Zm q1
 simp only[St.fillA,Zcw h2 hM,Option.bind_some,ZcN]
theorem Zoa{F:St->OS}(h:FrP F)(hr:(F st.push).bind (fun r=>Y5 r)=some (v,st')):
 (st'.A.length=st.A.length/\st'.ro=st.ro/\ZBs st'.L=ZBs st.L)/\∀(i j:Nat) (B:Blk),st.L[i]?=some (.hole j)->(F ({ st with L:=st.L.set i B }:St).push).bind (fun r=>Y5 r)=some (v,{ st' with L:=st'.L.set i B }):=by
 simp only[Option.bind_eq_some_iff,Y5,ZcN,Option.some.injEq]at hr;obtain⟨⟨v1,s1⟩,h1,⟨A',rr⟩,h2,h3⟩:=hr;simp only[jP]at h3;obtain⟨rfl,rfl⟩:=h3;obtain⟨k1,k2⟩:=h _ _ h1
 simp only at k1 h2
 have e:=ZOI h2
 have ht:JN A'=JN st.A/\(rr.1=st.ro/\ZBs rr.2=ZBs st.L):=by
  rw[e]at k1;exact Zcx (r':=(st.ro,st.L)) k1
 have hl:A'.length=st.A.length:=by have:=congrArg List.length ht.1;simpa [JN] using this
 refine⟨⟨hl,ht.2.1,ht.2.2⟩,fun i j B hh=>?_⟩
 have hp:({ st with L:=st.L.set i B }:St).push=st.push.fillA st.A.length i B:=by
  simp only[St.push,St.fillA,St.mk.injEq,and_true]
  apply List.ext_getElem?
  intro k;rw[Jw]
  by_cases hk:k<st.A.length
  ·rw[jL hk,jL hk,jE hk,Option.map_some,if_neg (by omega)]
  ·by_cases hk2:k=st.A.length
   ·subst hk2;simp
   ·rw[List.getElem?_eq_none (by simp;omega),List.getElem?_eq_none (by simp;omega)];rfl
 have hin:HoleIn st.push.A st.A.length i:=⟨(st.ro,st.L),j,by simp[St.push],hh⟩
 rw[hp];have q:=k2 st.A.length i B hin;rw[q,Option.bind_some];simp only[Y5,St.fillA,e]
 have e2:fillA st.A.length i B (A'++[rr])=A'++[(rr.1,rr.2.set i B)]:=by
  apply List.ext_getElem?
  intro k;rw[Jw]
  by_cases hk:k<A'.length
  ·rw[jL hk,jL hk,jE hk,Option.map_some,if_neg (by omega)]
  ·by_cases hk2:k=A'.length
   ·subst hk2;simp[hl]
   ·rw[List.getElem?_eq_none (by simp;omega),List.getElem?_eq_none (by simp;omega)];rfl
 rw[e2,Yd];rfl
theorem Zjo(hO:FrO O)(f:FuncId)(args:LV):FrP fun st=>(O f args st).bind fun r=>Zb QK r.2.A.length r.2 r.1 :=
 FrP.bind (G:=fun v st=>Zb QK st.A.length st v) (hO f args) fun v=>by
  intro st r hr;obtain⟨k1,k2⟩:=(LO.slV QK st.A.length v).fr st r hr
  refine⟨k1,fun M i B hh=>?_⟩
  have:=k2 M i B hh
  simp only[St.fillA,QF]at this ⊢;exact this
theorem ZVC(O:Orc)(f:FuncId)(args:LV)(st:St):Z4 O .inner f args st=(((fun st=>(O f args st).bind fun r=>Zb QK r.2.A.length r.2 r.1) st.push).bind fun r=>Y5 r):=by
 simp only[Z4,Option.bind_assoc];rfl
theorem ZId(hO:FrO O){f:FuncId}{args:LV}(h:Z4 O .inner f args st=some (v,st')):
 (st'.A.length=st.A.length/\st'.ro=st.ro/\ZBs st'.L=ZBs st.L)/\∀(i j:Nat) (B:Blk),st.L[i]?=some (.hole j)->Z4 O .inner f args { st with L:=st.L.set i B }=some (v,{ st' with L:=st'.L.set i B }):=by
 rw[ZVC]at h;obtain⟨h1,h2⟩:=Zoa (Zjo hO f args) h
 exact⟨h1,fun i j B hh=>by rw[ZVC];exact h2 i j B hh⟩
theorem ZOJ{M:Nat}{B:Blk}:(st.fillA M i B).allRo=st.allRo.fillA M i B:=by
 simp only[St.allRo,St.fillA,St.mk.injEq,and_true]
 apply List.ext_getElem?
 intro k;rw[Jw,jG,jG,Jw]
 cases st.A[k]? with
 | none=>rfl
 | some r=>simp only[Option.map_some];split<;>rfl
theorem HoleIn.allRo{M:Nat}(h:HoleIn st.A M i):HoleIn st.allRo.A M i:=by
 obtain⟨r,j,h1,h2⟩:=h
 exact⟨(true,r.2),j,by simp[St.allRo,h1],h2⟩
theorem ZZG{r:AV × St}(h:XL s v=some r):∃A' rr,pop s.A=some (A',rr)/\r.2.A=A'/\∀M i B,M<A'.length->XL (s.fillA M i B) v=some (r.1,r.2.fillA M i B):=by
 cases v with
 | ref lv ix ver b n =>
  simp only[XL]at h
  split at h
  ·rename_i hl
   unfold ZTW at h
   split at h
   ·rename_i w ver' es hL
    split at h
    ·rename_i hv
     simp only[Option.bind_eq_some_iff]at h;obtain⟨⟨A',rr⟩,hp,h⟩:=h;unfold ZTV at h
     split at h
     ·simp at h
     ·rename_i hc
      simp only[Option.some.injEq]at h;subst h
      refine⟨A',rr,hp,rfl,fun M i B hM=>?_⟩
      simp only[XL,St.fillA,QF];rw[if_pos hl,hL];simp only[ZTW,if_pos hv,Zcw hp hM,Option.bind_some,ZTV];rw[if_neg hc,QF]
    ·simp at h
   ·simp at h
  ·simp at h
 | nils =>
  simp only[XL,Y5,Option.bind_eq_some_iff,ZcN,Option.some.injEq]at h;obtain⟨⟨A',rr⟩,hp,rfl⟩:=h
  refine⟨A',rr,hp,rfl,fun M i B hM=>?_⟩
  simp only[XL,Y5,St.fillA,Zcw hp hM,Option.bind_some,ZcN]
 | _=>simp[XL]at h
theorem ZZH{r:AV × St}(h:ZAC (v,s)=some r):∃A' rr,pop s.A=some (A',rr)/\r.2.A=A'/\∀M i B,M<A'.length->ZAC (v,s.fillA M i B)=some (r.1,r.2.fillA M i B):=by
 unfold ZAC at h
 split at h
 ·rename_i v0 vs hv
  simp only at hv
  subst hv
  split at h
  ·rename_i hc
   simp only[Option.bind_eq_some_iff,ZsG,Option.some.injEq]at h;obtain⟨q,hq,rfl⟩:=h;obtain⟨A',rr,h1,h2,h3⟩:=ZZG hq
   refine⟨A',rr,h1,h2,fun M i B hM=>?_⟩
   simp only[ZAC,if_pos hc,h3 M i B hM,Option.bind_some,ZsG]
  ·simp at h
 ·rename_i hn
  obtain⟨A',rr,h1,h2,h3⟩:=ZZG h
  refine⟨A',rr,h1,h2,fun M i B hM=>?_⟩
  unfold ZAC
  split
  ·rename_i v0 vs hv
   exact absurd hv (hn v0 vs)
  ·exact h3 M i B hM
theorem ZvV{F:St->OS}(h:FrP F):FrP fun st=>(F st.push).bind ZAC:=by
 intro st r hr;simp only[Option.bind_eq_some_iff]at hr;obtain⟨⟨v,s1⟩,h1,h2⟩:=hr;obtain⟨k1,k2⟩:=h _ _ h1;obtain⟨A',rr,e1,e2,e3⟩:=ZZH h2
 simp only at k1
 have e:=ZOI e1
 have ht:JN A'=JN st.A/\(rr.1=st.ro/\ZBs rr.2=ZBs st.L):=by
  rw[e]at k1;exact Zcx (r':=(st.ro,st.L)) k1
 refine⟨by rw[e2];exact ht.1,fun M i B hh=>?_⟩
 have hl:A'.length=st.A.length:=by have:=congrArg List.length ht.1;simpa [JN] using this
 have hM:M<A'.length:=by obtain⟨r0,j,q1,q2⟩:=hh;rw[hl];exact Zm q1
 simp only[ZIc hh,k2 M i B hh.push,Option.bind_some];exact e3 M i B hM
theorem ZmT(hO:FrO O)(m:CM)(f:FuncId)(args:LV):FrP fun st=>Z4 O m f args st:=by
 cases m with
 | norm=>exact hO f args
 | own =>
  intro st r hr;simp only[Z4,Option.bind_eq_some_iff,Zlr]at hr;obtain⟨⟨v,s1⟩,h1,h2⟩:=hr
  split at h2
  ·rename_i hl
   simp only[Option.some.injEq]at h2;subst h2;obtain⟨k1,k2⟩:=hO f args _ _ h1
   refine⟨k1,fun M i B hh=>?_⟩
   have q:O f args { st.fillA M i B with ro:=true }=some (v,s1.fillA M i B):=k2 M i B hh
   show (O f args { st.fillA M i B with ro:=true }).bind (Zlr (st.fillA M i B))=_
   rw[q,Option.bind_some,Zlr,if_pos]
   ·rfl
   ·simp only[St.fillA,QF];exact hl
  ·simp at h2
 | pure =>
  intro st r hr;simp only[Z4,Option.bind_eq_some_iff,Z8,Option.some.injEq]at hr;obtain⟨⟨v,s1⟩,h1,rfl⟩:=hr;obtain⟨k1,k2⟩:=hO f args _ _ h1
  refine⟨rfl,fun M i B hh=>?_⟩
  simp only[Z4,ZOJ,k2 M i B hh.allRo,Option.bind_some,Z8]
 | inner=>exact (Zcy (Zjo hO f args)).congr fun st=>ZVC O f args st
 | move=>exact ZvV (hO f args)
 | give n =>
  intro st r hr;simp only[Z4]at hr
  split at hr
  ·rename_i hn
   simp only[Option.bind_eq_some_iff]at hr;obtain⟨⟨v,s1⟩,h1,h2⟩:=hr;obtain⟨k1,k2⟩:=hO f args _ _ h1;unfold ZiH at h2;obtain⟨A',rr,e1,e2,e3⟩:=ZZH h2;simp only[Yd,Option.some.injEq,jP]at e1;obtain⟨rfl,rfl⟩:=e1
   refine⟨by rw[e2],fun M i B hh=>?_⟩
   have hM:M<st.A.length:=by obtain⟨r0,j,q1,q2⟩:=hh;exact Zm q1
   simp only[Z4]
   rw[if_pos (show n<=(st.fillA M i B).L.length from hn),ZOJ,ZIc hh.allRo,show O f args (st.allRo.push.fillA M i B)=some (v,s1.fillA M i B) from k2 M i B hh.allRo.push,Option.bind_some]
   have q:=e3 M i B hM;have hp:=ZIc (B:=B) hh;unfold ZiH;rw[<- q];simp only[St.push,St.fillA,St.mk.injEq,and_true]at hp;simp only[St.fillA,hp]
  ·simp at hr
 | pin =>
  have h1:FrP fun st=>Z4 O .inner f args st:=(Zcy (Zjo hO f args)).congr fun st=>ZVC O f args st
  intro st r hr;have hr':(Z4 O .inner f args st.allRo).bind (Z8 st)=some r:=hr;simp only[Option.bind_eq_some_iff,Z8,Option.some.injEq]at hr';obtain⟨⟨v,s1⟩,h2,rfl⟩:=hr';obtain⟨k1,k2⟩:=h1 _ _ h2
  refine⟨rfl,fun M i B hh=>?_⟩
  have q:=k2 M i B hh.allRo;simp only[<- ZOJ]at q
  show (Z4 O .inner f args (st.fillA M i B).allRo).bind (Z8 (st.fillA M i B))=_
  rw[q];rfl
theorem Zs8(hO:FrO O)(m:CM)(args:LV)(v:AV):FrP fun st=>Xj O m args st v:=by
 unfold Xj
 split
 ·exact ZmT hO m _ _
 ·exact ZmT hO m _ _
 ·exact FrP.nope
theorem Zxl(hO:FrO O)(e:Env)(o:PO):FrP fun st=>Zd O e st o:=by
 have h:=ZiZ e o
 cases o
 case call m f args=>exact Zs8 hO m _ _
 case w k o=>exact fr_w e o k
 all_goals exact h
theorem Zob{M:Nat}{B:Blk}:(st.fillA M i B).mask=st.mask:=by
 simp only[St.mask,St.fillA,St.mk.injEq,and_true]
 apply List.ext_getElem?
 intro k;rw[jG,jG,Jw]
 cases st.A[k]?<;>rfl
theorem fr_I(hO:FrO O)(e:Env)(i:PI):FrP fun st=>Qs O e st i:=by
 unfold Qs
 by_cases h:i.own=true
 ·simp only[if_pos h]
  by_cases hr:i.op.reads=true
  ·simp only[if_pos hr]
   intro st r hr';simp only[Option.bind_eq_some_iff,Z8,Option.some.injEq]at hr';obtain⟨q,hq,rfl⟩:=hr'
   refine⟨rfl,fun M j B hh=>?_⟩
   simp only[Zob,hq,Option.bind_some,Z8]
  ·simp only[if_neg hr];exact FrP.nope
 ·simp only[if_neg h];exact Zxl hO e i.op
theorem ZqF{O:Orc}(hO:FrO O):∀(is:List PI) (e:Env),FrP fun st=>JK O is e st
 | [],e=>FrP.ret e
 | i::is,e=>by
  refine FrP.congr (F:=fun st=>(wantedV e i.guard).bind fun b=>match b with
   | true=>(Qs O e st i).bind fun r=>JK O is (ZC5 e i.dst r.1) r.2
   | false=>JK O is (ZC5 e i.dst .undef) st) ?_ ?_
  ·cases wantedV e i.guard with
   | none=>exact FrP.nope
   | some b =>
    cases b with
    | true=>exact FrP.bind (G:=fun v st=>JK O is (ZC5 e i.dst v) st) (fr_I hO e i) fun v=>ZqF hO is _
    | false=>exact ZqF hO is _
  ·intro st
   simp only[JK]
   cases wantedV e i.guard with
   | none=>rfl
   | some b=>cases b<;>rfl
def FrX(F:Run):Prop:=∀e,FrP fun st=>(F e st).map fun r=>((r.1,r.2.1),r.2.2)
theorem FrX.to{F:Run}(h:FrX F){r:Ex × Env × St}(hr:F e st=some r):JN r.2.2.A=JN st.A/\∀M i B,HoleIn st.A M i->F e (st.fillA M i B)=some (r.1,r.2.1,r.2.2.fillA M i B):=by
 obtain⟨h1,h2⟩:=h e st ((r.1,r.2.1),r.2.2) (by simp only[hr,Option.map_some])
 refine⟨h1,fun M i B hh=>?_⟩
 have:=h2 M i B hh
 simp only[Option.map_eq_some_iff,jP]at this;obtain⟨q,hq,⟨q1,q2⟩,q3⟩:=this;rw[hq];obtain⟨a,b,c⟩:=q
 simp only at q1 q2 q3
 rw[q1,q2,q3]
theorem FrX.of{F:Run}(h:∀e st r,F e st=some r->JN r.2.2.A=JN st.A/\∀M i B,HoleIn st.A M i->F e (st.fillA M i B)=some (r.1,r.2.1,r.2.2.fillA M i B)):FrX F:=by
 intro e st r hr;simp only[Option.map_eq_some_iff]at hr;obtain⟨q,hq,rfl⟩:=hr;obtain⟨h1,h2⟩:=h e st q hq
 exact⟨h1,fun M i B hh=>by simp only[h2 M i B hh,Option.map_some]⟩
theorem ZmU{F:Run}(h:FrX F){x:Ex × Env × St}{r:Ex × Env × St}(hr:ZC6 F x=some r):JN r.2.2.A=JN x.2.2.A/\∀M i B,HoleIn x.2.2.A M i->ZC6 F (x.1,x.2.1,x.2.2.fillA M i B)=some (r.1,r.2.1,r.2.2.fillA M i B):=by
 obtain⟨x,e,st⟩:=x
 cases x with
 | norm=>exact h.to hr
 | ex id=>simp only[ZC6,Option.some.injEq]at hr;subst hr;exact⟨rfl,fun _ _ _ _=>rfl⟩
 | ret=>simp only[ZC6,Option.some.injEq]at hr;subst hr;exact⟨rfl,fun _ _ _ _=>rfl⟩
theorem Zcz{F:Run}{K:Ex × Env × St->Option (Ex × Env × St)}(h:FrX F)(k:∀x r,K x=some r->JN r.2.2.A=JN x.2.2.A/\∀M i B,HoleIn x.2.2.A M i->K (x.1,x.2.1,x.2.2.fillA M i B)=some (r.1,r.2.1,r.2.2.fillA M i B)):
 FrX fun e st=>(F e st).bind K:=by
 refine FrX.of fun e st r hr=>?_
 simp only[Option.bind_eq_some_iff]at hr;obtain⟨x,hx,hr⟩:=hr;obtain⟨h1,h2⟩:=h.to hx;obtain⟨k1,k2⟩:=k x r hr
 exact⟨k1.trans h1,fun M i B hh=>by simp only[h2 M i B hh,Option.bind_some];exact k2 M i B (hh.of_tags h1)⟩
theorem ZmV{F:Run}(h:FrX F):∀n,FrX (ZAy F n)
 | 0=>FrX.of fun e st r hr=>by simp[ZAy]at hr
 | n+1=>Zcz h fun x r hr=>ZmU (ZmV h n) hr
theorem Zs9(hO:FrO O)(n:Nat):∀pc:PC,FrX (exec O (fun F=>ZAy F n) pc):=by
 intro pc
 induction pc with
 | skip=>exact FrX.of fun e st r hr=>by simp only[exec,Option.some.injEq]at hr;subst hr;exact⟨rfl,fun _ _ _ _=>rfl⟩
 | ret=>exact FrX.of fun e st r hr=>by simp only[exec,Option.some.injEq]at hr;subst hr;exact⟨rfl,fun _ _ _ _=>rfl⟩
 | exit id=>exact FrX.of fun e st r hr=>by simp only[exec,Option.some.injEq]at hr;subst hr;exact⟨rfl,fun _ _ _ _=>rfl⟩
 | seq a b iha ihb=>exact Zcz iha fun x r hr=>ZmU ihb hr
 | ite c a b iha ihb =>
  refine FrX.of fun e st r hr=>?_
  simp only[exec]at hr ⊢;unfold Zls at hr ⊢
  split at hr
  ·exact iha.to hr
  ·exact ihb.to hr
  ·simp at hr
 | block id b ih =>
  refine Zcz ih fun x r hr=>?_
  obtain⟨x,e,st⟩:=x
  cases x with
  | norm=>simp only[ZC7,Option.some.injEq]at hr;subst hr;exact⟨rfl,fun _ _ _ _=>rfl⟩
  | ret=>simp only[ZC7,Option.some.injEq]at hr;subst hr;exact⟨rfl,fun _ _ _ _=>rfl⟩
  | ex id' =>
   simp only[ZC7]at hr ⊢
   split at hr<;>simp only[Option.some.injEq]at hr<;>subst hr
   ·rename_i hi;exact⟨rfl,fun _ _ _ _=>by rw[if_pos hi]⟩
   ·rename_i hi;exact⟨rfl,fun _ _ _ _=>by rw[if_neg hi]⟩
 | loop b ih=>exact ZmV ih n
 | reg keep is =>
  refine FrX.of fun e st r hr=>?_
  simp only[exec,Option.bind_eq_some_iff,ZZa,Option.some.injEq]at hr;obtain⟨q,hq,rfl⟩:=hr;obtain⟨h1,h2⟩:=ZqF hO is e st q hq
  exact⟨h1,fun M i B hh=>by simp only[exec,h2 M i B hh,Option.bind_some,ZZa]⟩
 | regH js keep is =>
  refine FrX.of fun e st r hr=>?_
  simp only[exec,Option.bind_eq_some_iff,ZZa,Option.some.injEq,Zn9]at hr;obtain⟨s1,hs,q,hq,rfl⟩:=hr
  split at hs
  ·simp at hs
  ·rename_i hro
   simp only[Option.some.injEq]at hs;subst hs;obtain⟨h1,h2⟩:=ZqF hO is e _ q hq
   refine⟨h1,fun M i B hh=>?_⟩
   have:=h2 M i B hh
   have hp:Zn9 js (st.fillA M i B)=some (({ st with L:=st.L++js.map Blk.hole }:St).fillA M i B):=by
    unfold Zn9;exact if_neg hro
   simp only[exec,hp,Option.bind_some]
   simp only at this
   rw[this];rfl
theorem ZvW{rv:RV}{M:Nat}{B:Blk}(hh:HoleIn st.A M i)(h:ZCJ st e rv=some v):ZCJ (st.fillA M i B) e rv=some v:=by
 cases rv with
 | s t=>exact h
 | c t agg n=>exact (Jx hh).loadP h
theorem ZqG{st:St}{e:Env}{M i:Nat}{B:Blk}(hh:HoleIn st.A M i):∀ {rs:List RV} {vs:LV},ZC8 st e rs=some vs->ZC8 (st.fillA M i B) e rs=some vs
 | [],vs,h=>h
 | r::rs,vs,h=>by
  simp only[ZC8,Option.bind_eq_some_iff,Option.map_eq_some_iff]at h ⊢;obtain⟨v,hv,ws,hw,rfl⟩:=h;exact⟨v,ZvW hh hv,ws,ZqG hh hw,rfl⟩
theorem Zia(e:Env)(rs:List RV):∀st v,Qo st e rs=some v->∀M i B,HoleIn st.A M i->Qo (st.fillA M i B) e rs=some v:=by
 intro st v h M i B hh;simp only[Qo,Option.map_eq_some_iff]at h ⊢;obtain⟨vs,hv,rfl⟩:=h;exact⟨vs,ZqG hh hv,rfl⟩
theorem ZtA{keep:Bool}{rs:List RV}{x:Ex × Env × St}{r:AV × St}(h:Jp keep rs x=some r):∃v,Qo x.2.2 x.2.1 rs=some v/\(if keep=true then Qe x.2.2 v else ZLD x.2.2 v)=some r/\∀st,Jp keep rs (x.1,x.2.1,st)=(Qo st x.2.1 rs).bind (if keep=true then Qe st else ZLD st):=by
 obtain⟨x,e,st⟩:=x
 cases x with
 | norm =>
  simp only[Jp,Option.bind_eq_some_iff]at h;obtain⟨v,h1,h2⟩:=h
  refine⟨v,h1,?_,fun st=>rfl⟩
  cases keep<;>exact h2
 | ret =>
  simp only[Jp,Option.bind_eq_some_iff]at h;obtain⟨v,h1,h2⟩:=h
  refine⟨v,h1,?_,fun st=>rfl⟩
  cases keep<;>exact h2
 | ex id=>simp[Jp]at h
theorem ZvX(hO:FrO O)(n:Nat)(pf:PF)(args:LV):FrP fun st=>Jh O (fun F=>ZAy F n) pf args st:=by
 have hx:=Zs9 hO n pf.body
 cases hk:pf.keep with
 | true =>
  intro st r hr;simp only[Jh,hk,if_true,Option.bind_eq_some_iff]at hr;obtain⟨x,h1,h2⟩:=hr;obtain⟨k1,k2⟩:=hx.to h1;obtain⟨v,e1,e2,e3⟩:=ZtA h2;simp only[if_true,Qe,Option.some.injEq]at e2;subst e2
  refine⟨k1,fun M i B hh=>?_⟩
  simp only[Jh,hk,if_true,k2 M i B hh,Option.bind_some];rw[e3,Zia _ _ _ _ e1 M i B (hh.of_tags k1)];rfl
 | false =>
  have h1:FrP fun st=>(exec O (fun F=>ZAy F n) pf.body (YK 0 args) st).bind fun x=>match x.1 with
   | .ex _=>none
   | _=>(Qo x.2.2 x.2.1 pf.res).bind fun v=>Zb QK x.2.2.A.length x.2.2 v:=by
   intro st r hr;simp only[Option.bind_eq_some_iff]at hr;obtain⟨x,q1,q2⟩:=hr;obtain⟨k1,k2⟩:=hx.to q1
   have key:∀x:Ex × Env × St,(match x.1 with
    | .ex _=>none
    | _=>(Qo x.2.2 x.2.1 pf.res).bind fun v=>Zb QK x.2.2.A.length x.2.2 v)=some r->JN r.2.A=JN x.2.2.A/\∀M i B,HoleIn x.2.2.A M i->(match x.1 with
    | .ex _=>none
    | _=>(Qo (x.2.2.fillA M i B) x.2.1 pf.res).bind fun v=>Zb QK (x.2.2.fillA M i B).A.length (x.2.2.fillA M i B) v)=some (r.1,r.2.fillA M i B):=by
    rintro⟨x,e,s⟩ q
    have main:(Qo s e pf.res).bind (fun v=>Zb QK s.A.length s v)=some r->JN r.2.A=JN s.A/\∀M i B,HoleIn s.A M i->(Qo (s.fillA M i B) e pf.res).bind (fun v=>Zb QK (s.fillA M i B).A.length (s.fillA M i B) v)=some (r.1,r.2.fillA M i B):=by
     intro q;simp only[Option.bind_eq_some_iff]at q;obtain⟨v,w1,w2⟩:=q;obtain⟨l1,l2⟩:=(LO.slV QK s.A.length v).fr s r w2
     refine⟨l1,fun M i B hh=>?_⟩
     have:=l2 M i B hh
     simp only[St.fillA,QF]at this ⊢;have w3:=Zia _ _ _ _ w1 M i B hh;simp only[St.fillA]at w3;rw[w3,Option.bind_some];exact this
    cases x with
    | norm=>exact main q
    | ret=>exact main q
    | ex id=>simp at q
   obtain⟨m1,m2⟩:=key x q2
   refine⟨m1.trans k1,fun M i B hh=>?_⟩
   simp only[k2 M i B hh,Option.bind_some];exact m2 M i B (hh.of_tags k1)
  refine (Zcy h1).congr fun st=>?_
  simp only[Jh,hk,jB,if_false,Option.bind_assoc]
  congr 1
  funext x
  obtain⟨x,e,s⟩:=x
  cases x<;>simp only[Jp,jB,if_false,Option.bind_assoc,ZLD,Option.bind_none]<;>rfl
end Go.QAbs
