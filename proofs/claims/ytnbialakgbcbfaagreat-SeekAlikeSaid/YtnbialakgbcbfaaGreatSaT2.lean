/- A part of the proof: Q, U, V, X, Y, P1, P2, P3, R1, R2, P4. No condition. -/
import Derived.Laws.BytesString
import Derived.Laws.StructEq
import Derived.Test.YtnbialakgbcbfaaGreatSaT1
set_option linter.unusedVariables false
set_option linter.unusedSimpArgs false
namespace Go.QAbs
open Go.RowKit (Below)
section
variable {P:Program} {W0:World} {B0:Bse} {st st':St} {ρ:Rho} {W:World} {e:Env} {a:Act}
theorem laid_one {x:Value} {w:Nat} (h:x.cells.size=w):Laid x.cells w [x]:=by
 refine ⟨fun y hy=>by simp only [List.mem_singleton] at hy;subst hy;exact h,fun i y hy j v hv=>?_⟩
 cases i with
 | zero=>simp only [List.getElem?_cons_zero,oJ] at hy;subst hy;simpa using hv
 | succ i=>simp at hy
theorem box_ok (hr:Rel W0 B0 st ρ W) {v:AV} {x:Value} {w i:Nat} {t:TypeId} (hv:R (cx st ρ W st.A.length) v x) (hw:v.wide=some w) (hn:News st (.arr w 0 [v]) i st') :
 ∃ ρ' W',(newVar t x).run P W=.ok ⟨W.heap.size,0,none⟩ W'∧Goes W0 B0 st ρ W st' ρ' W'∧R (cx st' ρ' W' st'.A.length) (.ptr st.A.length i 0 0 0) (.pointer (some ⟨W.heap.size,0,none⟩)):=by
 have hx:=(hv.wide (cx_ok _ _ _ _) hw).1
 have hla:=laid_one hx
 obtain ⟨g,hg⟩:=new_arr (elem:=t) hr hn (.cons hv (.nil _)) hla.1 (c:=1) (by simp) (by omega) hla.2
 refine ⟨_,_,?_,g,?_⟩
 ·simp [newVar,newRow]
 ·have hlen:=g.ev.len
  have:=(hg st'.A.length (by omega)).2 0 0
  simp only [Nat.zero_mul,Nat.zero_add] at this
  exact .ptr this
theorem boxnil_ok (hr:Rel W0 B0 st ρ W) {w i j:Nat} {st1:St} {t:TypeId} (hn:st.new (.arr w 0 [])=some (i,st1)) (hn2:st1.new (.arr 1 0 [.ref st.A.length i 0 0 0])=some (j,st')) :
 ∃ ρ' W',(newVar t (.slice none 0 0)).run P W=.ok ⟨W.heap.size,0,none⟩ W'∧Goes W0 B0 st ρ W st' ρ' W'∧R (cx st' ρ' W' st'.A.length) (.ptr st.A.length j 0 0 0) (.pointer (some ⟨W.heap.size,0,none⟩)):=by
 obtain ⟨g1,h1⟩:=new_nil hr (.of_new hn) none
 have hlen:=g1.ev.len
 have hv:R (cx st1 (upd ρ st.A.length i ⟨0,0,0⟩) W st1.A.length) (.ref st.A.length i 0 0 0) (.slice none 0 0):=.ref (h1 _ (by omega))
 obtain ⟨ρ',W',e1,g2,r2⟩:=box_ok (P:=P) (t:=t) g1.rel hv rfl (.of_new hn2)
 rw [hlen] at r2
 exact ⟨ρ',W',e1,g1.trans g2,r2⟩
theorem partsV_len (e:Env) (l:List (Nat × Nat × Opd)):(partsV e l).length=l.length:=by induction l with|nil=>rfl|cons p ps ih=>simp [partsV,ih]
theorem partsV_get (e:Env):∀ {l:List (Nat × Nat × Opd)} {i:Nat} {q:Nat × Nat × AV},(partsV e l)[i]?=some q→∃ p,l[i]?=some p∧q=(p.1,p.2.1,p.2.2.get e)
 | [],i,q,h=>by simp [partsV] at h
 | p::ps,0,q,h=>by simp only [partsV,List.getElem?_cons_zero,oJ] at h;exact ⟨p,rfl,h.symm⟩
 | p::ps,i+1,q,h=>by
  simp only [partsV,List.getElem?_cons_succ] at h ⊢
  exact partsV_get e h
theorem partsE_len (e:Env) (l:List (Nat × Opd)):(partsE e l).length=l.length:=by induction l with|nil=>rfl|cons p ps ih=>simp [partsE,ih]
theorem partsE_get (e:Env):∀ {l:List (Nat × Opd)} {i:Nat} {q:Nat × AV},(partsE e l)[i]?=some q→∃ p,l[i]?=some p∧q=(p.1,p.2.get e)
 | [],i,q,h=>by simp [partsE] at h
 | p::ps,0,q,h=>by simp only [partsE,List.getElem?_cons_zero,oJ] at h;exact ⟨p,rfl,h.symm⟩
 | p::ps,i+1,q,h=>by
  simp only [partsE,List.getElem?_cons_succ] at h ⊢
  exact partsE_get e h
theorem mapM_places {fs:List Field} {ps:List (Nat × Nat)} (h:places P fs=some ps) :
 (fs.mapM (fun f=>(do pure (f.offset,← sizeOf f.type):Sem (Nat × Nat)))).run P W=.ok ps W:=by
 unfold places at h
 induction fs generalizing ps with
 | nil=>simp at h;subst h;simp
 | cons f fs ih =>
  simp only [List.mapM_cons,Option.pure_def,Option.bind_eq_bind,oB,oM,oJ] at h
  obtain ⟨p,⟨n,hn,rfl⟩,qs,hqs,rfl⟩:=h
  simp only [List.mapM_cons,Sem.run_bind,run_sz hn,Result.andThen_ok,Sem.run_pure,ih hqs]
theorem build_ok {C:Cx} (ok:C.Ok) {t:TypeId} {z:AV} {cs:List AV} {parts:Array (Nat × Operand)} {l:List (Nat × Nat × Opd)} (hz:zeroC P t=some z)
 (he:EnvR C e a.tmps) (hf:fillV z.cells (partsV e l)=some cs) {place:Nat→Option (Nat × Nat)}
 (hpl:l.length=parts.toList.length∧∀ (i:Nat) (q:Nat × Nat × Opd) (p:Nat × Operand),l[i]?=some q→parts.toList[i]?=some p→place p.1=some (q.1,q.2.1)∧opd p.2=some q.2.2)
 (hrun:∀ zv:Value,(zeroValue t).run P W=.ok zv W→∀ cs',Instr.fill place zv.cells (parts.map fun (i,x)=>(i,a.eval x)).toList=some cs' →
  (Instr.build t (parts.map fun (i,x)=>(i,a.eval x))).run P W=.ok (.agg cs') W) :
 ∃ x,(Instr.build t (parts.map fun (i,x)=>(i,a.eval x))).run P W=.ok x W∧R C (.agg cs) x:=by
 obtain ⟨zv,hzr,hzc,_⟩:=run_zero (W:=W) hz
 have hzany:z.isAny=false:=by
  cases z<;>first|rfl|skip
  rename_i h
  unfold zeroC at hz
  cases hi:P.info? t with
  | none=>rw [hi] at hz;simp at hz
  | some i =>
   rw [hi] at hz;simp only [oS] at hz
   cases hzz:i.zero with
   | none=>rw [hzz] at hz;simp at hz
   | some v =>
    rw [hzz] at hz;simp only [oS] at hz
    unfold ofConst ofCell at hz
    split at hz<;>first|(simp at hz;done)|skip
    all_goals (split at hz<;>simp at hz)
 have hcells:=(hzc C).cells ok hzany
 obtain ⟨cs',hfill,hr'⟩:=fillV_ok ok place (ps:=(parts.map fun (i,x)=>(i,a.eval x)).toList) hf hcells (by rw [partsV_len,hpl.1];simp) (by
  intro i p q hp hq
  obtain ⟨o,ho,rfl⟩:=partsV_get e hp
  rw [Array.toList_map,List.getElem?_map] at hq
  cases hpp:parts.toList[i]? with
  | none=>rw [hpp] at hq;simp at hq
  | some pp =>
   rw [hpp] at hq
   simp only [Option.map_some,oJ] at hq
   subst hq
   obtain ⟨k1,k2⟩:=hpl.2 i o pp ho hpp
   exact ⟨k1,opd_ok k2 he⟩)
 exact ⟨_,hrun zv hzr cs' hfill,.agg' hr'⟩
theorem bytesAV_RL (C:Cx) (l:List UInt8):RL C (bytesAV l) (l.map fun b=>Value.int .u8 b.toNat):=by
 induction l with
 | nil=>exact .nil _
 | cons b l ih=>exact .cons (.int _ _) ih
theorem flatC_bytes (l:List UInt8):flatC (l.map fun b=>Value.int .u8 b.toNat)=l.map fun b=>Value.int .u8 b.toNat:=by
 induction l with
 | nil=>rfl
 | cons b l ih=>simp only [flatC,List.map_cons,List.flatMap_cons] at ih ⊢;rw [ih];rfl
theorem sameW_mem {w:Nat} {es:List AV} (h:sameW w es=true) {v:AV} (hv:v∈es):v.wide=some w:=by
 have:=List.all_eq_true.1 h v hv;simpa using this
theorem firstCells_list {w n c:Nat} {b:Addr} {xs:List Value} (hl:xs.length=n) (hw:∀ x∈xs,x.cells.size=w) {bb oo:Nat} (hb:0<n→b=⟨bb,oo,none⟩)
 (hlies:∀ i x,xs[i]?=some x→Lies (cellP W) bb (oo+i*w) x):(Builtin.firstCells w n (.slice (some b) n c)).run P W=.ok (flatC xs).toArray W:=by
 have hlen:(flatC xs).length=n*w:=by rw [flatC_len hw,hl]
 have:=run_loadCells_list (P:=P) W b (flatC xs) (fun j v hv=>by
  have hj:=lt_of_get hv
  rw [hlen] at hj
  have hw0 : 0 < w := by rcases Nat.eq_zero_or_pos w with h0 | h0; · subst h0; omega
                         ·exact h0
  have hn0 : 0 < n := by rcases Nat.eq_zero_or_pos n with h0 | h0; · subst h0; omega
                         ·exact h0
  rw [hb hn0,add_mk]
  have hi:j / w<xs.length:=by rw [hl];exact Nat.div_lt_of_lt_mul (by rw [Nat.mul_comm];exact hj)
  have hx:=List.getElem?_eq_getElem hi
  have hxw:=hw _ (List.getElem_mem hi)
  have hjm:j % w<(xs[j / w]).cells.size:=by rw [hxw];exact Nat.mod_lt _ hw0
  have hget:=flatC_get hw hx (j:=j % w) (v:=(xs[j / w]).cells[j % w]) (Array.getElem?_eq_getElem hjm)
  have hdm:j / w*w+j % w=j:=by rw [Nat.mul_comm];exact Nat.div_add_mod j w
  rw [hdm,hv] at hget
  simp only [oJ] at hget
  have:=hlies _ _ hx (j % w) _ (Array.getElem?_eq_getElem hjm)
  rw [← hget] at this
  unfold cellP at this
  rw [show oo+j=oo+j / w*w+j % w by omega]
  exact this)
 rw [hlen] at this
 simp [Builtin.firstCells,this]
theorem firstCells_zero {w:Nat} {x:Value} (h:∃ b c,x=.slice b 0 c):(Builtin.firstCells w 0 x).run P W=.ok #[] W:=by
 obtain ⟨b,c,rfl⟩:=h
 cases b with
 | none=>simp [Builtin.firstCells]
 | some b =>
  have:=run_loadCells_list (P:=P) W b [] (by simp)
  simpa [Builtin.firstCells] using this
theorem elems_ok (hr:Rel W0 B0 st ρ W) {v:AV} {ys:List AV} (h:elems st v=some ys) {x:Value} (hx:R (cx st ρ W st.A.length) v x) {w:Nat} (hw:sameW w ys=true) :
 ∃ xs:List Value,(Builtin.lenOf x).run P W=.ok ys.length W∧(∀ W':World,(∀ c,W'.cell? c=W.cell? c)→(Builtin.firstCells w ys.length x).run P W'=.ok (flatC xs).toArray W')∧RL (cx st ρ W st.A.length) ys xs∧∀ y∈xs,y.cells.size=w:=by
 have hsize:∀ {C:Cx} (_:C.Ok) {xs:List Value},RL C ys xs→∀ y∈xs,y.cells.size=w:=by
  intro C ok xs hrl y hy
  obtain ⟨i,hi⟩:=List.getElem?_of_mem hy
  have hlt:=lt_of_get hi
  rw [← hrl.1] at hlt
  exact ((hrl.2 i _ y (List.getElem?_eq_getElem hlt) hi).wide ok (sameW_mem hw (List.getElem_mem hlt))).1
 unfold elems at h
 split at h
 ·simp only [oJ] at h;subst h
  cases hx with
  | nils b=>exact ⟨[],rfl,fun _ _=>firstCells_zero ⟨b,0,rfl⟩,.nil _,by simp⟩
 ·rename_i es
  simp only [oJ] at h;subst h
  obtain ⟨a',c,rfl,hc,hcase⟩:=lit_inv hx
  rcases hcase with rfl|⟨b,o,w',xs,rfl,g1,g2⟩
  ·exact ⟨[],rfl,fun _ _=>firstCells_zero ⟨a',c,rfl⟩,.nil _,by simp⟩
  ·have hrl : RL (cx st ρ W st.A.length).pure es ((List.range es.length).map xs) := by
    refine ⟨by simp,fun i e y he hy=>?_⟩
    have hi:=lt_of_get he
    rw [List.getElem?_map,List.getElem?_range hi] at hy
    simp only [Option.map_some,oJ] at hy;subst hy
    exact g1 i e he
   have hsz:=hsize (pure_cx_ok _) hrl
   refine ⟨_,rfl,fun W' hW=>firstCells_list (bb:=b) (oo:=o) (by simp) hsz (fun _=>rfl) ?_,hrl.mono (Cx.pure_le _),hsz⟩
   intro i y hy
   have hi:=lt_of_get hy
   simp only [List.length_map,List.length_range] at hi
   have hmem:=hsz y (List.mem_of_getElem? hy)
   rw [List.getElem?_map,List.getElem?_range hi] at hy
   simp only [Option.map_some,oJ] at hy;subst hy
   obtain ⟨g3,g4⟩:=g2 i hi
   have:w'=w:=by omega
   subst this
   exact g4.mono (fun _ _ _ h=>by unfold cellP;rw [hW];exact h.1)
 ·rename_i l
  simp only [oJ] at h;subst h
  have:=getStr hx;subst this
  have hrl:=bytesAV_RL (cx st ρ W st.A.length) l
  refine ⟨_,?_,?_,hrl,hsize (cx_ok _ _ _ _) hrl⟩
  ·simp [Builtin.lenOf,bytes_size,bytesAV]
  ·intro W' hW
   rw [flatC_bytes]
   simp [Builtin.firstCells,bytesAV,bytes_extract]
 ·rename_i lv ix ver s n
  cases hx with
  | ref hp =>
   obtain ⟨h1,h2,h3,a',c,rfl,h4⟩:=hp
   unfold refB at h
   split at h
   ·rename_i w0 ver' es hg
    split at h
    ·rename_i hc
     obtain ⟨rfl,hsn⟩:=hc
     simp only [oJ] at h;subst h
     obtain ⟨g1,g2,g3⟩:=h4 w0 es hg
     have aok:=hr.arr lv ix w0 ver es hg
     obtain ⟨xs,hxs,hl⟩:=aok.vals
     have hrl:=((hxs.drop s).take n).mono (cx_lv (ρ:=ρ) (W:=W) h1)
     have hsz:=hsize (cx_ok _ _ _ _) hrl
     have hnl:((es.drop s).take n).length=n:=by simp;omega
     refine ⟨_,by rw [hnl];rfl,?_,hrl,hsz⟩
     rw [hnl]
     intro W' hW
     rcases Nat.eq_zero_or_pos n with h0|h0
     ·subst h0
      simp only [List.take_zero,flatC,List.flatMap_nil]
      exact firstCells_zero ⟨a',c,rfl⟩
     ·have hal:=aok.len
      have ha:=g3 (by omega)
      subst ha
      refine firstCells_list (bb:=(ρ lv ix).b) (oo:=(ρ lv ix).o+s*w0) (by have:=hrl.1;rw [← hrl.1];exact hnl) hsz (fun _=>rfl) ?_
      intro i y hy
      have hyw:=hsz y (List.mem_of_getElem? hy)
      rw [List.getElem?_take] at hy
      split at hy
      ·rw [List.getElem?_drop] at hy
       obtain ⟨l1,l2⟩:=hl _ _ hy
       have:w0=w:=by omega
       subst this
       rw [show (ρ lv ix).o+s*w0+i*w0=(ρ lv ix).o+(s+i)*w0 by rw [Nat.add_mul];omega]
       exact l2.mono (fun _ _ _ h=>by unfold cellP;rw [hW];exact h)
      ·simp at hy
    ·simp at h
   ·simp at h
 ·simp at h
theorem grow_le (n:Nat):∀ (r c:Nat),c≤2*n+200→Builtin.growBy n r c≤2*n+200
 | 0,c,h=>h
 | r+1,c,h=>by
  simp only [Builtin.growBy]
  split
  ·exact h
  ·exact grow_le n r _ (by omega)
theorem next_le {n c:Nat} (h:c<n):Builtin.nextslicecap n c≤2*n+200:=by
 unfold Builtin.nextslicecap
 split
 ·omega
 ·split
  ·omega
  ·exact grow_le n 4 c (by omega)
theorem flatC_append (xs ys:List Value):flatC (xs++ys)=flatC xs++flatC ys:=by simp [flatC]
theorem laid_flat {xs:List Value} {w:Nat} (hw:∀ x∈xs,x.cells.size=w) (rest:Array Value):Laid ((flatC xs).toArray++rest) w xs:=by
 refine ⟨hw,fun i x hx j v hv=>?_⟩
 have h1:=flatC_get hw hx hv
 have:=lt_of_get h1
 rw [Array.getElem?_append_left (by simpa using this)]
 simpa using h1
end
end Go.QAbs
namespace Go.QAbs
open Go.RowKit (Below)
section
variable {P:Program} {W0:World} {B0:Bse} {st st':St} {ρ:Rho} {W:World} {e:Env} {a:Act}
theorem mulLit {b n:Nat} (hb:b≤4096) (hn:n≤10000000000):n*b≤40960000000000:=by
 have:=Nat.mul_le_mul hn hb;omega
theorem wrap_small {n:Int} (h0:0≤n) (h1:n<4294967296):IntKind.i64.wrap n=n:=by
 unfold IntKind.wrap IntKind.bits IntKind.signed
 simp only [Bool.true_and,decide_eq_true_eq]
 have h2:n % (2 ^ 64:Int)=n:=Int.emod_eq_of_lt h0 (by omega)
 rw [h2,if_neg (by omega)]
theorem bslice_run {t el:TypeId} {w n:Nat} {z:AV} {es:List AV} {parts:Array (Nat × Operand)} {l:List (Nat × Opd)} (ht:P.underlying t=some (.slice el)) (hs:sz P el=some w)
 (hw0:w≠0) (hsm:n*w≤16777216) (hz:zeroC P el=some z) (hzw:z.wide=some w) {C:Cx} (ok:C.Ok) (he:EnvR C e a.tmps) (hf:fillE w (List.replicate n z) (partsE e l)=some es)
 (hpl:l.length=parts.toList.length∧∀ (i:Nat) (q:Nat × Opd) (p:Nat × Operand),l[i]?=some q→parts.toList[i]?=some p→p.1=q.1∧opd p.2=some q.2) :
 ∃ cs xs,(Instr.buildSlice t n (parts.map fun (i,x)=>(i,a.eval x))).run P W=.ok (.slice (some ⟨W.heap.size,0,none⟩) n n) (W.alloc (.cells cs el))∧RL C es xs∧Laid cs w xs∧cs.size=n*w∧es.length=n:=by
 obtain ⟨zv,hzr,hzc,_⟩:=run_zero (W:=W) hz
 have hzs:=((hzc C).wide ok hzw).1
 obtain ⟨cs',xs',h1,h2,h3,h4,h5⟩:=fillE_ok ok (w:=w) (ps:=(parts.map fun (i,x)=>(i,a.eval x)).toList) (cs:=(Array.range (n*w)).map (fun i=>zv.cells[i % zv.cells.size]!)) hf (RL_replicate (hzc C) n)
  (zero_laid hzs hw0 (Nat.le_refl _)) (by simp) (by rw [partsE_len,hpl.1];simp) (by
   intro i p q hp hq
   obtain ⟨o,ho,rfl⟩:=partsE_get e hp
   rw [Array.toList_map,List.getElem?_map] at hq
   cases hpp:parts.toList[i]? with
   | none=>rw [hpp] at hq;simp at hq
   | some pp =>
    rw [hpp] at hq
    simp only [Option.map_some,oJ] at hq
    subst hq
    obtain ⟨k1,k2⟩:=hpl.2 i o pp ho hpp
    exact ⟨k1,opd_ok k2 he⟩)
 refine ⟨cs',xs',?_,h2,h3,by rw [h4];simp,by rw [h5];simp⟩
 have hmap0:n*w=0→(Array.range (n*w)).map (fun i=>(#[]:Array Value)[i % (#[]:Array Value).size]!)=(Array.range (n*w)).map (fun i=>zv.cells[i % zv.cells.size]!):=by
  intro h0;rw [h0];simp
 have h1':Instr.fill (fun i=>some (i*w,w)) ((Array.range (n*w)).map (fun i=>zv.cells[i % zv.cells.size]!)) (parts.map fun x=>(x.fst,a.eval x.snd)).toList=some cs':=h1
 simp only [Instr.buildSlice,Sem.run_bind,run_und ht,Result.andThen_ok,run_sz hs]
 rw [if_neg (by omega)]
 split
 ·rename_i h0
  simp only [Sem.run_bind,Sem.run_pure,Result.andThen_ok,hmap0 h0,h1']
  simp [newRow]
 ·simp only [Sem.run_bind,Sem.run_pure,Result.andThen_ok,hzr,h1']
  simp [newRow]
theorem bslK_ok (hr:Rel W0 B0 st ρ W) {own:Bool} {w n:Nat} {es:List AV} {xs:List Value} {cs:Array Value} {el:TypeId} {v:AV} (hx:RL (cx st ρ W st.A.length) es xs) (hla:Laid cs w xs)
 (hcs:cs.size=n*w) (hn:es.length=n) (h:bslK own w st es=some (v,st')) :
 ∃ ρ',Goes W0 B0 st ρ W st' ρ' (W.alloc (.cells cs el))∧R (cx st' ρ' (W.alloc (.cells cs el)) st'.A.length) v (.slice (some ⟨W.heap.size,0,none⟩) n n):=by
 unfold bslK at h
 split at h
 ·simp only [oB,newRefK,oJ,Prod.mk.injEq] at h
  obtain ⟨⟨i,st1⟩,hn1,rfl,rfl⟩:=h
  obtain ⟨g,hg⟩:=new_arr (elem:=el) hr (.of_new hn1) hx hla.1 (c:=n) (by omega) (by omega) hla.2
  have hlen:=g.ev.len
  have:=(hg st1.A.length (by omega)).1
  rw [hn] at this
  exact ⟨_,g,.ref (by rw [hn];exact this)⟩
 ·split at h
  ·rename_i hemp
   simp only [oJ,Prod.mk.injEq] at h
   obtain ⟨rfl,rfl⟩:=h
   have:n=0:=by rw [← hn];simpa using hemp
   subst this
   exact ⟨ρ,alloc_junk hr _,.nils _⟩
  ·simp only [oB,litK,oJ,Prod.mk.injEq] at h
   obtain ⟨⟨es',st1⟩,hm,rfl,rfl⟩:=h
   have g1:=alloc_junk hr (.cells cs el)
   obtain ⟨g2,r2⟩:=mapSt_ok (fun st v x v' st'=>sealV_ok deep 0 st v x v' st') g1.rel (Nat.zero_le _) (hx.mono (g1.ev.le _ (Nat.le_refl _))) hm
   refine ⟨ρ,g1.trans g2,?_⟩
   have hlen:es'.length=n:=by rw [r2.1,← hx.1,hn]
   have:=lit_ok (C:=cx st1 ρ (W.alloc (.cells cs el)) st1.A.length) (es:=es') (xs:=xs) (b:=W.heap.size) (o:=0) (w:=w) (c:=n) (a:=some ⟨W.heap.size,0,none⟩) r2 ?_ (by omega) (fun _=>rfl)
   ·rwa [hlen] at this
   ·intro i x hx'
    refine ⟨hla.1 x (List.mem_of_getElem? hx'),fun j u hu=>?_⟩
    have:=hr.new_im (t:=el) (hla.2 i x hx' j u hu)
    rw [show 0+i*w+j=i*w+j by omega]
    exact (g2.ev.le 0 (Nat.zero_le _)).im _ _ _ this
theorem mkslV_okN (hr:Rel W0 B0 st ρ W) {w bytes k num:Nat} {z l c:AV} {blk:Blk} (h:mkslB w bytes z l c=some (blk,num)) (hn:News st blk k st') {ul uc:Value} (hl:R (cx st ρ W st.A.length) l ul) (hc:R (cx st ρ W st.A.length) c uc)
 {t el:TypeId} {i:TypeInfo} (ht:P.underlying t=some (.slice el)) (hi:P.info? el=some i) (hsz:i.size=w) (hby:i.bytes=bytes) (hw0:w≠0) (hz:zeroC P el=some z) (hzw:z.wide=some w) :
 ∃ x ρ' W',(Instr.makeSlice t ul uc).run P W=.ok x W'∧Goes W0 B0 st ρ W st' ρ' W'∧R (cx st' ρ' W' st'.A.length) (.ref st.A.length k 0 0 num) x:=by
 unfold mkslB at h
 split at h
 ·rename_i l c
  split at h
  ·rename_i hcond
   obtain ⟨c1,c2,c3,c4⟩:=hcond
   simp only [oJ,Prod.mk.injEq] at h
   obtain ⟨rfl,rfl⟩:=h
   have:=getInt hl;subst this
   have:=getInt hc;subst this
   obtain ⟨zv,hzr,hzc,_⟩:=run_zero (W:=W) hz
   have hzs:=((hzc (cx st ρ W st.A.length)).wide (cx_ok _ _ _ _) hzw).1
   have hla:=zero_laid (n:=l.toNat) (c:=c.toNat) hzs hw0 (by omega)
   obtain ⟨g,hg⟩:=new_arr (elem:=el) hr hn (RL_replicate (hzc _) l.toNat) hla.1 (c:=c.toNat) (by simp;omega) (cs:=(Array.range (c.toNat*w)).map (fun i=>zv.cells[i % zv.cells.size]!)) (by simp) hla.2
   have hlen:=g.ev.len
   have hx:=(hg st'.A.length (by omega)).1
   simp only [List.length_replicate] at hx
   refine ⟨_,_,_,?_,g,.ref hx⟩
   have hs:sz P el=some w:=by simp [sz,hi,hsz]
   have wl:=wrap_small c1 (by omega)
   have wc:=wrap_small (n:=c) (by omega) c3
   have hbig:¬ (((bytes:Int)*c > 2 ^ 48)):=by
    have h1:=mulLit (b:=bytes) (n:=c.toNat) c4 (by omega)
    have h2:(bytes:Int)*c=((c.toNat*bytes:Nat):Int):=by
     rw [Int.natCast_mul,Int.mul_comm];congr 1;omega
    rw [h2]
    have:((2:Int) ^ 48)=281474976710656:=by decide
    omega
   have hbig2:¬ (((bytes:Int)*l > 2 ^ 48)):=by
    have:(bytes:Int)*l≤(bytes:Int)*c:=Int.mul_le_mul_of_nonneg_left c2 (by omega)
    omega
   have hmap0:c.toNat*w=0→(Array.range (c.toNat*w)).map (fun i=>(#[]:Array Value)[i % (#[]:Array Value).size]!)=(Array.range (c.toNat*w)).map (fun i=>zv.cells[i % zv.cells.size]!):=by
    intro h0;rw [h0];simp
   have ht1:(decide (c<0) || decide ((bytes:Int)*c > 2 ^ 48))=false:=by simp only [Bool.or_eq_false_iff,decide_eq_false_iff_not];exact ⟨by omega,hbig⟩
   simp only [Instr.makeSlice,Sem.run_bind,run_und ht,Result.andThen_ok,asInt,asIntOf,Sem.run_pure,run_info hi,hby,wl,wc,run_sz hs]
   rw [if_neg (by simp only [ht1,Bool.or_eq_true,decide_eq_true_eq,Bool.false_or,not_or];simp;omega)]
   simp only [Sem.run_bind,run_askRoom,Result.andThen_ok,run_sz hs,newRow,Sem.run_pure]
   split
   ·rename_i h0
    simp only [Sem.run_bind,Sem.run_pure,Result.andThen_ok,hmap0 h0,run_newObj]
    rfl
   ·simp only [Sem.run_bind,Sem.run_pure,Result.andThen_ok,hzr,run_newObj]
    rfl
  ·simp at h
 ·simp at h
theorem mkslV_ok (hr:Rel W0 B0 st ρ W) {w bytes:Nat} {z l c v:AV} (h:mkslV st w bytes z l c=some (v,st')) {ul uc:Value} (hl:R (cx st ρ W st.A.length) l ul) (hc:R (cx st ρ W st.A.length) c uc)
 {t el:TypeId} {i:TypeInfo} (ht:P.underlying t=some (.slice el)) (hi:P.info? el=some i) (hsz:i.size=w) (hby:i.bytes=bytes) (hw0:w≠0) (hz:zeroC P el=some z) (hzw:z.wide=some w) :
 ∃ x ρ' W',(Instr.makeSlice t ul uc).run P W=.ok x W'∧Goes W0 B0 st ρ W st' ρ' W'∧R (cx st' ρ' W' st'.A.length) v x:=by
 unfold mkslV at h
 split at h
 ·rename_i l c
  split at h
  ·rename_i hcond
   simp only [oB,newRefK,oJ,Prod.mk.injEq] at h
   obtain ⟨⟨k,st1⟩,hn1,rfl,rfl⟩:=h
   exact mkslV_okN hr (by unfold mkslB;exact if_pos hcond) (.of_new hn1) hl hc ht hi hsz hby hw0 hz hzw
  ·simp at h
 ·simp at h
theorem mapLen_inv {b:Option Blk} {n:Nat} (h:mapLen b=some n):∃ es,b=some (.map es)∧es.length=n:=by
 unfold mapLen at h
 split at h
 ·simp only [oJ] at h;exact ⟨_,rfl,h⟩
 ·simp at h
theorem lenOf_ok (hr:Rel W0 B0 st ρ W) {k:Nat} {v:AV} {n:Nat} (h:lenOf st k v=some n) {x:Value} (hx:R (cx st ρ W st.A.length) v x) {t:TypeId} {ty:TypeId}
 (h0:k=0→P.underlying t=some .string) (h1:k=1→∃ el,P.underlying t=some (.slice el)) (h2:k=2→∃ k el,P.underlying t=some (.map k el)) :
 (Builtin.len_ #[t] ty #[x]).run P W=.ok (.int .i64 n) W:=by
 unfold lenOf at h
 split at h
 ·simp only [oJ] at h;subst h
  obtain ⟨el,hk⟩:=h1 rfl
  cases hx with
  | nils b=>simp [Builtin.len_,run_und hk,goInt]
 ·simp only [oJ] at h;subst h
  obtain ⟨el,hk⟩:=h1 rfl
  obtain ⟨a',c,rfl,_⟩:=lit_inv hx
  simp [Builtin.len_,run_und hk,goInt]
 ·simp only [oJ] at h;subst h
  have:=getStr hx;subst this
  simp [Builtin.len_,run_und (h0 rfl),goInt,bytes_size]
 ·simp only [oJ] at h;subst h
  obtain ⟨el,hk⟩:=h1 rfl
  cases hx with
  | ref hp =>
   obtain ⟨_,_,_,a',c,rfl,_⟩:=hp
   simp [Builtin.len_,run_und hk,goInt]
 ·simp only [oJ] at h;subst h
  obtain ⟨k,el,hk⟩:=h2 rfl
  cases hx with
  | nilmap=>simp [Builtin.len_,run_und hk,goInt]
 ·obtain ⟨k,el,hk⟩:=h2 rfl
  rename_i lv ix
  obtain ⟨es,hg,rfl⟩:=mapLen_inv h
  cases hx with
  | map hp =>
   obtain ⟨_,_,r,rfl,h5⟩:=hp
   have:=h5 es hg;subst this
   obtain ⟨_,en,clock,m2,m3,_⟩:=hr.map lv ix es hg
   simp [Builtin.len_,run_und hk,goInt,getObj,Sem.run,m2,m3.sz]
 ·simp at h
theorem allBytes_ok {C:Cx}:∀ {es:List AV} {l:List UInt8} {xs:List Value},allBytes es=some l→RL C es xs →
 ∃ ns:List Int,xs=ns.map (fun n=>Value.int .u8 n)∧l=ns.map fun n=>UInt8.ofNat n.toNat
 | [],l,xs,h,hx=>by
  simp only [allBytes,oJ] at h;subst h
  rw [hx.nil_inv];exact ⟨[],rfl,rfl⟩
 | v::es,l,xs,h,hx=>by
  simp only [allBytes,oB,oM] at h
  obtain ⟨b,hb,l',hl',rfl⟩:=h
  obtain ⟨x,xs,rfl,h1,h2⟩:=hx.cons_inv
  unfold byteOf at hb
  split at hb
  ·rename_i n
   simp only [oJ] at hb;subst hb
   have:=getInt h1;subst this
   obtain ⟨ns,rfl,rfl⟩:=allBytes_ok hl' h2
   exact ⟨n::ns,rfl,rfl⟩
  ·simp at hb
theorem push_fold (ns:List Int) (s:ByteArray):ns.foldl (fun r n=>r.push (UInt8.ofNat n.toNat)) s=⟨s.data++(ns.map fun n=>UInt8.ofNat n.toNat).toArray⟩:=by
 induction ns generalizing s with
 | nil=>simp
 | cons n ns ih =>
  simp only [List.foldl_cons,ih,List.map_cons]
  congr 1
  apply Array.ext'
  simp [ByteArray.push]
theorem b2sV_ok (hr:Rel W0 B0 st ρ W) {x v:AV} (h:b2sV st x=some v) {u:Value} (hx:R (cx st ρ W st.A.length) x u):∃ z,(Conv.bytesToString u).run P W=.ok z W∧∀ D,R D v z:=by
 unfold b2sV at h
 split at h
 ·simp at h
 ·rename_i hns
  simp only [oB,oJ] at h
  obtain ⟨es,he,l,hl,rfl⟩:=h
  have hw:sameW 1 es=true:=by
   clear he
   induction es generalizing l with
   | nil=>rfl
   | cons v es ih =>
    simp only [allBytes,oB,oM] at hl
    obtain ⟨b,hb,l',hl',rfl⟩:=hl
    have:=ih l' hl'
    unfold sameW at this ⊢
    simp only [List.all_cons,this,Bool.and_true]
    unfold byteOf at hb
    split at hb
    ·rfl
    ·simp at hb
  obtain ⟨xs,h1,h2w,h3,h4⟩:=elems_ok (P:=P) hr he hx hw
  have h2:=h2w W (fun _=>rfl)
  clear h2w
  obtain ⟨ns,rfl,rfl⟩:=allBytes_ok hl h3
  have hfl:flatC (ns.map (fun n=>Value.int .u8 n))=ns.map (fun n=>Value.int .u8 n):=by
   clear h1 h2 h3 h4 hl
   induction ns with
   | nil=>rfl
   | cons n ns ih=>simp only [flatC,List.map_cons,List.flatMap_cons] at ih ⊢;rw [ih];rfl
  rw [hfl] at h2
  refine ⟨.string ⟨(ns.map fun n=>UInt8.ofNat n.toNat).toArray⟩,?_,fun _=>.str _⟩
  have hlen:es.length=ns.length:=by rw [h3.1];simp
  -- what kind of slice
  have hkind:∃ b c,u=.slice b es.length c:=by
   unfold elems at he
   split at he
   ·simp only [oJ] at he;subst he;cases hx with|nils b=>exact ⟨b,0,rfl⟩
   ·simp only [oJ] at he;subst he;obtain ⟨b,c,rfl,_⟩:=lit_inv hx;exact ⟨b,c,rfl⟩
   ·exact absurd rfl (hns _)
   ·cases hx with
    | ref hp =>
     obtain ⟨_,_,_,b,c,rfl,_⟩:=hp
     unfold refB at he
     split at he
     ·split at he
      ·rename_i hc
       simp only [oJ] at he;subst he
       exact ⟨b,c,by congr 1;simp;omega⟩
      ·simp at he
     ·simp at he
   ·simp at he
  obtain ⟨b,c,rfl⟩:=hkind
  cases b with
  | none =>
   simp only [Builtin.firstCells,Sem.run_pure,Result.ok.injEq,and_true] at h2
   have:ns=[]:=by
    cases ns with
    | nil=>rfl
    | cons n ns=>simp at h2
   subst this
   rfl
  | some b =>
   simp only [Builtin.firstCells,Nat.mul_one] at h2
   have:=run_bytesToString (P:=P) W b es.length c ns h2
   rw [this,push_fold]
   simp
end
end Go.QAbs
namespace Go.QAbs
open Go.RowKit (Below)
section
variable {P:Program} {W0:World} {B0:Bse} {st st':St} {ρ:Rho} {W:World} {e:Env} {a:Act}
theorem append_in {t u el ty:TypeId} {i:TypeInfo} {base:Option Addr} {n c m:Nat} {x:Value} {xs:List Value} (ht:P.underlying t=some (.slice el))
 (hu:(∃ el',P.underlying u=some (.slice el'))∨P.underlying u=some .string) (hi:P.info? el=some i) (hlen:(Builtin.lenOf x).run P W=.ok m W)
 (hfc:(Builtin.firstCells i.size m x).run P W=.ok (flatC xs).toArray W) (hroom:n+m≤c) {W':World}
 (hst:∀ b,base=some b→(storeCells (b.add (n*i.size)) (flatC xs)).run P W=.ok () W') (hnone:base=none→W'=W) :
 (Builtin.append_ #[t,u] ty #[.slice base n c,x]).run P W=.ok (.slice base (n+m) c) W':=by
 have hs:sz P el=some i.size:=by simp [sz,hi]
 have hz:(do pure ((← underlying u) matches .int _):Sem Bool).run P W=.ok false W:=by
  rcases hu with ⟨el',hu⟩|hu<;>simp [run_und hu]
 cases base with
 | none =>
  rw [hnone rfl]
  simp only [Builtin.append_,List.getElem?_toArray,List.getElem?_cons_zero,List.getElem?_cons_succ,Sem.run_bind,run_und ht,Result.andThen_ok,run_sz hs]
  rcases hu with ⟨el',hu⟩|hu <;>
   simp [run_und hu,hlen,hfc,hroom]
 | some b =>
  have:=hst b rfl
  simp only [Builtin.append_,List.getElem?_toArray,List.getElem?_cons_zero,List.getElem?_cons_succ,Sem.run_bind,run_und ht,Result.andThen_ok,run_sz hs]
  rcases hu with ⟨el',hu⟩|hu <;>
   simp [run_und hu,hlen,hfc,hroom,this]
theorem append_new {t u el ty:TypeId} {i:TypeInfo} {base:Option Addr} {n c m:Nat} {x zv:Value} {ys xs:List Value} (ht:P.underlying t=some (.slice el))
 (hu:(∃ el',P.underlying u=some (.slice el'))∨P.underlying u=some .string) (hi:P.info? el=some i) (hlen:(Builtin.lenOf x).run P W=.ok m W)
 (hold:(Builtin.firstCells i.size n (.slice base n c)).run P W.drew=.ok (flatC ys).toArray W.drew)
 (hfc:(Builtin.firstCells i.size m x).run P W.drew=.ok (flatC xs).toArray W.drew) (hroom:¬ n+m≤c) (hz:i.zero=some zv) (hby:i.bytes≤4096) (hsm:n+m<4294967296) :
 ∃ C,n+m≤C∧(Builtin.append_ #[t,u] ty #[.slice base n c,x]).run P W =
  .ok (.slice (some ⟨W.heap.size,0,none⟩) (n+m) C) (W.drew.alloc (.cells ((flatC ys).toArray++(flatC xs).toArray++Builtin.zeroCells zv.cells (C-(n+m))) el)):=by
 have hs:sz P el=some i.size:=by simp [sz,hi]
 have hzr:∀ W:World,(zeroValue el).run P W=.ok zv W:=by intro W;simp [zeroValue,typeInfo,hi,hz]
 let q:=Question.appendCap (n+m) c el
 refine ⟨q.cut (W.tape W.drawn q),by simp [q,Question.cut],?_⟩
 have hforced:q.forced=false:=rfl
 have hbig:¬ (Builtin.nextslicecap (n+m) c*i.bytes > 2 ^ 48):=by
  have h1:=next_le (n:=n+m) (c:=c) (by omega)
  have h2:=mulLit (b:=i.bytes) (n:=Builtin.nextslicecap (n+m) c) hby (by omega)
  have:(2 ^ 48:Nat)=281474976710656:=by decide
  omega
 have hmax:¬ (((n+m:Nat):Int) > IntKind.i64.max∧(False∨i.bytes=0)):=by
  have:IntKind.i64.max=9223372036854775807:=by decide
  rw [this];omega
 have hchoose:(choose q).run P W=.ok (q.cut (W.tape W.drawn q)) W.drew:=by
  rw [run_choose,hforced];rfl
 have hmax2:¬ ((((n:Int)+m)) > IntKind.i64.max∧i.bytes=0):=by
  have:IntKind.i64.max=9223372036854775807:=by decide
  rw [this];omega
 simp only [Builtin.append_,List.getElem?_toArray,List.getElem?_cons_zero,List.getElem?_cons_succ,Sem.run_bind,run_und ht,Result.andThen_ok,run_sz hs]
 have hch2:(choose (.appendCap (n+m) c el)).run P W=.ok (q.cut (W.tape W.drawn q)) W.drew:=hchoose
 rcases hu with ⟨el',hu⟩|hu <;>
  (simp only [run_und hu,Sem.run_pure,Result.andThen_ok,Bool.false_eq_true,if_false,hlen,Sem.run_bind,if_neg hroom,run_info hi,false_or,Bool.not_false,if_true]
   rw [if_neg (by simpa using hmax2)]
   simp only [Sem.run_bind,run_info hi,Result.andThen_ok]
   rw [if_neg hbig]
   simp only [Sem.run_bind,hch2,Result.andThen_ok,run_info hi,run_askRoom,hold,hfc,hzr,newRow,run_newObj,Sem.run_pure]
   rfl)
theorem zeroCells_size (z:Array Value) (n:Nat):(Builtin.zeroCells z n).size=n*z.size:=by simp [Builtin.zeroCells]
theorem appendV_ok (hr:Rel W0 B0 st ρ W) {w bytes:Nat} {ys:List AV} {s xv v:AV} {us ux:Value} (hel:elems st xv=some ys) (h:appendV st w bytes ys s=some (v,st')) (hs:R (cx st ρ W st.A.length) s us)
 (hx:R (cx st ρ W st.A.length) xv ux) {t u el ty:TypeId} {i:TypeInfo} (ht:P.underlying t=some (.slice el)) (hu:(∃ el',P.underlying u=some (.slice el'))∨P.underlying u=some .string)
 (hi:P.info? el=some i) (hsz:i.size=w) (hby:i.bytes=bytes) (hzz:i.zero.map (·.cells.size)=some i.size) :
 ∃ x ρ' W',(Builtin.append_ #[t,u] ty #[us,ux]).run P W=.ok x W'∧Goes W0 B0 st ρ W st' ρ' W'∧R (cx st' ρ' W' st'.A.length) v x:=by
 subst hsz;subst hby
 obtain ⟨zv,hz,hzs⟩:∃ zv,i.zero=some zv∧zv.cells.size=i.size:=by
  cases hzz':i.zero with
  | none=>rw [hzz'] at hzz;simp at hzz
  | some zv=>rw [hzz'] at hzz;simp only [Option.map_some,oJ] at hzz;exact ⟨zv,rfl,hzz⟩
 unfold appendV at h
 split at h
 ·-- a nil slice
  split at h
  ·rename_i hc
   obtain ⟨c1,c2,c3⟩:=hc
   simp only [oB,newRefK,oJ,Prod.mk.injEq] at h
   obtain ⟨⟨k,st1⟩,hn1,rfl,rfl⟩:=h
   obtain ⟨xs,e1,e2,e3,e4⟩:=elems_ok (P:=P) hr hel hx c3
   cases hs with
   | nils base =>
    rcases Nat.eq_zero_or_pos ys.length with h0|h0
    ·have hys:ys=[]:=List.length_eq_zero_iff.1 h0
     subst hys
     have:=e3.nil_inv;subst this
     obtain ⟨g,hg⟩:=new_nil hr (.of_new hn1) base
     have hlen:=g.ev.len
     refine ⟨_,_,_,append_in (base:=base) (n:=0) (c:=0) (m:=0) (xs:=[]) ht hu hi e1 (e2 W fun _=>rfl) (by omega) (W':=W) (fun b hb=>rfl) (fun _=>rfl),g,.ref (hg _ (by show st.A.length≤st1.A.length;omega))⟩
    ·have grd:=Goes.drew hr
     obtain ⟨xs,e1',e2',e3',e4⟩:=elems_ok (P:=P) grd.rel hel (hx.mono (grd.ev.le _ (Nat.le_refl _))) c3
     obtain ⟨C,hC,hrun⟩:=append_new (W:=W) (base:=base) (n:=0) (c:=0) (m:=ys.length) (ys:=[]) (xs:=xs) (ty:=ty) ht hu hi e1 (firstCells_zero ⟨base,0,rfl⟩) (e2' W.drew fun _=>rfl) (by omega) hz c2 (by omega)
     simp only [Nat.zero_add] at hrun hC
     have hfl:(flatC xs).length=ys.length*i.size:=by rw [flatC_len e4,← e3'.1]
     have hcs:C*i.size≤((flatC ([]:List Value)).toArray++(flatC xs).toArray++Builtin.zeroCells zv.cells (C-ys.length)).size:=by
      simp only [flatC,List.flatMap_nil,List.size_toArray,Array.size_append,zeroCells_size,hzs,List.length_nil,Nat.zero_add]
      have:(List.flatMap (fun x=>x.cells.toList) xs).length=ys.length*i.size:=hfl
      rw [this,← Nat.add_mul]
      exact Nat.mul_le_mul_right _ (by omega)
     have hla:=laid_flat e4 (Builtin.zeroCells zv.cells (C-ys.length))
     have heq:((flatC ([]:List Value)).toArray++(flatC xs).toArray++Builtin.zeroCells zv.cells (C-ys.length))=(flatC xs).toArray++Builtin.zeroCells zv.cells (C-ys.length):=by
      simp [flatC]
     rw [heq] at hrun hcs
     obtain ⟨g,hg⟩:=new_arr (elem:=el) grd.rel (.of_new hn1) e3' e4 hC hcs hla.2
     have hlen:=g.ev.len
     exact ⟨_,_,_,hrun,grd.trans g,.ref (hg _ (by show st.A.length≤st1.A.length;omega)).1⟩
  ·simp at h
 ·-- nothing is appended to an immutable slice
  split at h
  ·rename_i hemp
   simp only [oJ,Prod.mk.injEq] at h
   obtain ⟨rfl,rfl⟩:=h
   have hys:ys=[]:=by simpa using hemp
   subst hys
   obtain ⟨xs,e1,e2,e3,e4⟩:=elems_ok (P:=P) (w:=i.size) hr hel hx rfl
   have:=e3.nil_inv;subst this
   obtain ⟨base,c,rfl,hc,_⟩:=lit_inv hs
   refine ⟨_,_,_,append_in (base:=base) (c:=c) (m:=0) (xs:=[]) ht hu hi e1 (e2 W fun _=>rfl) (by omega) (W':=W) (fun b hb=>rfl) (fun _=>rfl),.refl hr,?_⟩
   exact hs
  ·simp at h
 ·-- an owned slice
  rename_i lv ix ver s n
  split at h
  ·rename_i hsw
   simp only [oB] at h
   obtain ⟨⟨ys',st1⟩,hm,hk⟩:=h
   cases hs with
   | ref hp =>
    obtain ⟨xs,e1,e2,e3,e4⟩:=elems_ok (P:=P) hr hel hx hsw
    obtain ⟨p1,p2,p3,base,c,rfl,p4⟩:=hp
    obtain ⟨g1,r2⟩:=mapSt_ok (fun st v x v' st'=>sealV_ok deep (lv+1) st v x v' st') hr (by omega) e3 hm
    have hp1:=(g1.ev.le st.A.length (Nat.le_refl _)).ref lv ix ver s n _ ⟨p1,p2,p3,base,c,rfl,p4⟩
    obtain ⟨_,_,_,base',c',hbc,k4⟩:=hp1
    simp only [Value.slice.injEq,true_and] at hbc
    obtain ⟨rfl,rfl⟩:=hbc
    have r2':RL (cx st1 ρ W lv) ys' xs:=r2
    have hyl:ys'.length=ys.length:=by rw [r2'.1,e3.1]
    have hone:∀ z∈flatC xs,z.oneCell'=true:=by
     intro z hz
     simp only [flatC,List.mem_flatMap] at hz
     obtain ⟨y,hy,hzy⟩:=hz
     obtain ⟨q,hq⟩:=List.getElem?_of_mem hy
     have hlt:=lt_of_get hq
     rw [← e3.1] at hlt
     exact ((e3.2 q _ y (List.getElem?_eq_getElem hlt) hq).wide (cx_ok _ _ _ _) (sameW_mem hsw (List.getElem_mem hlt))).2 z hzy
    unfold appK appB at hk
    split at hk
    ·rename_i w' ver' es hg
     split at hk
     ·rename_i hc
      obtain ⟨rfl,rfl,hsn,hsmall,hb4⟩:=hc
      simp only [oB,oJ,Prod.mk.injEq] at hk
      obtain ⟨st2,hput,rfl,rfl⟩:=hk
      obtain ⟨q1,q2,q3⟩:=k4 _ es hg
      have hsmall:n+ys.length<4294967296:=by rw [← hyl];exact hsmall
      have aok:=g1.rel.arr lv ix _ ver es hg
      have hfl:(flatC xs).length=ys.length*i.size:=by rw [flatC_len e4,← e3.1]
      have sh:=Sh.of_put hput
      by_cases hroom:n+ys.length≤c
      ·have g2:=app_in g1.rel hg hsn hput r2' e4 (by omega)
       refine ⟨_,_,_,append_in (base:=base) (c:=c) (m:=ys.length) (xs:=xs) (W':=W.setCells (ρ lv ix).b ((ρ lv ix).o+(s+n)*i.size) (flatC xs)) ht hu hi e1 (e2 W fun _=>rfl) hroom ?_ ?_,g1.trans g2,?_⟩
       ·intro b hb
        cases hfx:flatC xs with
        | nil=>rfl
        | cons z zs =>
         rw [← hfx]
         have hpos:0<ys.length*i.size:=by rw [← hfl,hfx];simp
         have hyp:0<ys.length:=by
          rcases Nat.eq_zero_or_pos ys.length with h0|h0
          ·rw [h0] at hpos;simp at hpos
          ·exact h0
         have hbase:=q3 (by omega)
         rw [hb] at hbase
         simp only [oJ] at hbase;subst hbase
         rw [add_mk]
         have hmul:(s+n)*i.size+ys.length*i.size≤(ρ lv ix).c*i.size:=by rw [← Nat.add_mul];exact Nat.mul_le_mul_right _ (by omega)
         have hoff:(ρ lv ix).o+s*i.size+n*i.size=(ρ lv ix).o+(s+n)*i.size:=by rw [Nat.add_mul];omega
         rw [hoff]
         have:=run_storeCells_cells (P:=P) (ρ lv ix).b ((ρ lv ix).o+(s+n)*i.size) (flatC xs) 0 W (fun j hj=>by
          have:=(aok.mem ((s+n)*i.size+j) (by omega)).2.1
          rwa [show (ρ lv ix).o+((s+n)*i.size+j)=(ρ lv ix).o+(s+n)*i.size+0+j by omega] at this) (fun j hj=>by
          have:=(aok.mem ((s+n)*i.size+j) (by omega)).2.2
          rwa [show (ρ lv ix).o+((s+n)*i.size+j)=(ρ lv ix).o+(s+n)*i.size+0+j by omega] at this) hone
         simpa using this
       ·intro hb
        have hsc:¬ s<(ρ lv ix).c:=fun h=>by have:=q3 h;rw [hb] at this;simp at this
        have hyz:ys.length=0:=by omega
        have:flatC xs=[]:=List.length_eq_zero_iff.1 (by rw [hfl,hyz];simp)
        rw [this];rfl
       ·have hlen2:st2.A.length=st.A.length:=(g1.trans g2).ev.len
        refine .ref ⟨by omega,by rw [sh.get0];rfl,?_,base,c,by rw [hyl],?_⟩
        ·intro w2 u2 es2 hg2
         rw [sh.get0] at hg2;simp only [oJ,Blk.arr.injEq] at hg2;omega
        ·intro w2 es2 hg2
         rw [sh.get0] at hg2;simp only [oJ,Blk.arr.injEq] at hg2
         obtain ⟨rfl,_,rfl⟩:=hg2
         rw [upd_same]
         refine ⟨by simp;omega,by simp only;omega,fun hpos=>?_⟩
         simp only at hpos
         rw [q3 (by omega)];simp
      ·have grd:=Goes.drew g1.rel
       have hold:(Builtin.firstCells i.size n (.slice base n c)).run P W.drew=.ok (flatC ((aok.vals.choose.drop s).take n)).toArray W.drew:=by
        have hv:=aok.vals.choose_spec
        rcases Nat.eq_zero_or_pos n with h0|h0
        ·subst h0
         simp only [List.take_zero,flatC,List.flatMap_nil]
         exact firstCells_zero ⟨base,c,rfl⟩
        ·have hal:=aok.len
         have hb:=q3 (by omega)
         subst hb
         refine firstCells_list (bb:=(ρ lv ix).b) (oo:=(ρ lv ix).o+s*i.size) (by have:=hv.1.1;simp only [List.length_take,List.length_drop];omega) ?_ (fun _=>rfl) ?_
         ·intro y hy
          obtain ⟨q,hq⟩:=List.getElem?_of_mem hy
          rw [List.getElem?_take] at hq
          split at hq
          ·rw [List.getElem?_drop] at hq;exact (hv.2 _ _ hq).1
          ·simp at hq
         ·intro q y hq
          rw [List.getElem?_take] at hq
          split at hq
          ·rw [List.getElem?_drop] at hq
           rw [show (ρ lv ix).o+s*i.size+q*i.size=(ρ lv ix).o+(s+q)*i.size by rw [Nat.add_mul];omega]
           exact (hv.2 _ _ hq).2
          ·simp at hq
       have hv:=aok.vals.choose_spec
       generalize aok.vals.choose=xs0 at hold hv
       have hfc':(Builtin.firstCells i.size ys.length ux).run P W.drew=.ok (flatC xs).toArray W.drew:=by
        exact e2 W.drew (fun _=>rfl)
       obtain ⟨C,hC,hrun⟩:=append_new (W:=W) (base:=base) (ys:=(xs0.drop s).take n) (xs:=xs) (ty:=ty) ht hu hi e1 hold hfc' hroom hz hb4 (by omega)
       have hsz0:∀ x∈(xs0.drop s).take n++xs,x.cells.size=i.size:=by
        intro y hy
        rcases List.mem_append.1 hy with hy|hy
        ·obtain ⟨q,hq⟩:=List.getElem?_of_mem hy
         rw [List.getElem?_take] at hq
         split at hq
         ·rw [List.getElem?_drop] at hq;exact (hv.2 _ _ hq).1
         ·simp at hq
        ·exact e4 y hy
       have hrl:RL (cx st1 ρ W.drew lv) ((es.drop s).take n++ys') ((xs0.drop s).take n++xs):=((hv.1.drop s).take n).append r2'
       have hll:((es.drop s).take n++ys').length=n+ys.length:=by simp only [lL,List.length_take,List.length_drop];omega
       have heq:(flatC ((xs0.drop s).take n)).toArray++(flatC xs).toArray++Builtin.zeroCells zv.cells (C-(n+ys.length))=(flatC ((xs0.drop s).take n++xs)).toArray++Builtin.zeroCells zv.cells (C-(n+ys.length)):=by
        rw [flatC_append];simp
       rw [heq] at hrun
       have hcs:C*i.size≤((flatC ((xs0.drop s).take n++xs)).toArray++Builtin.zeroCells zv.cells (C-(n+ys.length))).size:=by
        rw [Array.size_append,zeroCells_size,hzs,List.size_toArray,flatC_len hsz0,← hrl.1,hll,← Nat.add_mul]
        exact Nat.mul_le_mul_right _ (by omega)
       have g2:=app_new (elem:=el) grd.rel hg hput hrl hsz0 (by omega) hcs (laid_flat hsz0 _).2
       refine ⟨_,_,_,hrun,(g1.trans grd).trans g2,?_⟩
       have hlen2:st2.A.length=st.A.length:=((g1.trans grd).trans g2).ev.len
       refine .ref ⟨by omega,by rw [sh.get0];rfl,?_,_,_,by rw [hyl],?_⟩
       ·intro w2 u2 es2 hg2
        rw [sh.get0] at hg2;simp only [oJ,Blk.arr.injEq] at hg2;omega
       ·intro w2 es2 hg2
        rw [sh.get0] at hg2;simp only [oJ,Blk.arr.injEq] at hg2
        obtain ⟨rfl,_,rfl⟩:=hg2
        rw [upd_same]
        refine ⟨by rw [hll];omega,by simp,fun hpos=>by simp⟩
     ·simp at hk
    ·simp at hk
  ·simp at h
 ·simp at h
theorem cpyV_ok (hr:Rel W0 B0 st ρ W) {w:Nat} {ys:List AV} {d xv v:AV} {ud ux:Value} (hel:elems st xv=some ys) (h:cpyV st w ys d=some (v,st')) (hd:R (cx st ρ W st.A.length) d ud)
 (hx:R (cx st ρ W st.A.length) xv ux) {t u el ty:TypeId} (ht:P.underlying t=some (.slice el)) (hs:sz P el=some w) (hw0:w≠0) :
 ∃ x ρ' W',(Builtin.copy_ #[t,u] ty #[ud,ux]).run P W=.ok x W'∧Goes W0 B0 st ρ W st' ρ' W'∧R (cx st' ρ' W' st'.A.length) v x:=by
 unfold cpyV at h
 split at h
 ·rename_i lv ix ver s n
  split at h
  ·rename_i hsw
   simp only [oB] at h
   obtain ⟨⟨ys',st1⟩,hm,hk⟩:=h
   cases hd with
   | ref hp =>
    obtain ⟨xs,e1,e2,e3,e4⟩:=elems_ok (P:=P) hr hel hx hsw
    obtain ⟨p1,p2,p3,base,c,rfl,p4⟩:=hp
    obtain ⟨g1,r2⟩:=mapSt_ok (fun st v x v' st'=>sealV_ok deep (lv+1) st v x v' st') hr (by omega) e3 hm
    have hp1:=(g1.ev.le st.A.length (Nat.le_refl _)).ref lv ix ver s n _ ⟨p1,p2,p3,base,c,rfl,p4⟩
    obtain ⟨_,_,_,base',c',hbc,k4⟩:=hp1
    simp only [Value.slice.injEq,true_and] at hbc
    obtain ⟨rfl,rfl⟩:=hbc
    have r2':RL (cx st1 ρ W lv) ys' xs:=r2
    have hyl:ys'.length=ys.length:=by rw [r2'.1,e3.1]
    have hone:∀ z∈flatC xs,z.oneCell'=true:=by
     intro z hz
     simp only [flatC,List.mem_flatMap] at hz
     obtain ⟨y,hy,hzy⟩:=hz
     obtain ⟨q,hq⟩:=List.getElem?_of_mem hy
     have hlt:=lt_of_get hq
     rw [← e3.1] at hlt
     exact ((e3.2 q _ y (List.getElem?_eq_getElem hlt) hq).wide (cx_ok _ _ _ _) (sameW_mem hsw (List.getElem_mem hlt))).2 z hzy
    unfold cpyB at hk
    split at hk
    ·rename_i w' ver' es hg
     split at hk
     ·rename_i hc
      obtain ⟨rfl,rfl,hsn,hle0⟩:=hc
      have hle:ys.length≤n:=by rw [← hyl];exact hle0
      simp only [oB,oJ,Prod.mk.injEq] at hk
      obtain ⟨st2,hput,rfl,rfl⟩:=hk
      obtain ⟨q1,q2,q3⟩:=k4 _ es hg
      have aok:=g1.rel.arr lv ix _ ver es hg
      have hfl:(flatC xs).length=ys.length*w:=by rw [flatC_len e4,← e3.1]
      have g2:=copy_in g1.rel hg (by omega) hput r2' e4
      have hcells:=e2 W fun _=>rfl
      have hmin:Nat.min ys.length n=ys.length:=Nat.min_eq_left (by omega)
      refine ⟨goInt ys.length,_,_,?_,g1.trans g2,by rw [hyl];exact .int _ _⟩
      have hst:∀ b,base=some b→(storeCells b (flatC xs)).run P W=.ok () (W.setCells (ρ lv ix).b ((ρ lv ix).o+s*w) (flatC xs)):=by
       intro b hb
       cases hfx:flatC xs with
       | nil=>rfl
       | cons z zs =>
        rw [← hfx]
        have hpos:0<ys.length*w:=by rw [← hfl,hfx];simp
        have hyp:0<ys.length:=by
         rcases Nat.eq_zero_or_pos ys.length with h0|h0
         ·rw [h0] at hpos;simp at hpos
         ·exact h0
        have hlen:=aok.len
        have hbase:=q3 (by omega)
        rw [hb] at hbase
        simp only [oJ] at hbase;subst hbase
        have hmul:s*w+ys.length*w≤(ρ lv ix).c*w:=by rw [← Nat.add_mul];exact Nat.mul_le_mul_right _ (by omega)
        have:=run_storeCells_cells (P:=P) (ρ lv ix).b ((ρ lv ix).o+s*w) (flatC xs) 0 W (fun j hj=>by
         have:=(aok.mem (s*w+j) (by omega)).2.1
         rwa [show (ρ lv ix).o+(s*w+j)=(ρ lv ix).o+s*w+0+j by omega] at this) (fun j hj=>by
         have:=(aok.mem (s*w+j) (by omega)).2.2
         rwa [show (ρ lv ix).o+(s*w+j)=(ρ lv ix).o+s*w+0+j by omega] at this) hone
        simpa using this
      have hnone:base=none→flatC xs=[]:=by
       intro hb
       have hsc:¬ s<(ρ lv ix).c:=fun h=>by have:=q3 h;rw [hb] at this;simp at this
       have hlen:=aok.len
       have hyz:ys.length=0:=by omega
       exact List.length_eq_zero_iff.1 (by rw [hfl,hyz];simp)
      simp only [Builtin.copy_,List.getElem?_toArray,List.getElem?_cons_zero,List.getElem?_cons_succ,Sem.run_bind,run_und ht,Result.andThen_ok,e1,hmin,run_sz hs,hcells]
      cases base with
      | none =>
       rw [hnone rfl]
       rfl
      | some b =>
       simp only [Sem.run_bind,hst b rfl,Result.andThen_ok,Sem.run_pure]
     ·simp at hk
    ·simp at hk
  ·simp at h
 ·simp at h
end
end Go.QAbs
namespace Go.QAbs
open Go.RowKit (Below)
section
variable {P:Program} {W0:World} {B0:Bse} {st st':St} {ρ:Rho} {W:World} {e:Env} {a:Act}
def EntR (C:Cx) (es:List (AV × AV)) (en:List MapEntry):Prop :=
 es.length=en.length∧∀ (i:Nat) (k v:AV) (x:MapEntry),es[i]?=some (k,v)→en[i]?=some x→isKey k=true∧R C k x.key∧R C v x.val
theorem EntR.tail {C:Cx} {p:AV × AV} {es:List (AV × AV)} {x:MapEntry} {en:List MapEntry} (h:EntR C (p::es) (x::en)):EntR C es en :=
 ⟨by have:=h.1;simpa using this,fun i k v y hk hy=>h.2 (i+1) k v y (by simpa using hk) (by simpa using hy)⟩
theorem MapOk.ent {B0:Bse} {C:Cx} {l:Loc} {es:List (AV × AV)} (h:MapOk B0 C W l es):∃ en clock,W.heap[l.b]?=some (.map en clock)∧EntR C es en.toList∧MapFit en clock es.length:=by
 obtain ⟨_,en,clock,h1,h2,h3⟩:=h
 refine ⟨en,clock,h1,⟨by simp [h2.sz],fun i k v x hk hx=>?_⟩,h2⟩
 obtain ⟨q1,y,q2,q3,q4⟩:=h3 i k v hk
 rw [Array.getElem?_toList,q2] at hx
 simp only [oJ] at hx;subst hx
 exact ⟨q1,q3,q4⟩
def kindD (kk:Nat) (d:TypeDesc):Prop:=(kk=0∧∃ k,d=.int k)∨(kk=1∧d=.string)∨(kk=2∧d=.bool)
theorem keyK_ok {t:TypeId} {kk:Nat} (h:keyK P t=some kk):∃ d,P.underlying t=some d∧kindD kk d:=by
 unfold keyK at h
 split at h<;>simp only [oJ,reduceCtorEq] at h<;>subst h
 ·rename_i k hk;exact ⟨_,hk,.inl ⟨rfl,k,rfl⟩⟩
 ·rename_i hk;exact ⟨_,hk,.inr (.inl ⟨rfl,rfl⟩)⟩
 ·rename_i hk;exact ⟨_,hk,.inr (.inr ⟨rfl,rfl⟩)⟩
theorem sameNow_ok {kk:Nat} {d:TypeDesc} (hd:kindD kk d) {k k':AV} {b:Bool} (hk:keyIs kk k=true) (h:keyEq k k'=some b) {C:Cx} {x y:Value} (hx:R C k x) (hy:R C k' y) :
 Instr.sameNow d x y=some b∧(b=true→x=y):=by
 unfold keyEq at h
 split at h
 ·have:=getInt hx;subst this
  have:=getInt hy;subst this
  split at h
  ·rename_i hkk;subst hkk
   simp only [oJ] at h;subst h
   rcases hd with ⟨rfl,k0,rfl⟩|⟨rfl,rfl⟩|⟨rfl,rfl⟩
   ·exact ⟨by simp [Instr.sameNow],by simp⟩
   ·simp [keyIs] at hk
   ·simp [keyIs] at hk
  ·simp at h
 ·have:=getStr hx;subst this
  have:=getStr hy;subst this
  simp only [oJ] at h;subst h
  rcases hd with ⟨rfl,k0,rfl⟩|⟨rfl,rfl⟩|⟨rfl,rfl⟩
  ·simp [keyIs] at hk
  ·refine ⟨?_,by simp⟩
   simp only [Instr.sameNow,beq_toListBytes,bytes_toList]
  ·simp [keyIs] at hk
 ·have:=getBool hx;subst this
  have:=getBool hy;subst this
  simp only [oJ] at h;subst h
  rcases hd with ⟨rfl,k0,rfl⟩|⟨rfl,rfl⟩|⟨rfl,rfl⟩
  ·simp [keyIs] at hk
  ·simp [keyIs] at hk
  ·exact ⟨by simp [Instr.sameNow],by simp⟩
 ·simp at h
theorem findE_ok {kk:Nat} {d:TypeDesc} (hd:kindD kk d) {k:AV} (hk:keyIs kk k=true) {C:Cx} {kx:Value} (hkx:R C k kx) :
 ∀ {es:List (AV × AV)} {en:List MapEntry} (i0:Nat) {r:Option AV},EntR C es en→findE k es=some r →
  (∀ v,r=some v→∃ idx k0 x,es[idx]?=some (k0,v)∧en[idx]?=some x∧x.key=kx∧Instr.findNow d kx en i0=some (some (i0+idx,x.val))∧(∀ u,putE k u es=some (es.set idx (k,u)))∧delE k es=some (es.eraseIdx idx)) ∧
  (r=none→Instr.findNow d kx en i0=some none∧(∀ u,putE k u es=some (es++[(k,u)]))∧delE k es=some es)
 | [],en,i0,r,he,h=>by
  simp only [findE,oJ] at h;subst h
  have:en=[]:=by have:=he.1;simp at this;exact List.length_eq_zero_iff.1 this.symm
  subst this
  exact ⟨fun v h=>by simp at h,fun _=>⟨rfl,fun u=>rfl,rfl⟩⟩
 | (k',v')::es,en,i0,r,he,h=>by
  cases en with
  | nil=>have:=he.1;simp at this
  | cons x en =>
   obtain ⟨h1,h2,h3⟩:=he.2 0 k' v' x rfl rfl
   simp only [findE,oB] at h
   obtain ⟨b,hb,h⟩:=h
   obtain ⟨s1,s2⟩:=sameNow_ok hd hk hb hkx h2
   cases b with
   | true =>
    simp only [if_true,oJ] at h;subst h
    refine ⟨fun v hv=>?_,fun hn=>by simp at hn⟩
    simp only [oJ] at hv;subst hv
    exact ⟨0,k',x,rfl,rfl,(s2 rfl).symm,by simp [Instr.findNow,s1],fun u=>by simp [putE,hb],by simp [delE,hb]⟩
   | false =>
    simp only [Bool.false_eq_true,if_false] at h
    obtain ⟨q1,q2⟩:=findE_ok hd hk hkx (i0+1) he.tail h
    refine ⟨fun v hv=>?_,fun hn=>?_⟩
    ·obtain ⟨idx,k0,y,e1,e2,e3,e4,e5,e6⟩:=q1 v hv
     exact ⟨idx+1,k0,y,by simpa using e1,by simpa using e2,e3,by simp only [Instr.findNow,s1,e4];congr 3;omega,fun u=>by simp [putE,hb,e5],by simp [delE,hb,e6]⟩
    ·obtain ⟨e4,e5,e6⟩:=q2 hn
     exact ⟨by simp [Instr.findNow,s1,e4],fun u=>by simp [putE,hb,e5],by simp [delE,hb,e6]⟩
theorem find_of_put {k u:AV}:∀ {es es':List (AV × AV)},putE k u es=some es'→∃ r,findE k es=some r
 | [],_,_=>⟨none,rfl⟩
 | e::es,es',h=>by
  simp only [putE,oB] at h
  obtain ⟨b,hb,h⟩:=h
  cases b with
  | true=>exact ⟨some e.2,by simp [findE,hb]⟩
  | false =>
   simp only [Bool.false_eq_true,if_false,oM] at h
   obtain ⟨l,hl,_⟩:=h
   obtain ⟨r,hr⟩:=find_of_put hl
   exact ⟨r,by simp [findE,hb,hr]⟩
theorem find_of_del {k:AV}:∀ {es es':List (AV × AV)},delE k es=some es'→∃ r,findE k es=some r
 | [],_,_=>⟨none,rfl⟩
 | e::es,es',h=>by
  simp only [delE,oB] at h
  obtain ⟨b,hb,h⟩:=h
  cases b with
  | true=>exact ⟨some e.2,by simp [findE,hb]⟩
  | false =>
   simp only [Bool.false_eq_true,if_false,oM] at h
   obtain ⟨l,hl,_⟩:=h
   obtain ⟨r,hr⟩:=find_of_del hl
   exact ⟨r,by simp [findE,hb,hr]⟩
theorem checkKey_ok {kk:Nat} {t:TypeId} {d:TypeDesc} (hu:P.underlying t=some d) (hd:kindD kk d) (emp:Bool) (n:Nat) (v:Value):(Instr.checkKey emp (n+1) t v).run P W=.ok () W:=by
 rcases hd with ⟨rfl,k0,rfl⟩|⟨rfl,rfl⟩|⟨rfl,rfl⟩<;>simp [Instr.checkKey,run_und hu]
theorem findKey_ok {t:TypeId} {d:TypeDesc} (hu:P.underlying t=some d) {kx:Value} {en:List MapEntry} {r:Option (Nat × Value)} (h:Instr.findNow d kx en 0=some r):(Instr.findKey t kx en).run P W=.ok r W:=by
 simp [Instr.findKey,run_und hu,h]
theorem keyIs_isKey {kk:Nat} {k:AV} (h:keyIs kk k=true):isKey k=true:=by
 cases k<;>first|rfl|(unfold keyIs at h;split at h<;>simp_all)
theorem getObj_map {r:Nat} {en:Array MapEntry} {clock:Nat} (h:W.heap[r]?=some (.map en clock)):(getObj r).run P W=.ok (.map en clock) W:=by
 simp [getObj,Sem.run,h]
theorem setObj_map {r:Nat} {en:Array MapEntry} {clock:Nat} (h:W.heap[r]?=some (.map en clock)) (o:Obj):(setObj r o).run P W=.ok () { W with heap:=W.heap.setIfInBounds r o }:=by
 simp [setObj,Sem.run,h]
theorem mapB_inv {b:Option Blk} {es:List (AV × AV)} (h:mapB b=some es):b=some (.map es):=by
 unfold mapB at h
 split at h
 ·simp only [oJ] at h;subst h;rfl
 ·simp at h
theorem lookV_ok (hr:Rel W0 B0 st ρ W) {kk:Nat} {z k m v:AV} {ok:Bool} (h:lookV st kk z ok k m=some v) {kx mx:Value} (hk:R (cx st ρ W st.A.length) k kx) (hm:R (cx st ρ W st.A.length) m mx)
 {t key el:TypeId} (ht:P.underlying t=some (.map key el)) (hkk:keyK P key=some kk) (hz:zeroC P el=some z) :
 ∃ x,(Instr.lookup t mx kx ok).run P W=.ok x W∧R (cx st ρ W st.A.length) v x:=by
 obtain ⟨d,hu,hd⟩:=keyK_ok hkk
 obtain ⟨zv,hzr,hzc,_⟩:=run_zero (W:=W) hz
 simp only [lookV,oB] at h
 obtain ⟨es,hes,h⟩:=h
 split at h
 ·rename_i hki
  simp only [oM] at h
  obtain ⟨r,hfind,rfl⟩:=h
  have hent:∃ en:Array MapEntry,EntR (cx st ρ W st.A.length) es en.toList∧((mx=.map none∧en=#[])∨∃ r clock,mx=.map (some r)∧W.heap[r]?=some (.map en clock)):=by
   unfold mapOf at hes
   split at hes
   ·simp only [oJ] at hes;subst hes
    cases hm with
    | nilmap=>exact ⟨#[],⟨rfl,by simp⟩,.inl ⟨rfl,rfl⟩⟩
   ·rename_i lv ix
    have hg:=mapB_inv hes
    cases hm with
    | map hp =>
     obtain ⟨p1,p2,r,rfl,p3⟩:=hp
     have:=p3 es hg;subst this
     obtain ⟨en,clock,h1,h2,hf⟩:=(hr.map lv ix es hg).ent
     refine ⟨en,⟨h2.1,fun i k v x a b=>?_⟩,.inr ⟨_,clock,rfl,h1⟩⟩
     obtain ⟨q1,q2,q3⟩:=h2.2 i k v x a b
     exact ⟨q1,q2.mono (cx_lv p1),q3.mono (cx_lv p1)⟩
   ·simp at hes
  obtain ⟨en,hER,hmx⟩:=hent
  obtain ⟨f1,f2⟩:=findE_ok hd hki hk 0 hER hfind
  have hfk:(∃ w,r=some w∧∃ x,(Instr.findKey key kx en.toList).run P W=.ok (some x) W∧R (cx st ρ W st.A.length) w x.2)∨(r=none∧(Instr.findKey key kx en.toList).run P W=.ok none W):=by
   cases r with
   | none=>exact .inr ⟨rfl,findKey_ok hu (f2 rfl).1⟩
   | some w =>
    obtain ⟨idx,k0,x,e1,e2,e3,e4,_⟩:=f1 w rfl
    exact .inl ⟨w,rfl,_,findKey_ok hu e4,(hER.2 idx k0 w x e1 e2).2.2⟩
  have hck:=checkKey_ok (P:=P) (W:=W) hu hd en.isEmpty 9999 kx
  have hrun:∀ q,(Instr.findKey key kx en.toList).run P W=.ok q W→(Instr.lookup t mx kx ok).run P W =
   .ok (if ok=true then .tuple #[(match q with|some x=>x.2|none=>zv),.bool q.isSome] else (match q with|some x=>x.2|none=>zv)) W:=by
   intro q hq
   rcases hmx with ⟨rfl,rfl⟩|⟨r',clock,rfl,hob⟩
   ·simp only [Instr.lookup,Sem.run_bind,run_und ht,Result.andThen_ok,Sem.run_pure,hck,hq]
    cases q<;>simp [hzr]
   ·simp only [Instr.lookup,Sem.run_bind,run_und ht,Result.andThen_ok,Sem.run_pure,getObj_map hob,hck,hq]
    cases q<;>simp [hzr]
  rcases hfk with ⟨w,rfl,x,hx,hrx⟩|⟨rfl,hx⟩
  ·refine ⟨_,hrun _ hx,?_⟩
   simp only [lookR,Option.isSome_some]
   split
   ·exact .tup' (.cons hrx (.cons (.bool _) (.nil _)))
   ·exact hrx
  ·refine ⟨_,hrun _ hx,?_⟩
   simp only [lookR,Option.isSome_none]
   split
   ·exact .tup' (.cons (hzc _) (.cons (.bool _) (.nil _)))
   ·exact hzc _
 ·simp at h
theorem sameBits_ok {kk:Nat} {k:AV} (hk:keyIs kk k=true) {C:Cx} {x:Value} (hx:R C k x) (n:Nat):Instr.sameBits n x x=true:=by
 unfold keyIs at hk
 split at hk
 ·have:=getInt hx;subst this;simp [Instr.sameBits]
 ·have:=getStr hx;subst this;simp only [Instr.sameBits,beq_toListBytes,bytes_toList];simp
 ·have:=getBool hx;subst this;simp [Instr.sameBits]
 ·simp at hk
theorem mupdV_ok (hr:Rel W0 B0 st ρ W) {kk:Nat} {k v m:AV} (h:mupdV st kk k v m=some st') {kx vx mx:Value} (hk:R (cx st ρ W st.A.length) k kx) (hv:R (cx st ρ W st.A.length) v vx) (hm:R (cx st ρ W st.A.length) m mx)
 {t key el:TypeId} (ht:P.underlying t=some (.map key el)) (hkk:keyK P key=some kk) :
 ∃ W',(Instr.mapUpdate t mx kx vx).run P W=.ok () W'∧Goes W0 B0 st ρ W st' ρ W':=by
 obtain ⟨d,hu,hd⟩:=keyK_ok hkk
 unfold mupdV at h
 split at h
 ·rename_i lv ix
  split at h
  ·rename_i hki
   simp only [oB] at h
   obtain ⟨⟨v',st1⟩,hseal,h⟩:=h
   cases hm with
   | map hp =>
    have hp':=hp
    obtain ⟨p1,p2,r,rfl,p3⟩:=hp
    obtain ⟨g1,r1⟩:=sealV_ok deep (lv+1) st v vx v' st1 hr (by omega) hv hseal
    have r1':R (cx st1 ρ W lv) v' vx:=r1
    obtain ⟨_,_,r',hrr,p3'⟩:=(g1.ev.le st.A.length (Nat.le_refl _)).map lv ix _ hp'
    simp only [Value.map.injEq,oJ] at hrr;subst hrr
    simp only [mupdK,oB] at h
    obtain ⟨es,hes,es',hput,hst⟩:=h
    have hg:=mapB_inv hes
    have:=p3' es hg;subst this
    obtain ⟨en,clock,h1,h2,hf⟩:=(g1.rel.map lv ix es hg).ent
    have hk':R (cx st1 ρ W lv) k kx:=by
     unfold keyIs at hki
     split at hki
     ·rw [getInt hk];exact .int _ _
     ·rw [getStr hk];exact .str _
     ·rw [getBool hk];exact .bool _
     ·simp at hki
    obtain ⟨rr,hfind⟩:=find_of_put hput
    obtain ⟨f1,f2⟩:=findE_ok hd hki hk' 0 h2 hfind
    have hck:=checkKey_ok (P:=P) (W:=W) hu hd false 9999 kx
    cases rr with
    | none =>
     obtain ⟨e4,e5,_⟩:=f2 rfl
     rw [e5] at hput
     simp only [oJ] at hput;subst hput
     refine ⟨{ W with heap:=W.heap.setIfInBounds (ρ lv ix).b (.map (en.push { key:=kx,val:=vx,born:=clock }) (clock+1)) },?_,g1.trans (write_map g1.rel hg hst (by have:=hf.push kx vx;simpa using this) ?_)⟩
     ·simp only [Instr.mapUpdate,Sem.run_bind,run_und ht,Result.andThen_ok,getObj_map h1,hck,findKey_ok hu e4,setObj_map h1]
     ·intro i k0 v0 hkv
      by_cases hi:i<es.length
      ·rw [List.getElem?_append_left hi] at hkv
       have hi':i<en.size:=by have:=h2.1;simp at this;omega
       have hx:en.toList[i]?=some en[i]:=by simp [hi']
       obtain ⟨q1,q2,q3⟩:=h2.2 i k0 v0 _ hkv hx
       exact ⟨q1,en[i],by rw [Array.getElem?_push_lt hi'],q2,q3⟩
      ·have hlt:=lt_of_get hkv
       simp at hlt
       have:i=es.length:=by omega
       subst this
       simp at hkv
       obtain ⟨rfl,rfl⟩:=hkv
       have:es.length=en.size:=by have:=h2.1;simpa using this
       rw [this]
       exact ⟨keyIs_isKey hki,_,Array.getElem?_push_size,hk',r1'⟩
    | some w =>
     obtain ⟨idx,k0,x,e1,e2,e3,e4,e5,_⟩:=f1 w rfl
     rw [e5] at hput
     simp only [oJ] at hput;subst hput
     have hidx:=lt_of_get e2
     have hx:en[idx]?=some x:=by simpa using e2
     have hsb:=sameBits_ok hki hk' 10000
     have hkts:(Instr.keyThatStays (((en[idx]?).map (·.key)).getD kx) kx).run P W=.ok kx W:=by
      simp [Instr.keyThatStays,hx,e3,hsb]
     refine ⟨{ W with heap:=W.heap.setIfInBounds (ρ lv ix).b (.map (en.modify idx fun e=>{ e with key:=kx,val:=vx }) clock) },?_,g1.trans (write_map g1.rel hg hst (by have:=hf.modify idx kx vx;simpa using this) ?_)⟩
     ·simp only [Nat.zero_add] at e4
      simp only [Instr.mapUpdate,Sem.run_bind,run_und ht,Result.andThen_ok,getObj_map h1,hck,findKey_ok hu e4,hkts,setObj_map h1]
     ·intro i k1 v1 hkv
      rw [List.getElem?_set] at hkv
      rw [Array.getElem?_modify]
      by_cases hii:idx=i
      ·subst hii
       rw [if_pos rfl] at hkv
       split at hkv
       ·simp only [oJ,Prod.mk.injEq] at hkv
        obtain ⟨rfl,rfl⟩:=hkv
        rw [if_pos rfl,hx]
        exact ⟨keyIs_isKey hki,_,rfl,hk',r1'⟩
       ·simp at hkv
      ·rw [if_neg hii] at hkv
       rw [if_neg hii]
       have hi:=lt_of_get hkv
       have hi':i<en.size:=by have:=h2.1;simp at this;omega
       have hy:en.toList[i]?=some en[i]:=by simp [hi']
       obtain ⟨q1,q2,q3⟩:=h2.2 i k1 v1 _ hkv hy
       exact ⟨q1,en[i],Array.getElem?_eq_getElem hi',q2,q3⟩
  ·simp at h
 ·simp at h
theorem mdelV_ok (hr:Rel W0 B0 st ρ W) {kk:Nat} {k m:AV} (h:mdelV st kk k m=some st') {kx mx:Value} (hk:R (cx st ρ W st.A.length) k kx) (hm:R (cx st ρ W st.A.length) m mx)
 {t key el u ty:TypeId} (ht:P.underlying t=some (.map key el)) (hkk:keyK P key=some kk) :
 ∃ W',(Builtin.delete_ #[t,u] ty #[mx,kx]).run P W=.ok (.tuple #[]) W'∧Goes W0 B0 st ρ W st' ρ W':=by
 obtain ⟨d,hu,hd⟩:=keyK_ok hkk
 unfold mdelV at h
 split at h
 ·rename_i lv ix
  split at h
  ·rename_i hki
   simp only [oB] at h
   obtain ⟨es,hes,es',hdel,hst⟩:=h
   cases hm with
   | map hp =>
    obtain ⟨p1,p2,r,rfl,p3⟩:=hp
    have hg:=mapB_inv hes
    have:=p3 es hg;subst this
    obtain ⟨en,clock,h1,h2,hf⟩:=(hr.map lv ix es hg).ent
    have hk':R (cx st ρ W lv) k kx:=by
     unfold keyIs at hki
     split at hki
     ·rw [getInt hk];exact .int _ _
     ·rw [getStr hk];exact .str _
     ·rw [getBool hk];exact .bool _
     ·simp at hki
    obtain ⟨rr,hfind⟩:=find_of_del hdel
    obtain ⟨f1,f2⟩:=findE_ok hd hki hk' 0 h2 hfind
    have hck:=checkKey_ok (P:=P) (W:=W) hu hd en.isEmpty 9999 kx
    cases rr with
    | none =>
     obtain ⟨e4,_,e6⟩:=f2 rfl
     rw [e6] at hdel
     simp only [oJ] at hdel;subst hdel
     refine ⟨{ W with heap:=W.heap.setIfInBounds (ρ lv ix).b (.map en clock) },?_,write_map hr hg hst hf ?_⟩
     ·simp only [Builtin.delete_,List.getElem?_toArray,List.getElem?_cons_zero,List.getElem?_cons_succ,Sem.run_bind,run_und ht,Result.andThen_ok,getObj_map h1,hck,findKey_ok hu e4,setObj_map h1,Sem.run_pure]
     ·intro i k1 v1 hkv
      have hi:=lt_of_get hkv
      have hi':i<en.size:=by have:=h2.1;simp at this;omega
      have hy:en.toList[i]?=some en[i]:=by simp [hi']
      obtain ⟨q1,q2,q3⟩:=h2.2 i k1 v1 _ hkv hy
      exact ⟨q1,en[i],Array.getElem?_eq_getElem hi',q2,q3⟩
    | some w =>
     obtain ⟨idx,k0,x,e1,e2,e3,e4,_,e6⟩:=f1 w rfl
     rw [e6] at hdel
     simp only [oJ] at hdel;subst hdel
     have hidx:=lt_of_get e2
     have hidx':idx<en.size:=by simpa using hidx
     have hel:(en.eraseIdxIfInBounds idx).toList=en.toList.eraseIdx idx:=by
      unfold Array.eraseIdxIfInBounds
      rw [dif_pos hidx']
      simp
     refine ⟨{ W with heap:=W.heap.setIfInBounds (ρ lv ix).b (.map (en.eraseIdxIfInBounds idx) clock) },?_,write_map hr hg hst ?_ ?_⟩
     ·simp only [Nat.zero_add] at e4
      simp only [Builtin.delete_,List.getElem?_toArray,List.getElem?_cons_zero,List.getElem?_cons_succ,Sem.run_bind,run_und ht,Result.andThen_ok,getObj_map h1,hck,findKey_ok hu e4,setObj_map h1,Sem.run_pure]
     ·exact hf.erase hel (by rw [← Array.length_toList,hel,List.length_eraseIdx,List.length_eraseIdx,h2.1])
     ·intro i k1 v1 hkv
      rw [List.getElem?_eraseIdx] at hkv
      have hgo:∀ j:Nat,es[j]?=some (k1,v1)→isKey k1=true∧∃ y:MapEntry,en.toList[j]?=some y∧R (cx st ρ W lv) k1 y.key∧R (cx st ρ W lv) v1 y.val:=by
       intro j hj
       have hlt:=lt_of_get hj
       have hlt':j<en.toList.length:=by rw [← h2.1];exact hlt
       obtain ⟨q1,q2,q3⟩:=h2.2 j k1 v1 _ hj (List.getElem?_eq_getElem hlt')
       exact ⟨q1,_,List.getElem?_eq_getElem hlt',q2,q3⟩
      have:(en.eraseIdxIfInBounds idx)[i]?=if i<idx then en.toList[i]? else en.toList[i+1]?:=by
       rw [← Array.getElem?_toList,hel,List.getElem?_eraseIdx]
      split at hkv
      ·rename_i hlt
       obtain ⟨q1,y,q2,q3⟩:=hgo i hkv
       exact ⟨q1,y,by rw [this,if_pos hlt];exact q2,q3⟩
      ·rename_i hlt
       obtain ⟨q1,y,q2,q3⟩:=hgo (i+1) hkv
       exact ⟨q1,y,by rw [this,if_neg hlt];exact q2,q3⟩
  ·simp at h
 ·simp at h
end
end Go.QAbs
namespace Go.QAbs
open Go.RowKit (Below)
section
variable {P:Program} {W:World}
theorem eqCells_append {xs ys:List AV}:∀ {l m:List (Nat × Nat)} {b:Bool},eqCells xs ys (l++m)=some b→(eqCells xs ys l=some false∧b=false)∨(eqCells xs ys l=some true∧eqCells xs ys m=some b)
 | [],m,b,h=>.inr ⟨rfl,h⟩
 | p::ps,m,b,h=>by
  simp only [lC,eqCells,oB] at h ⊢
  obtain ⟨x,hx,y,hy,c,hc,h⟩:=h
  cases c with
  | true =>
   simp only [if_true] at h
   rcases eqCells_append h with ⟨h1,h2⟩|⟨h1,h2⟩
   ·exact .inl ⟨⟨x,hx,y,hy,true,hc,by simpa using h1⟩,h2⟩
   ·exact .inr ⟨⟨x,hx,y,hy,true,hc,by simpa using h1⟩,h2⟩
  | false =>
   simp only [Bool.false_eq_true,if_false,oJ] at h
   exact .inl ⟨⟨x,hx,y,hy,false,hc,by simp⟩,h.symm⟩
theorem eqCells_sub {xs ys:List AV} {o n:Nat}:∀ {l:List (Nat × Nat)},(∀ p∈l,p.1<n)→eqCells ((xs.drop o).take n) ((ys.drop o).take n) l=eqCells xs ys (l.map fun p=>(o+p.1,p.2))
 | [],_=>rfl
 | p::ps,h=>by
  have hp:=h p (by simp)
  simp only [List.map_cons,eqCells,List.getElem?_take,if_pos hp,List.getElem?_drop]
  rw [eqCells_sub fun q hq=>h q (by simp [hq])]
def shift (o:Nat) (l:List (Nat × Nat)):List (Nat × Nat):=l.map fun p=>(o+p.1,p.2)
theorem eqFields_ok {D:Nat} {d:Nat} {C:Cx} {xs ys:List AV} {X Y:Array Value} (hX:RL C xs X.toList) (hY:RL C ys Y.toList)
 (ih:∀ (t:TypeId) (ks:List (Nat × Nat)),flat P d t=some ks→∀ o b,eqCells xs ys (shift o ks)=some b→∃ u w,(part t X o).run P W=.ok u W∧(part t Y o).run P W=.ok w W∧(Op.equalIn D t u w).run P W=.ok b W) :
 ∀ {fs : List Field} {l : List (List (Nat × Nat))}, (fs.mapM fun f => if f.name = "_" then none else (flat P d f.type).map fun l => l.map fun p => (f.offset + p.1, p.2)) = some l → ∀ {b : Bool}, eqCells xs ys l.flatten = some b →
  (Op.eqFields D X Y fs).run P W=.ok b W
 | [],l,h,b,hb=>by
  simp at h;subst h
  simp only [List.flatten_nil,eqCells,oJ] at hb;subst hb
  rfl
 | f::fs,l,h,b,hb=>by
  simp only [List.mapM_cons,Option.pure_def,Option.bind_eq_bind,oB,oJ] at h
  obtain ⟨k,hk,ls,hls,rfl⟩:=h
  split at hk
  ·simp at hk
  ·rename_i hn
   simp only [oM] at hk
   obtain ⟨k0,hk0,rfl⟩:=hk
   simp only [List.flatten_cons] at hb
   simp only [Op.eqFields]
   rw [if_pos hn]
   rcases eqCells_append hb with ⟨h1,rfl⟩|⟨h1,h2⟩
   ·obtain ⟨u,w,e1,e2,e3⟩:=ih f.type k0 hk0 f.offset false h1
    simp [e1,e2,e3]
   ·obtain ⟨u,w,e1,e2,e3⟩:=ih f.type k0 hk0 f.offset true h1
    have:=eqFields_ok hX hY ih hls h2
    simp [e1,e2,e3,this]
theorem eqElems_ok {D:Nat} {t:TypeId} {w:Nat} {ks:List (Nat × Nat)} {xs ys:List AV} {X Y:Array Value}
 (ih:∀ o b,eqCells xs ys (shift o ks)=some b→∃ u v,(part t X o).run P W=.ok u W∧(part t Y o).run P W=.ok v W∧(Op.equalIn D t u v).run P W=.ok b W) :
 ∀ (l:List Nat) (b:Bool),eqCells xs ys (l.map fun i=>ks.map fun p=>(i*w+p.1,p.2)).flatten=some b →
  (forIn l ((none,()):Option Bool × Unit) (fun i _=>do
   let a ← part t X (i*w)
   let c ← part t Y (i*w)
   let r ← Op.equalIn D t a c
   if (!r)=true then pure (ForInStep.done (some false,())) else pure (ForInStep.yield (none,()))):Sem (Option Bool × Unit)).run P W =
   .ok (if b=true then none else some false,()) W
 | [],b,h=>by
  simp only [List.map_nil,List.flatten_nil,eqCells,oJ] at h;subst h
  simp
 | i::l,b,h=>by
  simp only [List.map_cons,List.flatten_cons] at h
  rcases eqCells_append h with ⟨h1,rfl⟩|⟨h1,h2⟩
  ·obtain ⟨u,v,e1,e2,e3⟩:=ih (i*w) false h1
   simp [e1,e2,e3]
  ·obtain ⟨u,v,e1,e2,e3⟩:=ih (i*w) true h1
   have:=eqElems_ok ih l b h2
   simp only [List.forIn_cons,Sem.run_bind,e1,e2,e3,Result.andThen_ok,Bool.not_true,Bool.false_eq_true,if_false,Sem.run_pure]
   exact this
theorem eqCell_ok {t:TypeId} {kd D:Nat} {x y:AV} {b:Bool} (h:eqCell kd x y=some b) {C:Cx} {u v:Value} (hu:R C x u) (hv:R C y v)
 (h0:kd=0→∃ k,P.underlying t=some (.int k)) (h1:kd=1→P.underlying t=some .string) (h2:kd=2→P.underlying t=some .bool) :
 (Op.equalIn (D+1) t u v).run P W=.ok b W:=by
 unfold eqCell at h
 split at h
 ·split at h
  ·rename_i hk;subst hk
   simp only [oJ] at h;subst h
   have:=getInt hu;subst this
   have:=getInt hv;subst this
   obtain ⟨k,hk⟩:=h0 rfl
   rw [run_equalIn_int _ _ _ _ k _ _ hk,beq_decI]
  ·simp at h
 ·simp only [oJ] at h;subst h
  have:=getStr hu;subst this
  have:=getStr hv;subst this
  rw [run_equalIn_string _ _ _ _ _ (h1 rfl),bytes_toList,bytes_toList,beq_dec]
 ·simp only [oJ] at h;subst h
  have:=getBool hu;subst this
  have:=getBool hv;subst this
  exact run_equalIn_bool' _ _ _ _ _ (h2 rfl)
 ·simp at h
def FlatOk (P:Program) (W:World) (C:Cx) (d:Nat):Prop :=
 ∀ (t:TypeId) (ks:List (Nat × Nat)),flat P d t=some ks→∀ (D:Nat),d≤D→∀ {xs ys:List AV} {X Y:Array Value},RL C xs X.toList→RL C ys Y.toList →
  ∀ o b,eqCells xs ys (shift o ks)=some b→∃ u w,(part t X o).run P W=.ok u W∧(part t Y o).run P W=.ok w W∧(Op.equalIn D t u w).run P W=.ok b W
theorem flat_agg {C:Cx} {d:Nat} (ih:FlatOk P W C d) {t:TypeId} {ks:List (Nat × Nat)} (h:flat P (d+1) t=some ks) (ha:aggT P t=some true) {D:Nat} (hD:d≤D) {xs ys:List AV} {X Y:Array Value}
 (hX:RL C xs X.toList) (hY:RL C ys Y.toList) {b:Bool} (hb:eqCells xs ys ks=some b):(Op.equalIn (D+1) t (.agg X) (.agg Y)).run P W=.ok b W∧∃ n,sz P t=some n∧∀ p∈ks,p.1<n:=by
 simp only [flat] at h
 split at h
 ·rename_i k hk;simp [aggT,hk] at ha
 ·rename_i hk;simp [aggT,hk] at ha
 ·rename_i hk;simp [aggT,hk] at ha
 ·rename_i fs hk
  split at h
  ·simp at h
  ·rename_i hst
   simp only [oB] at h
   obtain ⟨n,hn,l,hl,h⟩:=h
   split at h
   ·rename_i hall
    simp only [oJ] at h;subst h
    have hlt:∀ p∈l.flatten,p.1<n:=fun p hp=>by have:=List.all_eq_true.1 hall p hp;simpa using this
    have hfo:P.fieldsOf t=fs:=by simp [Program.fieldsOf,hk]
    rw [run_equalIn_struct _ _ _ _ _ (by rw [hfo];exact hk) (by simpa using hst),hfo]
    exact ⟨eqFields_ok hX hY (fun t ks hf o b hb=>ih t ks hf D hD hX hY o b hb) hl hb,n,hn,hlt⟩
   ·simp at h
 ·rename_i m el hk
  simp only [oB] at h
  obtain ⟨n,hn,w,hw,l,hl,h⟩:=h
  split at h
  ·rename_i hall
   simp only [oJ] at h;subst h
   have hlt:∀ p∈((List.range m).map fun i=>l.map fun p=>(i*w+p.1,p.2)).flatten,p.1<n:=fun p hp=>by have:=List.all_eq_true.1 hall p hp;simpa using this
   have:=eqElems_ok (P:=P) (W:=W) (D:=D) (t:=el) (w:=w) (ks:=l) (xs:=xs) (ys:=ys) (X:=X) (Y:=Y)
    (fun o b hb=>ih el l hl D hD hX hY o b hb) (List.range m) b hb
   refine ⟨?_,n,hn,hlt⟩
   simp only [Op.equalIn,Sem.run_bind,run_und hk,Result.andThen_ok,run_sz hw,Std.Legacy.Range.forIn_eq_forIn_range',Std.Legacy.Range.size,Nat.sub_zero,Nat.add_one_sub_one,Nat.div_one]
   rw [← List.range_eq_range']
   rw [this]
   cases b<;>simp
  ·simp at h
 ·simp at h
theorem flat_ok {C:Cx}:∀ (d:Nat),FlatOk P W C d
 | 0=>fun _ _ h=>by simp [flat] at h
 | d+1=>by
  intro t ks h D hD xs ys X Y hX hY o b hb
  obtain ⟨D',rfl⟩:∃ D',D=D'+1:=⟨D-1,by omega⟩
  have basic:∀ kd,ks=[(0,kd)]→aggT P t=some false→(kd=0→∃ k,P.underlying t=some (.int k))→(kd=1→P.underlying t=some .string)→(kd=2→P.underlying t=some .bool) →
   ∃ u w,(part t X o).run P W=.ok u W∧(part t Y o).run P W=.ok w W∧(Op.equalIn (D'+1) t u w).run P W=.ok b W:=by
   intro kd hk ha h0 h1 h2
   subst hk
   simp only [shift,List.map_cons,List.map_nil,Nat.add_zero,eqCells,oB] at hb
   obtain ⟨x,hx,y,hy,c,hc,hb⟩:=hb
   have hbc:b=c:=by cases c<;>simp at hb<;>first|exact hb|exact hb.symm
   subst hbc
   obtain ⟨u,hu1,hu2⟩:=hX.get hx
   obtain ⟨v,hv1,hv2⟩:=hY.get hy
   exact ⟨u,v,part_one ha (by simpa using hu1),part_one ha (by simpa using hv1),eqCell_ok hc hu2 hv2 h0 h1 h2⟩
  have agg:aggT P t=some true→∃ u w,(part t X o).run P W=.ok u W∧(part t Y o).run P W=.ok w W∧(Op.equalIn (D'+1) t u w).run P W=.ok b W:=by
   intro ha
   have hex:∃ n,sz P t=some n∧∀ p∈ks,p.1<n:=by
    have hh:=h
    simp only [flat] at hh
    split at hh
    ·rename_i k hk;simp [aggT,hk] at ha
    ·rename_i hk;simp [aggT,hk] at ha
    ·rename_i hk;simp [aggT,hk] at ha
    ·split at hh
     ·simp at hh
     ·simp only [oB] at hh
      obtain ⟨n,hn,l,hl,hh⟩:=hh
      split at hh
      ·rename_i hall
       simp only [oJ] at hh;subst hh
       exact ⟨n,hn,fun p hp=>by have:=List.all_eq_true.1 hall p hp;simpa using this⟩
      ·simp at hh
    ·simp only [oB] at hh
     obtain ⟨n,hn,w,hw,l,hl,hh⟩:=hh
     split at hh
     ·rename_i hall
      simp only [oJ] at hh;subst hh
      exact ⟨n,hn,fun p hp=>by have:=List.all_eq_true.1 hall p hp;simpa using this⟩
     ·simp at hh
    ·simp at hh
   obtain ⟨n,hn,hlt⟩:=hex
   have hX':RL C ((xs.drop o).take n) (X.extract o (o+n)).toList:=by rw [extract_eq];exact (hX.drop o).take n
   have hY':RL C ((ys.drop o).take n) (Y.extract o (o+n)).toList:=by rw [extract_eq];exact (hY.drop o).take n
   exact ⟨_,_,part_agg ha hn,part_agg ha hn,(flat_agg (flat_ok d) h ha (by omega) hX' hY' (by rw [eqCells_sub hlt];exact hb)).1⟩
  have hh:=h
  simp only [flat] at hh
  split at hh
  ·rename_i k hk
   simp only [oJ] at hh
   exact basic 0 hh.symm (by simp [aggT,hk]) (fun _=>⟨k,hk⟩) (by simp) (by simp)
  ·rename_i hk
   simp only [oJ] at hh
   exact basic 1 hh.symm (by simp [aggT,hk]) (by simp) (fun _=>hk) (by simp)
  ·rename_i hk
   simp only [oJ] at hh
   exact basic 2 hh.symm (by simp [aggT,hk]) (by simp) (by simp) (fun _=>hk)
  ·rename_i fs hk;exact agg (by simp [aggT,hk])
  ·rename_i m el hk;exact agg (by simp [aggT,hk])
  ·simp at hh
theorem eqNil_ok {st:St} {ρ:Rho} {m k:Nat} {x y:AV} {b:Bool} (h:eqNil k x y=some b) {t:TypeId} {u v:Value} (hu:R (cx st ρ W m) x u) (hv:R (cx st ρ W m) y v)
 (h3:k=3→∃ el,P.underlying t=some (.pointer el)) (h4:k=4→∃ a b,P.underlying t=some (.map a b)) (h5:k=5→∃ a b c,P.underlying t=some (.func a b c)) (h6:k=6→P.underlying t=some .bool) (D:Nat) :
 (Op.equalIn (D+1) t u v).run P W=.ok b W∧¬ (u=.nilIface∧v=.nilIface)∧(∀ xs ys,u=.agg xs→v=.agg ys→False)∧binOp .eql t u v=(do pure (.bool (← Op.equal t u v)))∧binOp .neq t u v=(do pure (.bool (!(← Op.equal t u v)))):=by
 unfold eqNil at h
 split at h<;>simp only [oJ,reduceCtorEq] at h<;>subst h
 ·obtain ⟨el,hk⟩:=h3 rfl
  cases hu;cases hv
  exact ⟨by simp [Op.equalIn,run_und hk],by simp,by simp,rfl,rfl⟩
 ·obtain ⟨el,hk⟩:=h3 rfl
  cases hu
  cases hv with
  | ptr hp=>obtain ⟨a,rfl⟩:=(cx_ok _ _ _ _).ptr hp;exact ⟨by simp [Op.equalIn,run_und hk],by simp,by simp,rfl,rfl⟩
 ·obtain ⟨el,hk⟩:=h3 rfl
  cases hu
  cases hv with
  | lptr=>exact ⟨by simp [Op.equalIn,run_und hk],by simp,by simp,rfl,rfl⟩
 ·obtain ⟨el,hk⟩:=h3 rfl
  cases hv
  cases hu with
  | ptr hp=>obtain ⟨a,rfl⟩:=(cx_ok _ _ _ _).ptr hp;exact ⟨by simp [Op.equalIn,run_und hk],by simp,by simp,rfl,rfl⟩
 ·obtain ⟨el,hk⟩:=h3 rfl
  cases hv
  cases hu with
  | lptr=>exact ⟨by simp [Op.equalIn,run_und hk],by simp,by simp,rfl,rfl⟩
 ·obtain ⟨a,b,hk⟩:=h4 rfl
  cases hu;cases hv
  exact ⟨by simp [Op.equalIn,run_und hk],by simp,by simp,rfl,rfl⟩
 ·obtain ⟨a,b,hk⟩:=h4 rfl
  cases hu
  cases hv with
  | map hp=>obtain ⟨a,rfl⟩:=(cx_ok _ _ _ _).map hp;exact ⟨by simp [Op.equalIn,run_und hk],by simp,by simp,rfl,rfl⟩
 ·obtain ⟨a,b,hk⟩:=h4 rfl
  cases hv
  cases hu with
  | map hp=>obtain ⟨a,rfl⟩:=(cx_ok _ _ _ _).map hp;exact ⟨by simp [Op.equalIn,run_und hk],by simp,by simp,rfl,rfl⟩
 ·obtain ⟨a,b,c,hk⟩:=h5 rfl
  cases hu;cases hv
  exact ⟨by simp [Op.equalIn,run_und hk],by simp,by simp,rfl,rfl⟩
 ·obtain ⟨a,b,c,hk⟩:=h5 rfl
  cases hu
  cases hv with
  | func=>exact ⟨by simp [Op.equalIn,run_und hk],by simp,by simp,rfl,rfl⟩
  | yld=>exact ⟨by simp [Op.equalIn,run_und hk],by simp,by simp,rfl,rfl⟩
 ·obtain ⟨a,b,c,hk⟩:=h5 rfl
  cases hv
  cases hu with
  | func=>exact ⟨by simp [Op.equalIn,run_und hk],by simp,by simp,rfl,rfl⟩
  | yld=>exact ⟨by simp [Op.equalIn,run_und hk],by simp,by simp,rfl,rfl⟩
 ·have hk:=h6 rfl
  have:=getBool hu;subst this
  have:=getBool hv;subst this
  exact ⟨by simp only [Op.equalIn,Sem.run_bind,run_und hk,Result.andThen_ok,Sem.run_pure],by simp,by simp,rfl,rfl⟩
theorem eqV_ok {st:St} {ρ:Rho} {m k:Nat} {ks:List (Nat × Nat)} {x y:AV} {b:Bool} (h:eqV ks k x y=some b) {t:TypeId} {u v:Value} (hu:R (cx st ρ W m) x u) (hv:R (cx st ρ W m) y v) (ox oy:Operand)
 (h0:k=0→flat P 6 t=some ks∧(∃ n,sz P t=some n)∧P.eqGuardType P.depth t=false∧aggT P t=some true)
 (h3:k=3→∃ el,P.underlying t=some (.pointer el)) (h4:k=4→∃ a b,P.underlying t=some (.map a b)) (h5:k=5→∃ a b c,P.underlying t=some (.func a b c)) (h6:k=6→P.underlying t=some .bool) :
 (do eqGuard .eql t ox oy u v;binOp .eql t u v:Sem Value).run P W=.ok (.bool b) W∧(do eqGuard .neq t ox oy u v;binOp .neq t u v:Sem Value).run P W=.ok (.bool (!b)) W:=by
 unfold eqV at h
 split at h
 ·obtain ⟨hf,⟨n,hn⟩,hg,ha⟩:=h0 rfl
  cases hu with
  | @agg _ _ X hl hi =>
   cases hv with
   | @agg _ _ Y hl' hi' =>
    have hX:RL (cx st ρ W m) _ X.toArray.toList:=⟨hl,hi⟩
    have hY:RL (cx st ρ W m) _ Y.toArray.toList:=⟨hl',hi'⟩
    have hgr:∀ op,(eqGuard op t ox oy (.agg X.toArray) (.agg Y.toArray)).run P W=.ok () W:=fun op=>guard_ok (by simp) (fun _ _ _ _=>hg)
    have he:(Op.equal t (.agg X.toArray) (.agg Y.toArray)).run P W=.ok b W:=(flat_agg (P:=P) (W:=W) (D:=9999) (flat_ok 5) hf ha (by omega) hX hY h).1
    constructor
    ·have e:binOp .eql t (.agg X.toArray) (.agg Y.toArray)=(do pure (.bool (← Op.equal t (.agg X.toArray) (.agg Y.toArray)))):=rfl
     simp only [Sem.run_bind,hgr,Result.andThen_ok,e,he,Sem.run_pure]
    ·have e:binOp .neq t (.agg X.toArray) (.agg Y.toArray)=(do pure (.bool (!(← Op.equal t (.agg X.toArray) (.agg Y.toArray))))):=rfl
     simp only [Sem.run_bind,hgr,Result.andThen_ok,e,he,Sem.run_pure]
 ·rename_i k'
  obtain ⟨q1,q2,q3,q4,q5⟩:=eqNil_ok (P:=P) h hu hv h3 h4 h5 h6 9999
  have hgr:∀ op,(eqGuard op t ox oy u v).run P W=.ok () W:=fun op=>guard_ok q2 (fun xs ys a b=>(q3 xs ys a b).elim)
  have he:(Op.equal t u v).run P W=.ok b W:=q1
  constructor
  ·simp only [Sem.run_bind,hgr,Result.andThen_ok,q4,he,Sem.run_pure]
  ·simp only [Sem.run_bind,hgr,Result.andThen_ok,q5,he,Sem.run_pure]
 ·simp at h
end
end Go.QAbs
namespace Go.QAbs
open Go.RowKit (Below)
section
variable {P:Program} {W0:World} {B0:Bse} {st st':St} {ρ:Rho} {W:World} {e:Env} {a:Act}
theorem ret1_inv {v0 v:AV} (h:ret1 st v0=some (v,st')):v=v0∧st'=st:=by
 simp only [ret1,oJ,Prod.mk.injEq] at h;exact ⟨h.1.symm,h.2.symm⟩
theorem fin_pure (hr:Rel W0 B0 st ρ W) {o:Oper} {s:Sem Value} {q:Option AV} {v:AV} (hrun:(execOp a.eval o).run P W=(do pure (Next.value (← s)):Sem Next).run P W)
 (h:q.bind (ret1 st)=some (v,st')) (hok:∀ v0,q=some v0→∃ x,s.run P W=.ok x W∧R (cx st ρ W st.A.length) v0 x):Fin W0 B0 st ρ W ((execOp a.eval o).run P W) v st':=by
 simp only [oB] at h
 obtain ⟨v0,h0,h1⟩:=h
 obtain ⟨rfl,rfl⟩:=ret1_inv h1
 obtain ⟨x,hx,hv⟩:=hok v h0
 exact Fin.val hr (by rw [hrun];exact run_v hx) hv
theorem oopd_ok {x:Option Operand} {q:Option Opd} (h:oopd x=some q) {C:Cx} (he:EnvR C e a.tmps):OptR C (oget e q) (x.map a.eval):=by
 cases x with
 | none=>simp only [oopd,oJ] at h;subst h;exact trivial
 | some x =>
  simp only [oopd,oM] at h
  obtain ⟨y,hy,rfl⟩:=h
  exact opd_ok hy he
theorem parts_inv {α:Type} {f:Nat→Operand→Option α} {parts:Array (Nat × Operand)} {l:List α} (h:(parts.toList.mapM fun p=>f p.1 p.2)=some l) :
 l.length=parts.toList.length∧∀ (i:Nat) (q:α) (p:Nat × Operand),l[i]?=some q→parts.toList[i]?=some p→f p.1 p.2=some q:=by
 obtain ⟨h1,h2⟩:=mapM_ok h
 exact ⟨h1.symm,fun i q p hq hp=>h2 i p q hp hq⟩
theorem build_struct_run {t:TypeId} {fs:Array Field} {ps:List (Nat × Nat)} (ht:P.underlying t=some (.struct fs)) (hp:places P fs.toList=some ps) {zv:Value} (hz:(zeroValue t).run P W=.ok zv W)
 {parts:Array (Nat × Value)} {cs:Array Value} (hf:Instr.fill (fun i=>ps.toArray[i]?) zv.cells parts.toList=some cs):(Instr.build t parts).run P W=.ok (.agg cs) W:=by
 have hm:(fs.mapM (fun f=>(do pure (f.offset,← sizeOf f.type):Sem (Nat × Nat)))).run P W=.ok ps.toArray W:=by
  have:=mapM_places (P:=P) (W:=W) hp
  rw [← Array.toArray_toList (xs:=fs),List.mapM_toArray,Sem.run_map,this]
  rfl
 simp only [Instr.build,Sem.run_bind,hz,Result.andThen_ok,run_und ht,hm,hf,Sem.run_pure]
theorem build_array_run {t el:TypeId} {n w:Nat} (ht:P.underlying t=some (.array n el)) (hw:sz P el=some w) {zv:Value} (hz:(zeroValue t).run P W=.ok zv W)
 {parts:Array (Nat × Value)} {cs:Array Value} (hf:Instr.fill (fun i=>some (i*w,w)) zv.cells parts.toList=some cs):(Instr.build t parts).run P W=.ok (.agg cs) W:=by
 simp only [Instr.build,Sem.run_bind,hz,Result.andThen_ok,run_und ht,run_sz hw,hf,Sem.run_pure]
theorem bin_fin (hr:Rel W0 B0 st ρ W) (he:EnvR (cx st ρ W st.A.length) e a.tmps) {o:Oper} {op:BinOp} {t yt:TypeId} {x y:Operand} {p q:Opd} {v:AV} (hop:o.op=.binOp op t x y yt) (hp:opd x=some p) (hq:opd y=some q)
 (h:evalPO e st (.bin op p q)=some (v,st')):Fin W0 B0 st ρ W ((execOp a.eval o).run P W) v st':=by
 simp only [evalPO] at h
 refine fin_pure hr (s:=do eqGuard op t x y (a.eval x) (a.eval y);binOp op t (a.eval x) (a.eval y)) (by simp only [execOp,hop]) h ?_
 intro v0 h0
 obtain ⟨z,hz,hv⟩:=binV_ok (P:=P) (W:=W) (ox:=x) (oy:=y) h0 (opd_ok hp he) (opd_ok hq he)
 exact ⟨z,hz,hv _⟩
theorem eqs_fin (hr:Rel W0 B0 st ρ W) (he:EnvR (cx st ρ W st.A.length) e a.tmps) {o:Oper} {op:BinOp} {neg:Bool} {k:Nat} {ks:List (Nat × Nat)} {t yt:TypeId} {x y:Operand} {p q:Opd} {v:AV}
 (hop:o.op=.binOp op t x y yt) (hneg:(op=.eql∧neg=false)∨(op=.neq∧neg=true)) (hp:opd x=some p) (hq:opd y=some q)
 (h0:k=0→flat P 6 t=some ks∧(∃ n,sz P t=some n)∧P.eqGuardType P.depth t=false∧aggT P t=some true)
 (h3:k=3→∃ el,P.underlying t=some (.pointer el)) (h4:k=4→∃ a b,P.underlying t=some (.map a b)) (h5:k=5→∃ a b c,P.underlying t=some (.func a b c)) (h6:k=6→P.underlying t=some .bool)
 (h:evalPO e st (.eqs neg k ks p q)=some (v,st')):Fin W0 B0 st ρ W ((execOp a.eval o).run P W) v st':=by
 simp only [evalPO,oB,oJ,Prod.mk.injEq] at h
 obtain ⟨b,hb,rfl,rfl⟩:=h
 obtain ⟨e1,e2⟩:=eqV_ok (P:=P) (W:=W) hb (opd_ok hp he) (opd_ok hq he) x y h0 h3 h4 h5 h6
 rcases hneg with ⟨rfl,rfl⟩|⟨rfl,rfl⟩
 ·refine Fin.val hr (x:=.bool b) ?_ (.bool _)
  simp only [execOp,hop]
  exact run_v e1
 ·refine Fin.val hr (x:=.bool (!b)) ?_ (.bool _)
  simp only [execOp,hop]
  exact run_v e2
theorem move_fin (hr:Rel W0 B0 st ρ W) (he:EnvR (cx st ρ W st.A.length) e a.tmps) {o:Oper} {x:Operand} {p:Opd} {v:AV} (hop:o.op=.move x∨o.op=.assign x) (hp:opd x=some p)
 (h:evalPO e st (.mv p)=some (v,st')):Fin W0 B0 st ρ W ((execOp a.eval o).run P W) v st':=by
 simp only [evalPO,oJ,Prod.mk.injEq] at h
 obtain ⟨rfl,rfl⟩:=h
 refine Fin.val hr (x:=a.eval x) ?_ (opd_ok hp he)
 rcases hop with hop|hop<;>simp [execOp,hop]
theorem onil_fin (hr:Rel W0 B0 st ρ W) {o:Oper} {w:Nat} {v:AV} (hop:o.op=.move (.const (.slice none 0 0))∨o.op=.assign (.const (.slice none 0 0)))
 (h:evalPO e st (.onil w)=some (v,st')):Fin W0 B0 st ρ W ((execOp a.eval o).run P W) v st':=by
 simp only [evalPO,oB,newRefK,oJ,Prod.mk.injEq] at h
 obtain ⟨⟨i,st1⟩,hn,rfl,rfl⟩:=h
 obtain ⟨g,hg⟩:=new_nil hr (.of_new hn) none
 have hlen:=g.ev.len
 refine ⟨.value (.slice none 0 0),_,_,_,?_,.inl rfl,g,.ref (hg _ (by show st.A.length≤st1.A.length;omega))⟩
 rcases hop with hop|hop<;>simp [execOp,hop,Act.eval]
theorem box_fin (hr:Rel W0 B0 st ρ W) {s:Sem Value} {t:TypeId} {x:Value} {av v:AV} (hx:R (cx st ρ W st.A.length) av x) (hs:∀ r W',(newVar t x).run P W=.ok r W'→s.run P W=.ok (.pointer (some r)) W') {o:Oper}
 (hrun:(execOp a.eval o).run P W=(do pure (Next.value (← s)):Sem Next).run P W)
 (h:(av.wide.bind fun w=>(st.new (.arr w 0 [av])).bind (newPtrK st.A.length))=some (v,st')):Fin W0 B0 st ρ W ((execOp a.eval o).run P W) v st':=by
 simp only [oB,newPtrK,oJ,Prod.mk.injEq] at h
 obtain ⟨w,hw,⟨i,st1⟩,hn,rfl,rfl⟩:=h
 obtain ⟨ρ',W',e1,g,hv⟩:=box_ok (P:=P) (t:=t) hr hx hw (.of_new hn)
 exact ⟨_,_,_,_,by rw [hrun];exact run_v (hs _ _ e1),.inl rfl,g,hv⟩
theorem boxnil_fin (hr:Rel W0 B0 st ρ W) {s:Sem Value} {t:TypeId} {w:Nat} {v:AV} (hs:∀ r W',(newVar t (.slice none 0 0)).run P W=.ok r W'→s.run P W=.ok (.pointer (some r)) W') {o:Oper}
 (hrun:(execOp a.eval o).run P W=(do pure (Next.value (← s)):Sem Next).run P W)
 (h:evalPO e st (.boxnil w)=some (v,st')):Fin W0 B0 st ρ W ((execOp a.eval o).run P W) v st':=by
 simp only [evalPO,oB,boxNilK,newPtrK,oJ,Prod.mk.injEq] at h
 obtain ⟨⟨i,st1⟩,hn,⟨j,st2⟩,hn2,rfl,rfl⟩:=h
 obtain ⟨ρ',W',e1,g,hv⟩:=boxnil_ok (P:=P) (t:=t) hr hn hn2
 exact ⟨_,_,_,_,by rw [hrun];exact run_v (hs _ _ e1),.inl rfl,g,hv⟩
theorem flat_sz {t:TypeId} {ks:List (Nat × Nat)} (h:flat P 6 t=some ks) (ha:aggT P t=some true):∃ n,sz P t=some n:=by
 unfold flat at h
 split at h
 ·rename_i k hk;simp [aggT,hk] at ha
 ·rename_i hk;simp [aggT,hk] at ha
 ·rename_i hk;simp [aggT,hk] at ha
 ·split at h
  ·simp at h
  ·simp only [oB] at h
   obtain ⟨n,hn,_⟩:=h
   exact ⟨n,hn⟩
 ·simp only [oB] at h
  obtain ⟨n,hn,_⟩:=h
  exact ⟨n,hn⟩
 ·simp at h
theorem b2s_slice {C:Cx} (ok:C.Ok) {x v:AV} (h:b2sV st x=some v) {u:Value} (hx:R C x u):∃ b n c,u=.slice b n c:=by
 unfold b2sV at h
 split at h
 ·simp at h
 ·simp only [oB,oJ] at h
  obtain ⟨es,he,l,hl,rfl⟩:=h
  unfold elems at he
  split at he
  ·cases hx;exact ⟨_,_,_,rfl⟩
  ·cases hx<;>exact ⟨_,_,_,rfl⟩
  ·rename_i l0 hns;exact absurd rfl (hns l0)
  ·cases hx with
   | ref hp=>obtain ⟨a,c,q⟩:=ok.ref hp;exact ⟨a,_,c,q⟩
  ·simp at he
theorem arr_of {α:Type} {xs:Array α} {l:List α} (h:xs.toList=l):xs=l.toArray:=by rw [← h]
theorem builtin_fin (hr:Rel W0 B0 st ρ W) (he:EnvR (cx st ρ W st.A.length) e a.tmps) {o:Oper} {c:Call} {b:Builtin} (hop:o.op=.call c) (hb:c.callee=.builtin b) {po:PO} {v:AV}
 (hc:compBuiltin P b c.args.toList c.argTypes.toList=some po) (h:evalPO e st po=some (v,st')):Fin W0 B0 st ρ W ((execOp a.eval o).run P W) v st':=by
 obtain ⟨cs,ex⟩:∃ cs:Array Bool,(execOp a.eval o).run P W=(builtin b c.argTypes o.type cs (c.args.map a.eval)).run P W:=by
  simp only [execOp,hop,resolve,hb]
  exact ⟨_,rfl⟩
 unfold compBuiltin at hc
 split at hc
 ·rename_i x t ha ht
  have ht:=arr_of ht
  have ha:c.args.map a.eval=#[a.eval x]:=by rw [arr_of ha];simp
  have er:∀ z,(Builtin.len_ #[t] o.type #[a.eval x]).run P W=.ok z W→(execOp a.eval o).run P W=.ok (.value z) W:=by
   intro z hz
   rw [ex,ha,ht]
   exact run_v hz
  have key:∀ k p,opd x=some p→po=.len k p→(k=0→P.underlying t=some .string)→(k=1→∃ el,P.underlying t=some (.slice el))→(k=2→∃ k el,P.underlying t=some (.map k el))→Fin W0 B0 st ρ W ((execOp a.eval o).run P W) v st':=by
   intro k p hp hk h0 h1 h2
   subst hk
   simp only [evalPO,oB,oJ,Prod.mk.injEq] at h
   obtain ⟨n,hn,rfl,rfl⟩:=h
   exact Fin.val hr (er _ (lenOf_ok (P:=P) hr hn (opd_ok hp he) h0 h1 h2)) (.int _ _)
  split at hc
  ·rename_i hu
   simp only [oM] at hc
   obtain ⟨p,hp,hk⟩:=hc
   exact key 0 p hp hk.symm (fun _=>hu) (by simp) (by simp)
  ·rename_i el hu
   simp only [oM] at hc
   obtain ⟨p,hp,hk⟩:=hc
   exact key 1 p hp hk.symm (by simp) (fun _=>⟨_,hu⟩) (by simp)
  ·rename_i k el hu
   simp only [oM] at hc
   obtain ⟨p,hp,hk⟩:=hc
   exact key 2 p hp hk.symm (by simp) (by simp) (fun _=>⟨_,_,hu⟩)
  ·simp at hc
 ·rename_i s x t u ha ht
  have ht:=arr_of ht
  have ha:c.args.map a.eval=#[a.eval s,a.eval x]:=by rw [arr_of ha];simp
  have key:∀ (el:TypeId) (i:TypeInfo) (p q:Opd),P.underlying t=some (.slice el)→((∃ el',P.underlying u=some (.slice el'))∨P.underlying u=some .string)→P.info? el=some i→i.zero.map (·.cells.size)=some i.size →
   opd s=some p→opd x=some q→po=.app i.size i.bytes p q→Fin W0 B0 st ρ W ((execOp a.eval o).run P W) v st':=by
   intro el i p q hu hu2 hi hz hp hq hk
   subst hk
   simp only [evalPO,oB] at h
   obtain ⟨ys,hys,h⟩:=h
   obtain ⟨z,ρ',W',hz,g,hv⟩:=appendV_ok (P:=P) (ty:=o.type) hr hys h (opd_ok hp he) (opd_ok hq he) hu hu2 hi rfl rfl hz
   refine ⟨_,_,_,_,?_,.inl rfl,g,hv⟩
   rw [ex,ha,ht]
   exact run_v hz
  split at hc
  ·rename_i el el' hu hu2
   simp only [oB] at hc
   obtain ⟨i,hi,hc⟩:=hc
   split at hc
   ·simp at hc
   ·rename_i hcond
    simp only [oB,oM] at hc
    obtain ⟨p,hp,q,hq,hk⟩:=hc
    exact key el i p q hu (.inl ⟨_,hu2⟩) hi (by by_cases h9:i.zero.map (·.cells.size)=some i.size;exact h9;exact absurd (.inr h9) hcond) hp hq hk.symm
  ·rename_i el hu hu2
   simp only [oB] at hc
   obtain ⟨i,hi,hc⟩:=hc
   split at hc
   ·rename_i hcond
    simp only [oB,oM] at hc
    obtain ⟨p,hp,q,hq,hk⟩:=hc
    exact key el i p q hu (.inr hu2) hi hcond.2 hp hq hk.symm
   ·simp at hc
  ·simp at hc
 ·rename_i d x t u ha ht
  have ht:=arr_of ht
  have ha:c.args.map a.eval=#[a.eval d,a.eval x]:=by rw [arr_of ha];simp
  split at hc
  ·rename_i el el' hu hu2
   simp only [oB] at hc
   obtain ⟨w,hw,hc⟩:=hc
   split at hc
   ·simp at hc
   ·rename_i hw0
    simp only [oB,oM] at hc
    obtain ⟨p,hp,q,hq,rfl⟩:=hc
    simp only [evalPO,oB] at h
    obtain ⟨ys,hys,h⟩:=h
    obtain ⟨z,ρ',W',hz,g,hv⟩:=cpyV_ok (P:=P) (ty:=o.type) (u:=u) hr hys h (opd_ok hp he) (opd_ok hq he) hu hw hw0
    refine ⟨_,_,_,_,?_,.inl rfl,g,hv⟩
    rw [ex,ha,ht]
    exact run_v hz
  ·simp at hc
 ·rename_i x y ha
  have ha:c.args.map a.eval=#[a.eval x,a.eval y]:=by rw [arr_of ha];simp
  simp only [oB,oM] at hc
  obtain ⟨p,hp,q,hq,rfl⟩:=hc
  simp only [evalPO] at h
  refine fin_pure hr (s:=Builtin.min_ c.argTypes o.type #[a.eval x,a.eval y]) (by rw [ex,ha];rfl) h ?_
  intro v0 h0
  obtain ⟨z,hz,hv⟩:=mnxV_ok (P:=P) (W:=W) h0 (opd_ok hp he) (opd_ok hq he) c.argTypes o.type
  exact ⟨z,by simpa using hz,hv _⟩
 ·rename_i x y ha
  have ha:c.args.map a.eval=#[a.eval x,a.eval y]:=by rw [arr_of ha];simp
  simp only [oB,oM] at hc
  obtain ⟨p,hp,q,hq,rfl⟩:=hc
  simp only [evalPO] at h
  refine fin_pure hr (s:=Builtin.max_ c.argTypes o.type #[a.eval x,a.eval y]) (by rw [ex,ha];rfl) h ?_
  intro v0 h0
  obtain ⟨z,hz,hv⟩:=mnxV_ok (P:=P) (W:=W) h0 (opd_ok hp he) (opd_ok hq he) c.argTypes o.type
  exact ⟨z,by simpa using hz,hv _⟩
 ·rename_i m k t u ha ht
  have ht:=arr_of ht
  have ha:c.args.map a.eval=#[a.eval m,a.eval k]:=by rw [arr_of ha];simp
  split at hc
  ·rename_i key el hu
   simp only [oB,oM] at hc
   obtain ⟨kk,hkk,p,hp,q,hq,rfl⟩:=hc
   simp only [evalPO,oB,retT,oJ,Prod.mk.injEq] at h
   obtain ⟨st1,hs,rfl,rfl⟩:=h
   obtain ⟨W',hrun,g⟩:=mdelV_ok (P:=P) (u:=u) (ty:=o.type) hr hs (opd_ok hq he) (opd_ok hp he) hu hkk
   refine ⟨_,.tuple #[],ρ,W',?_,.inl rfl,g,.tup (xs:=[]) rfl (by simp)⟩
   rw [ex,ha,ht]
   exact run_v hrun
  ·simp at hc
 ·simp at hc
theorem op_fin (hr:Rel W0 B0 st ρ W) (he:EnvR (cx st ρ W st.A.length) e a.tmps) {o:Oper} {own:Bool} {cm:CM} {po:PO} {v:AV} (hc:compOp P own cm o=some po) (hnc:∀ m f l,po≠.call m f l)
 (h:evalPO e st po=some (v,st')):Fin W0 B0 st ρ W ((execOp a.eval o).run P W) v st':=by
 have mv:∀ x,(o.op=.move x∨o.op=.assign x)→∀ p,opd x=some p→po=.mv p→Fin W0 B0 st ρ W ((execOp a.eval o).run P W) v st':=fun x hop p hp e'=>by subst e';exact move_fin hr he hop hp h
 unfold compOp at hc
 split at hc
 ·rename_i x hop
  split at hc
  ·split at hc
   ·simp only [oB] at hc
    obtain ⟨w,hw,hc⟩:=hc
    split at hc
    ·simp at hc
    ·simp only [oJ] at hc;subst hc
     exact onil_fin hr (.inl hop) h
   ·simp at hc
  ·simp only [oM] at hc
   obtain ⟨p,hp,rfl⟩:=hc
   exact move_fin hr he (.inl hop) hp h
 ·rename_i x hop
  split at hc
  ·split at hc
   ·simp only [oB] at hc
    obtain ⟨w,hw,hc⟩:=hc
    split at hc
    ·simp at hc
    ·simp only [oJ] at hc;subst hc
     exact onil_fin hr (.inr hop) h
   ·simp at hc
  ·simp only [oM] at hc
   obtain ⟨p,hp,rfl⟩:=hc
   exact move_fin hr he (.inr hop) hp h
 ·-- pick
  rename_i c x y hop
  simp only [oB,oM] at hc
  obtain ⟨c',hc',x',hx',y',hy',rfl⟩:=hc
  simp only [evalPO] at h
  refine fin_pure hr (s:=do pure (if ← asBool (a.eval c) then a.eval x else a.eval y)) (by simp [execOp,hop]) h ?_
  intro v0 h0
  obtain ⟨t,ht,hv⟩:=pickV_ok h0 (opd_ok hx' he) (opd_ok hy' he) (opd_ok hc' he)
  exact ⟨_,by rw [ht];simp [asBool],hv⟩
 ·-- alloc
  rename_i el hop
  split at hc
  ·rename_i u hu
   simp only [oB] at hc
   obtain ⟨w,hw,hc⟩:=hc
   split at hc
   ·simp at hc
   ·split at hc
    ·rename_i hz
     simp only [oJ] at hc;subst hc
     refine boxnil_fin hr (s:=Instr.alloc el true (.tuple #[])) (t:=el) ?_ (by simp [execOp,hop]) h
     intro r W' hn
     have hzr:(zeroValue el).run P W=.ok (.slice none 0 0) W:=by
      cases hi:P.info? el with
      | none=>rw [hi] at hz;simp at hz
      | some i=>rw [hi] at hz;simp at hz;simp [zeroValue,typeInfo,hi,hz]
     simp [Instr.alloc,hzr,hn]
    ·simp at hc
  ·simp only [oM] at hc
   obtain ⟨z,hz,rfl⟩:=hc
   obtain ⟨zv,hzr,hzc,_⟩:=run_zero (W:=W) hz
   simp only [evalPO,Opd.get] at h
   refine box_fin hr (s:=Instr.alloc el true (.tuple #[])) (t:=el) (hzc _) ?_ (by simp [execOp,hop]) h
   intro r W' hn
   simp [Instr.alloc,hzr,hn]
 ·-- box
  rename_i el x hop
  split at hc
  ·split at hc
   ·simp only [oB] at hc
    obtain ⟨w,hw,hc⟩:=hc
    split at hc
    ·simp at hc
    ·simp only [oJ] at hc;subst hc
     refine boxnil_fin hr (s:=Instr.box el (.slice none 0 0)) (t:=el) ?_ (by simp [execOp,hop,Act.eval]) h
     intro r W' hn
     simp [Instr.box,hn]
   ·simp at hc
  ·simp only [oM] at hc
   obtain ⟨p,hp,rfl⟩:=hc
   simp only [evalPO] at h
   refine box_fin hr (s:=Instr.box el (a.eval x)) (t:=el) (opd_ok hp he) ?_ (by simp [execOp,hop]) h
   intro r W' hn
   simp [Instr.box,hn]
 ·-- build
  rename_i t parts hop
  split at hc
  ·rename_i z fs hz hu
   simp only [oB,oM] at hz hc
   obtain ⟨zv,hzz,rfl⟩:=hz
   obtain ⟨ps,hps,l,hl,rfl⟩:=hc
   simp only [evalPO,oB,oJ,Prod.mk.injEq] at h
   obtain ⟨cs,hf,rfl,rfl⟩:=h
   obtain ⟨hl1,hl2⟩:=parts_inv (f:=fun i x=>(ps[i]?).bind fun q=>(opd x).map fun x=>(q.1,q.2,x)) hl
   obtain ⟨x,hx,hv⟩:=build_ok (P:=P) (W:=W) (a:=a) (place:=fun i=>ps.toArray[i]?) (cx_ok st ρ W st.A.length) hzz he hf ⟨hl1,fun i q p hq hp=>by
    have:=hl2 i q p hq hp
    simp only [oB,oM] at this
    obtain ⟨q',hq',x',hx',rfl⟩:=this
    exact ⟨by simpa using hq',hx'⟩⟩ (fun zv hz cs' hf'=>build_struct_run hu hps hz hf')
   exact Fin.val hr (by simp only [execOp,hop];exact run_v hx) hv
  ·rename_i z n el hz hu
   simp only [oB,oM] at hz hc
   obtain ⟨zv,hzz,rfl⟩:=hz
   obtain ⟨w,hw,l,hl,rfl⟩:=hc
   simp only [evalPO,oB,oJ,Prod.mk.injEq] at h
   obtain ⟨cs,hf,rfl,rfl⟩:=h
   obtain ⟨hl1,hl2⟩:=parts_inv (f:=fun i x=>(opd x).map fun x=>(i*w,w,x)) hl
   obtain ⟨x,hx,hv⟩:=build_ok (P:=P) (W:=W) (a:=a) (place:=fun i=>some (i*w,w)) (cx_ok st ρ W st.A.length) hzz he hf ⟨hl1,fun i q p hq hp=>by
    have:=hl2 i q p hq hp
    simp only [oM] at this
    obtain ⟨x',hx',rfl⟩:=this
    exact ⟨rfl,hx'⟩⟩ (fun zv hz cs' hf'=>build_array_run hu hw hz hf')
   exact Fin.val hr (by simp only [execOp,hop];exact run_v hx) hv
  ·simp at hc
 ·-- slice literal
  rename_i t n parts hop
  split at hc
  ·rename_i el hu
   simp only [oB] at hc
   obtain ⟨w,hw,hc⟩:=hc
   split at hc
   ·simp at hc
   ·rename_i hcond
    simp only [oB] at hc
    obtain ⟨z,hz,hc⟩:=hc
    split at hc
    ·rename_i hzw
     simp only [oM] at hc
     obtain ⟨l,hl,rfl⟩:=hc
     simp only [evalPO,oB] at h
     obtain ⟨es,hf,hk⟩:=h
     obtain ⟨hl1,hl2⟩:=parts_inv (f:=fun i x=>(opd x).map fun x=>(i,x)) hl
     obtain ⟨cs,xs,hrun,hrl,hla,hcs,hlen⟩:=bslice_run (P:=P) (W:=W) (a:=a) hu hw (by omega) (by omega) hz hzw (cx_ok st ρ W st.A.length) he hf ⟨hl1,fun i q p hq hp=>by
      have:=hl2 i q p hq hp
      simp only [oM] at this
      obtain ⟨x',hx',rfl⟩:=this
      exact ⟨rfl,hx'⟩⟩
     obtain ⟨ρ',g,hv⟩:=bslK_ok (el:=el) hr hrl hla hcs hlen hk
     exact ⟨_,_,_,_,by simp only [execOp,hop];exact run_v hrun,.inl rfl,g,hv⟩
    ·simp at hc
  ·simp at hc
 ·-- load
  rename_i t x hop
  simp only [oB,oM] at hc
  obtain ⟨g,hg,n,hn,p,hp,rfl⟩:=hc
  simp only [evalPO] at h
  refine fin_pure hr (s:=Instr.loadAt t (a.eval x)) (by simp [execOp,hop]) h ?_
  intro v0 h0
  obtain ⟨b,z,hb,hz,hv⟩:=loadP_ok (P:=P) hr h0 (opd_ok hp he) hg hn
  exact ⟨z,by rw [hb];simp [Instr.loadAt,Instr.sureAddr,hz],hv⟩
 ·-- store
  rename_i t p x hop
  simp only [oB,oM] at hc
  obtain ⟨n,hn,p',hp,x',hx,rfl⟩:=hc
  simp only [evalPO,oB,retU,oJ,Prod.mk.injEq] at h
  obtain ⟨st1,hs,rfl,rfl⟩:=h
  obtain ⟨b,W',hb,hrun,g⟩:=storeP_ok (P:=P) hr hs (opd_ok hx he) (opd_ok hp he) hn
  refine ⟨.skip,Go.undef,ρ,W',?_,.inr ⟨rfl,rfl⟩,g,.undef⟩
  simp only [execOp,hop]
  refine run_u ?_
  rw [hb];simp [Instr.storeAt,Instr.sureAddr,hrun]
 ·-- nil check
  rename_i x hop
  simp only [oM] at hc
  obtain ⟨p,hp,rfl⟩:=hc
  simp only [evalPO,oB] at h
  obtain ⟨v0,h0,h1⟩:=h
  obtain ⟨rfl,rfl⟩:=ret1_inv h1
  obtain ⟨hrun,hv⟩:=nilckV_ok (P:=P) (W:=W) (cx_ok _ _ _ _) h0 (opd_ok hp he) a.eval o x hop rfl
  exact Fin.val hr hrun hv
 ·-- binary
  rename_i op t x y yt hop
  simp only [oB] at hc
  obtain ⟨p,hp,q,hq,hc⟩:=hc
  have hbin:some (.bin op p q)=some po→Fin W0 B0 st ρ W ((execOp a.eval o).run P W) v st':=by
   intro hc
   simp only [oJ] at hc;subst hc
   exact bin_fin hr he hop hp hq h
  have heq:∀ (k:Nat) (ks:List (Nat × Nat)),eqsOf k ks p q op=some po →
   (k=0→flat P 6 t=some ks∧(∃ n,sz P t=some n)∧P.eqGuardType P.depth t=false∧aggT P t=some true) →
   (k=3→∃ el,P.underlying t=some (.pointer el))→(k=4→∃ a b,P.underlying t=some (.map a b))→(k=5→∃ a b c,P.underlying t=some (.func a b c))→(k=6→P.underlying t=some .bool) →
   Fin W0 B0 st ρ W ((execOp a.eval o).run P W) v st':=by
   intro k ks hc h0 h3 h4 h5 h6
   unfold eqsOf at hc
   split at hc
   ·simp only [oJ] at hc;subst hc
    exact eqs_fin hr he hop (.inl ⟨rfl,rfl⟩) hp hq h0 h3 h4 h5 h6 h
   ·simp only [oJ] at hc;subst hc
    exact eqs_fin hr he hop (.inr ⟨rfl,rfl⟩) hp hq h0 h3 h4 h5 h6 h
   ·simp at hc
  split at hc
  ·exact hbin hc
  ·exact hbin hc
  ·rename_i hk;exact heq 6 [] hc (by simp) (by simp) (by simp) (by simp) (fun _=>hk)
  ·rename_i fs hk
   split at hc
   ·simp at hc
   ·rename_i hg
    simp only [oB] at hc
    obtain ⟨ks,hks,hc⟩:=hc
    exact heq 0 ks hc (fun _=>⟨hks,flat_sz hks (by simp [aggT,hk]),by simpa using hg,by simp [aggT,hk]⟩) (by simp) (by simp) (by simp) (by simp)
  ·rename_i n el hk
   split at hc
   ·simp at hc
   ·rename_i hg
    simp only [oB] at hc
    obtain ⟨ks,hks,hc⟩:=hc
    exact heq 0 ks hc (fun _=>⟨hks,flat_sz hks (by simp [aggT,hk]),by simpa using hg,by simp [aggT,hk]⟩) (by simp) (by simp) (by simp) (by simp)
  ·rename_i el hk;exact heq 3 [] hc (by simp) (fun _=>⟨_,hk⟩) (by simp) (by simp) (by simp)
  ·rename_i x1 x2 hk;exact heq 4 [] hc (by simp) (by simp) (fun _=>⟨_,_,hk⟩) (by simp) (by simp)
  ·rename_i x1 x2 x3 hk;exact heq 5 [] hc (by simp) (by simp) (by simp) (fun _=>⟨_,_,_,hk⟩) (by simp)
  ·simp at hc
 ·-- unary
  rename_i op t x hop
  simp only [oM] at hc
  obtain ⟨p,hp,rfl⟩:=hc
  simp only [evalPO] at h
  refine fin_pure hr (s:=Op.unary op (a.eval x)) (by simp only [execOp,hop]) h ?_
  intro v0 h0
  obtain ⟨z,hz,hv⟩:=unV_ok (P:=P) (W:=W) h0 (opd_ok hp he)
  exact ⟨z,hz,hv _⟩
 ·-- conversion
  rename_i s d x hop
  split at hc
  ·rename_i k0 k hs hd
   simp only [oM] at hc
   obtain ⟨p,hp,rfl⟩:=hc
   simp only [evalPO] at h
   refine fin_pure hr (s:=convert s d (a.eval x)) (by simp only [execOp,hop]) h ?_
   intro v0 h0
   obtain ⟨z,hz,hv⟩:=cintV_ok (P:=P) (W:=W) h0 (opd_ok hp he) hs hd
   exact ⟨z,hz,hv _⟩
  ·rename_i hs hd
   simp only [oM] at hc
   obtain ⟨p,hp,rfl⟩:=hc
   simp only [evalPO] at h
   refine fin_pure hr (s:=convert s d (a.eval x)) (by simp only [execOp,hop]) h ?_
   intro v0 h0
   obtain ⟨z,hz,hv⟩:=cstrV_ok (P:=P) (W:=W) h0 (opd_ok hp he) hs hd
   exact ⟨z,hz,hv _⟩
  ·rename_i el hs hd
   split at hc
   ·rename_i hel
    simp only [oM] at hc
    obtain ⟨p,hp,rfl⟩:=hc
    simp only [evalPO] at h
    refine fin_pure hr (s:=convert s d (a.eval x)) (by simp only [execOp,hop]) h ?_
    intro v0 h0
    obtain ⟨z,hz,hv⟩:=b2sV_ok (P:=P) hr h0 (opd_ok hp he)
    refine ⟨z,?_,hv _⟩
    obtain ⟨bb,n,c,hx⟩:=b2s_slice (cx_ok _ _ _ _) h0 (opd_ok hp he)
    rw [hx] at hz ⊢
    rw [run_convert_bytes_string W s d el bb n c hs hel hd]
    exact hz
   ·simp at hc
  ·simp at hc
 ·-- a function value
  rename_i fn f c hop
  have hn:fnOk fn=true:=by
   cases q:fnOk fn with
   | true=>rfl
   | false=>rw [q] at hc;simp at hc
  rw [if_pos hn] at hc
  simp only [oB,oM] at hc
  obtain ⟨f',hf,c',hc',rfl⟩:=hc
  simp only [evalPO,oJ,Prod.mk.injEq] at h
  obtain ⟨rfl,rfl⟩:=h
  refine Fin.val hr (x:=.func fn (f.map a.eval) (c.map a.eval)) (by simp only [execOp,hop];exact run_v (by simp [Instr.makeFunc])) ?_
  have r1:=opds_ok hf he
  have r2:=opds_ok hc' he
  rw [show f.map a.eval=(f.toList.map a.eval).toArray by rw [← Array.toList_map,Array.toArray_toList],show c.map a.eval=(c.toList.map a.eval).toArray by rw [← Array.toList_map,Array.toArray_toList]]
  exact .func fn hn r1.1 r2.1 r1.2 r2.2
 ·-- make a map
  rename_i t hop
  simp only [oJ] at hc;subst hc
  simp only [evalPO,oB,newMapK,oJ,Prod.mk.injEq] at h
  obtain ⟨⟨i,st1⟩,hn,rfl,rfl⟩:=h
  obtain ⟨g,hg⟩:=new_map hr (.of_new hn)
  have hlen:=g.ev.len
  refine ⟨.value (.map (some W.heap.size)),_,_,_,?_,.inl rfl,g,.map (hg _ (by show st.A.length≤st1.A.length;omega))⟩
  simp only [execOp,hop]
  exact run_v (by simp [Instr.makeMap,newObj,Sem.run])
 ·-- make a slice
  rename_i t l c hop
  split at hc
  ·rename_i el hu
   simp only [oB] at hc
   obtain ⟨i,hi,hc⟩:=hc
   split at hc
   ·simp at hc
   ·rename_i hw0
    simp only [oB] at hc
    obtain ⟨z,hz,hc⟩:=hc
    split at hc
    ·rename_i hzw
     simp only [oB,oM] at hc
     obtain ⟨l',hl,c',hc',rfl⟩:=hc
     simp only [evalPO] at h
     obtain ⟨x,ρ',W',hx,g,hv⟩:=mkslV_ok (P:=P) hr h (opd_ok hl he) (opd_ok hc' he) hu hi rfl rfl hw0 hz hzw
     exact ⟨_,_,_,_,by simp only [execOp,hop];exact run_v hx,.inl rfl,g,hv⟩
    ·simp at hc
  ·simp at hc
 ·-- slice
  rename_i t x lo hi hop
  simp only [oB] at hc
  obtain ⟨p,hp,lo',hlo,hi',hhi,hc⟩:=hc
  split at hc
  ·rename_i hu
   simp only [oJ] at hc;subst hc
   simp only [evalPO] at h
   refine fin_pure hr (s:=Instr.sliceAt t (a.eval x) (lo.map a.eval) (hi.map a.eval) none) (by simp only [execOp,hop,Option.map_none]) h ?_
   intro v0 h0
   obtain ⟨z,hz,hv⟩:=slcSV_ok (P:=P) (W:=W) h0 (opd_ok hp he) (oopd_ok hlo he) (oopd_ok hhi he) hu
   exact ⟨z,hz,hv _⟩
  ·rename_i el hu
   simp only [oB] at hc
   obtain ⟨w,hw,hc⟩:=hc
   split at hc
   ·simp at hc
   ·rename_i hw0
    simp only [oJ] at hc;subst hc
    simp only [evalPO] at h
    refine fin_pure hr (s:=Instr.sliceAt t (a.eval x) (lo.map a.eval) (hi.map a.eval) none) (by simp only [execOp,hop,Option.map_none]) h ?_
    intro v0 h0
    exact slcV_ok (P:=P) hr h0 (opd_ok hp he) (oopd_ok hlo he) (oopd_ok hhi he) hu hw hw0
  ·simp at hc
 ·-- address of a field
  rename_i s x f hop
  split at hc
  ·rename_i fs hu
   simp only [oB] at hc
   obtain ⟨q,hq,n,hn,hc⟩:=hc
   split at hc
   ·simp at hc
   ·rename_i hn0
    simp only [oM] at hc
    obtain ⟨p,hp,rfl⟩:=hc
    simp only [evalPO] at h
    refine fin_pure hr (s:=Instr.fieldAt s (a.eval x) f) (by simp only [execOp,hop]) h ?_
    intro v0 h0
    exact fadrV_ok (P:=P) h0 (opd_ok hp he) hu hq rfl hn hn0
  ·simp at hc
 ·-- field
  rename_i s x f hop
  split at hc
  ·rename_i fs hu
   simp only [oB,oM] at hc
   obtain ⟨q,hq,n,hn,g,hg,p,hp,rfl⟩:=hc
   simp only [evalPO] at h
   refine fin_pure hr (s:=Instr.field s (a.eval x) f) (by simp only [execOp,hop]) h ?_
   intro v0 h0
   exact fldV_ok (P:=P) (W:=W) (cx_ok _ _ _ _) h0 (opd_ok hp he) hu hq rfl hg hn
  ·simp at hc
 ·-- address of an element
  rename_i t x i hop
  split at hc
  ·rename_i el hu
   simp only [oB] at hc
   obtain ⟨w,hw,hc⟩:=hc
   split at hc
   ·simp at hc
   ·simp only [oB,oM] at hc
    obtain ⟨p,hp,q,hq,rfl⟩:=hc
    simp only [evalPO] at h
    refine fin_pure hr (s:=Instr.indexAt t (a.eval x) (a.eval i)) (by simp only [execOp,hop]) h ?_
    intro v0 h0
    exact ixSV_ok (P:=P) hr h0 (opd_ok hp he) (opd_ok hq he) hu hw
  ·rename_i n el hu
   simp only [oB] at hc
   obtain ⟨w,hw,hc⟩:=hc
   split at hc
   ·simp at hc
   ·simp only [oB,oM] at hc
    obtain ⟨p,hp,q,hq,rfl⟩:=hc
    simp only [evalPO] at h
    refine fin_pure hr (s:=Instr.indexAt t (a.eval x) (a.eval i)) (by simp only [execOp,hop]) h ?_
    intro v0 h0
    exact ixAV_ok (P:=P) h0 (opd_ok hp he) (opd_ok hq he) hu hw
  ·simp at hc
 ·-- element
  rename_i t x i hop
  split at hc
  ·rename_i hu
   simp only [oB,oM] at hc
   obtain ⟨p,hp,q,hq,rfl⟩:=hc
   simp only [evalPO] at h
   refine fin_pure hr (s:=Instr.index t (a.eval x) (a.eval i)) (by simp only [execOp,hop]) h ?_
   intro v0 h0
   obtain ⟨z,hz,hv⟩:=ixStrV_ok (P:=P) (W:=W) h0 (opd_ok hp he) (opd_ok hq he) hu
   exact ⟨z,hz,hv _⟩
  ·rename_i n el hu
   simp only [oB,oM] at hc
   obtain ⟨w,hw,g,hg,p,hp,q,hq,rfl⟩:=hc
   simp only [evalPO] at h
   refine fin_pure hr (s:=Instr.index t (a.eval x) (a.eval i)) (by simp only [execOp,hop]) h ?_
   intro v0 h0
   exact ixArrV_ok (P:=P) (W:=W) (cx_ok _ _ _ _) h0 (opd_ok hp he) (opd_ok hq he) hu hg hw
  ·simp at hc
 ·-- lookup
  rename_i t x i ok hop
  split at hc
  ·rename_i k el hu
   simp only [oB,oM] at hc
   obtain ⟨kk,hkk,z,hz,p,hp,q,hq,rfl⟩:=hc
   simp only [evalPO] at h
   refine fin_pure hr (s:=Instr.lookup t (a.eval x) (a.eval i) ok) (by simp only [execOp,hop]) h ?_
   intro v0 h0
   exact lookV_ok (P:=P) hr h0 (opd_ok hq he) (opd_ok hp he) hu hkk hz
  ·simp at hc
 ·-- map update
  rename_i t m k x hop
  split at hc
  ·rename_i key el hu
   simp only [oB,oM] at hc
   obtain ⟨kk,hkk,m',hm,k',hk,x',hx,rfl⟩:=hc
   simp only [evalPO,oB,retU,oJ,Prod.mk.injEq] at h
   obtain ⟨st1,hs,rfl,rfl⟩:=h
   obtain ⟨W',hrun,g⟩:=mupdV_ok (P:=P) hr hs (opd_ok hk he) (opd_ok hx he) (opd_ok hm he) hu hkk
   refine ⟨.skip,Go.undef,ρ,W',?_,.inr ⟨rfl,rfl⟩,g,.undef⟩
   simp only [execOp,hop]
   exact run_u hrun
  ·simp at hc
 ·-- insert
  rename_i t m k x hop
  split at hc
  ·rename_i key el hu
   simp only [oB,oM] at hc
   obtain ⟨kk,hkk,m',hm,k',hk,x',hx,rfl⟩:=hc
   simp only [evalPO,oB,retU,oJ,Prod.mk.injEq] at h
   obtain ⟨st1,hs,rfl,rfl⟩:=h
   obtain ⟨W',hrun,g⟩:=mupdV_ok (P:=P) hr hs (opd_ok hk he) (opd_ok hx he) (opd_ok hm he) hu hkk
   refine ⟨.skip,Go.undef,ρ,W',?_,.inr ⟨rfl,rfl⟩,g,.undef⟩
   simp only [execOp,hop]
   exact run_u hrun
  ·simp at hc
 ·-- extract
  rename_i x i hop
  simp only [oM] at hc
  obtain ⟨p,hp,rfl⟩:=hc
  simp only [evalPO] at h
  refine fin_pure hr (s:=Instr.extract (a.eval x) i) (by simp only [execOp,hop]) h ?_
  intro v0 h0
  exact extV_ok (P:=P) (W:=W) h0 (opd_ok hp he)
 ·-- call
  rename_i c hop
  split at hc
  ·rename_i b hb
   exact builtin_fin hr he hop hb hc h
  ·simp only [oB,oM] at hc
   obtain ⟨f',hf,l,hl,rfl⟩:=hc
   exact absurd rfl (hnc _ _ _)
  ·simp at hc
 ·simp at hc
end
end Go.QAbs
namespace Go.QAbs
def More (s t:St):Prop:=∀ lv ix b,s.get lv ix=some b→t.get lv ix=some b
theorem More.mask (st:St):More st.mask st:=by
 intro lv ix b h
 unfold St.mask St.get at h
 unfold St.get
 simp only [List.length_map,List.getElem?_map] at h
 split at h
 ·rename_i h1;rw [if_pos h1];exact h
 ·rename_i h1
  simp only [oB,oM] at h
  obtain ⟨r,⟨r0,_,rfl⟩,h⟩:=h
  simp [vis] at h
theorem More.blank (st:St):More .blank st:=by
 intro lv ix b h
 unfold St.blank St.get at h
 split at h<;>simp [vis] at h
theorem hideL_get (P:Nat→Bool):∀ (L:List Blk) (i k:Nat),(hideL P k L)[i]?=(L[i]?).map fun b=>if P (k+i)=true then .hole 0 else b
 | [],i,k=>by simp [hideL]
 | b::L,0,k=>by simp [hideL]
 | b::L,i+1,k=>by
  simp only [hideL,List.getElem?_cons_succ,hideL_get P L i (k+1)]
  rw [show k+1+i=k+(i+1) by omega]
theorem hideA_get (P:Nat→Nat→Bool):∀ (A:List (Bool × List Blk)) (i k:Nat),(hideA P k A)[i]?=(A[i]?).map fun r=>(r.1,hideL (P (k+i)) 0 r.2)
 | [],i,k=>by simp [hideA]
 | b::L,0,k=>by simp [hideA]
 | b::L,i+1,k=>by
  simp only [hideA,List.getElem?_cons_succ,hideA_get P L i (k+1)]
  rw [show k+1+i=k+(i+1) by omega]
theorem hideA_length (P:Nat→Nat→Bool):∀ (A:List (Bool × List Blk)) (k:Nat),(hideA P k A).length=A.length
 | [],k=>rfl
 | b::L,k=>by simp only [hideA,List.length_cons,hideA_length P L (k+1)]
theorem vis_hide (c:Bool) (o:Option Blk):vis (o.map fun b=>if c=true then .hole 0 else b)=if c=true then none else vis o:=by
 cases o with
 | none=>cases c<;>rfl
 | some b=>cases c<;>simp [vis]
theorem hide_get (P:Nat→Nat→Bool) (st:St) (lv ix:Nat):(st.hide P).get lv ix=if P lv ix=true then none else st.get lv ix:=by
 unfold St.hide St.get
 simp only [hideA_length]
 by_cases h:lv=st.A.length
 ·subst h
  simp only [if_true,hideL_get,Nat.zero_add]
  rw [← vis_hide]
 ·simp only [if_neg h,hideA_get,Nat.zero_add]
  cases hA:st.A[lv]? with
  | none=>simp
  | some r=>simp only [Option.map_some,oS,hideL_get,Nat.zero_add];rw [← vis_hide]
theorem More.hide (P:Nat→Nat→Bool) (st:St):More (st.hide P) st:=by
 intro lv ix b h
 rw [hide_get] at h
 split at h
 ·simp at h
 ·exact h
section
variable {s t:St} {e:Env}
theorem More.bind {α:Type} {lv ix:Nat} {f:Option Blk→Option α} (m:More s t) (h0:f none=none) {v:α} (h:f (s.get lv ix)=some v):f (t.get lv ix)=some v:=by
 cases hb:s.get lv ix with
 | none=>rw [hb,h0] at h;simp at h
 | some b=>rw [m _ _ _ hb,← hb];exact h
theorem More.wIs {lv ix w ver:Nat} (m:More s t) (h:wIs w ver (s.get lv ix)=true):wIs w ver (t.get lv ix)=true:=by
 cases hb:s.get lv ix with
 | none=>rw [hb] at h;simp [QAbs.wIs] at h
 | some b=>rw [m _ _ _ hb,← hb];exact h
theorem More.elems {x:AV} {l:List AV} (m:More s t) (h:elems s x=some l):elems t x=some l:=by
 unfold QAbs.elems at *
 split at h<;>first|exact h|exact m.bind (f:=refB _ _ _) rfl h
theorem More.loadP {g:Bool} {n:Nat} {x v:AV} (m:More s t) (h:loadP s g n x=some v):loadP t g n x=some v:=by
 unfold QAbs.loadP at *
 split at h<;>first|exact h|exact m.bind (f:=loadB _ _ _ _ _) rfl h
theorem More.slcV {w:Nat} {lo hi:Option AV} {x v:AV} (m:More s t) (h:slcV s w lo hi x=some v):slcV t w lo hi x=some v:=by
 unfold QAbs.slcV at *
 split at h
 ·exact h
 ·exact h
 ·simp only [oB] at h ⊢
  obtain ⟨a,ha,b,hb,h⟩:=h
  refine ⟨a,ha,b,hb,?_⟩
  split at h
  ·rename_i hw;rw [if_pos (m.wIs hw)];exact h
  ·simp at h
 ·exact h
theorem More.ixSV {w:Nat} {i x v:AV} (m:More s t) (h:ixSV s w i x=some v):ixSV t w i x=some v:=by
 unfold QAbs.ixSV at *
 split at h
 ·exact h
 ·simp only [oB] at h ⊢
  obtain ⟨a,ha,h⟩:=h
  refine ⟨a,ha,?_⟩
  split at h
  ·rename_i hw;rw [if_pos (m.wIs hw)];exact h
  ·simp at h
 ·exact h
theorem More.lookV {kk:Nat} {z:AV} {ok:Bool} {k x v:AV} (m:More s t) (h:lookV s kk z ok k x=some v):lookV t kk z ok k x=some v:=by
 unfold QAbs.lookV at *
 simp only [oB] at h ⊢
 obtain ⟨es,hes,h⟩:=h
 refine ⟨es,?_,h⟩
 unfold mapOf at *
 split at hes<;>first|exact hes|exact m.bind (f:=mapB) rfl hes
theorem More.lenOf {k:Nat} {x:AV} {v:Nat} (m:More s t) (h:lenOf s k x=some v):lenOf t k x=some v:=by
 unfold QAbs.lenOf at *
 split at h<;>first|exact h|exact m.bind (f:=mapLen) rfl h
theorem More.b2sV {x v:AV} (m:More s t) (h:b2sV s x=some v):b2sV t x=some v:=by
 unfold QAbs.b2sV at *
 split at h
 ·exact h
 ·simp only [oB] at h ⊢
  obtain ⟨es,hes,h⟩:=h
  exact ⟨es,m.elems hes,h⟩
theorem ret1_at {q q':Option AV} {v:AV} {s':St} (h:q.bind (ret1 s)=some (v,s')) (k:∀ v0,q=some v0→q'=some v0):q'.bind (ret1 t)=some (v,t)∧s'=s:=by
 simp only [oB] at h
 obtain ⟨v0,h0,h1⟩:=h
 obtain ⟨rfl,rfl⟩:=ret1_inv h1
 exact ⟨by rw [k _ h0];rfl,rfl⟩
theorem reads_mono {o:PO} (ho:o.reads=true) (m:More s t) {v:AV} {s':St} (h:evalPO e s o=some (v,s')):evalPO e t o=some (v,t)∧s'=s:=by
 cases o<;>simp only [PO.reads,Bool.false_eq_true] at ho<;>simp only [evalPO] at h ⊢
 case mv=>simp at h;simp [h]
 case build =>
  simp only [oB,oJ,Prod.mk.injEq] at h ⊢
  obtain ⟨cs,h0,rfl,rfl⟩:=h
  exact ⟨⟨cs,h0,rfl,trivial⟩,rfl⟩
 case eqs =>
  simp only [oB,oJ,Prod.mk.injEq] at h ⊢
  obtain ⟨cs,h0,rfl,rfl⟩:=h
  exact ⟨⟨cs,h0,rfl,trivial⟩,rfl⟩
 case mkf=>simp at h;simp [h]
 case len =>
  simp only [oB,oJ,Prod.mk.injEq] at h ⊢
  obtain ⟨n,h0,rfl,rfl⟩:=h
  exact ⟨⟨n,m.lenOf h0,rfl,trivial⟩,rfl⟩
 case ld=>exact ret1_at h fun _ q=>m.loadP q
 case slc=>exact ret1_at h fun _ q=>m.slcV q
 case ixS=>exact ret1_at h fun _ q=>m.ixSV q
 case look=>exact ret1_at h fun _ q=>m.lookV q
 case b2s=>exact ret1_at h fun _ q=>m.b2sV q
 all_goals exact ret1_at h fun _ q=>q
end
end Go.QAbs
namespace Go.QAbs
section
variable {e e':Env}
theorem get_eq {x:Opd} (h:∀ t∈x.slots,look e t=look e' t):x.get e=x.get e':=by
 cases x with
 | s t=>exact h t (by simp [Opd.slots])
 | v a=>rfl
theorem oget_eq {x:Option Opd} (h:∀ t∈oslots x,look e t=look e' t):oget e x=oget e' x:=by
 cases x with
 | none=>rfl
 | some x=>simp only [oget];rw [get_eq h]
theorem gets_eq:∀ {l:List Opd},(∀ t∈lslots l,look e t=look e' t)→gets e l=gets e' l
 | [],_=>rfl
 | x::xs,h=>by
  simp only [lslots,List.mem_append] at h
  simp only [gets];rw [get_eq fun t ht=>h t (.inl ht),gets_eq fun t ht=>h t (.inr ht)]
theorem partsV_eq:∀ {l:List (Nat × Nat × Opd)},(∀ t∈pslots l,look e t=look e' t)→partsV e l=partsV e' l
 | [],_=>rfl
 | x::xs,h=>by
  simp only [pslots,List.mem_append] at h
  simp only [partsV];rw [get_eq fun t ht=>h t (.inl ht),partsV_eq fun t ht=>h t (.inr ht)]
theorem partsE_eq:∀ {l:List (Nat × Opd)},(∀ t∈eslots l,look e t=look e' t)→partsE e l=partsE e' l
 | [],_=>rfl
 | x::xs,h=>by
  simp only [eslots,List.mem_append] at h
  simp only [partsE];rw [get_eq fun t ht=>h t (.inl ht),partsE_eq fun t ht=>h t (.inr ht)]
theorem evalPO_eq {st:St} {o:PO} (h:∀ t∈o.slots,look e t=look e' t):evalPO e st o=evalPO e' st o:=by
 cases o<;>simp only [PO.slots,List.mem_append] at h<;>simp only [evalPO]
 case pick=>rw [get_eq fun t ht=>h t (.inl ht),get_eq fun t ht=>h t (.inr (.inl ht)),get_eq fun t ht=>h t (.inr (.inr ht))]
 case build=>rw [partsV_eq h]
 case bslice=>rw [partsE_eq h]
 case mkf=>rw [gets_eq fun t ht=>h t (.inl ht),gets_eq fun t ht=>h t (.inr ht)]
 case slcS=>rw [get_eq fun t ht=>h t (.inl ht),oget_eq fun t ht=>h t (.inr (.inl ht)),oget_eq fun t ht=>h t (.inr (.inr ht))]
 case slc=>rw [get_eq fun t ht=>h t (.inl ht),oget_eq fun t ht=>h t (.inr (.inl ht)),oget_eq fun t ht=>h t (.inr (.inr ht))]
 case mupd=>rw [get_eq fun t ht=>h t (.inl ht),get_eq fun t ht=>h t (.inr (.inl ht)),get_eq fun t ht=>h t (.inr (.inr ht))]
 all_goals first
  | done
  | rw [get_eq h]
  | rw [get_eq fun t ht=>h t (.inl ht),get_eq fun t ht=>h t (.inr ht)]
theorem newOf_eq {o:PO} (h:∀ t∈o.slots,look e t=look e' t):newOf e o=newOf e' o:=by
 cases o<;>simp only [PO.slots,List.mem_append] at h<;>simp only [newOf]
 case box=>rw [get_eq h]
 case mkslice=>rw [get_eq fun t ht=>h t (.inl ht),get_eq fun t ht=>h t (.inr ht)]
theorem evalW_eq {st:St} {o:PO} {k:WK} (h:∀ t∈k.slots++o.slots,look e t=look e' t):evalW e st o k=evalW e' st o k:=by
 simp only [List.mem_append] at h
 have ho:∀ t∈o.slots,look e t=look e' t:=fun t ht=>h t (.inr ht)
 cases k with
 | blind=>simp only [evalW];rw [evalPO_eq ho]
 | imm =>
  simp only [evalW]
  unfold immW
  split
  ·simp only [PO.slots] at ho;rw [partsE_eq ho]
  ·rfl
 | app0 =>
  simp only [evalW]
  unfold app0W
  split
  ·rename_i w bytes s x
   rw [evalPO_eq ho]
   simp only [PO.slots,List.mem_append] at ho
   rw [get_eq fun t ht=>ho t (.inl ht)]
  ·rfl
 | hide as =>
  simp only [evalW]
  rw [gets_eq fun t ht=>h t (.inl ht),evalPO_eq ho]
 | plain b =>
  simp only [evalW]
  unfold plainW
  split
  ·rename_i n a x
   rw [evalPO_eq ho,get_eq fun t ht=>h t (.inl ht)]
   simp only [PO.slots,List.mem_append] at ho
   rw [get_eq fun t ht=>ho t (.inl ht),get_eq fun t ht=>ho t (.inr ht)]
  ·rfl
 | off b =>
  simp only [evalW]
  unfold offW
  split
  ·rename_i n a x
   rw [evalPO_eq ho,get_eq fun t ht=>h t (.inl ht)]
   simp only [PO.slots,List.mem_append] at ho
   rw [get_eq fun t ht=>ho t (.inl ht),get_eq fun t ht=>ho t (.inr ht)]
  ·rfl
 | only b =>
  simp only [evalW]
  rw [get_eq fun t ht=>h t (.inl ht),evalPO_eq ho]
 | here j=>simp only [evalW];rw [newOf_eq ho]
 | grow b =>
  simp only [evalW]
  unfold growW
  split
  ·rename_i w bytes sl x
   rw [evalPO_eq ho,get_eq fun t ht=>h t (.inl ht)]
   simp only [PO.slots,List.mem_append] at ho
   rw [get_eq fun t ht=>ho t (.inl ht),get_eq fun t ht=>ho t (.inr ht)]
  ·rfl
theorem all_slots {o:PO} {t:Nat} (h:t∈o.slots):t∈o.all:=by
 cases o<;>first|exact h|simp [PO.slots] at h
theorem evalPI_eq {O:Orc} {st:St} {o:PO} (h:∀ t∈o.all,look e t=look e' t):evalPI O e st o=evalPI O e' st o:=by
 cases o with
 | call m f l =>
  simp only [PO.all,PO.slots,List.mem_append] at h
  simp only [evalPI];rw [get_eq fun t ht=>h t (.inl ht),gets_eq fun t ht=>h t (.inr ht)]
 | w k o=>exact evalW_eq h
 | _=>exact evalPO_eq fun t ht=>h t (all_slots ht)
theorem evalI_eq {O:Orc} {st:St} {p:PI} (h:∀ t∈p.op.all,look e t=look e' t):evalI O e st p=evalI O e' st p:=by
 unfold evalI
 rw [evalPO_eq (fun t ht=>h t (all_slots ht)),evalPI_eq h]
end
theorem wantedV_eq {e e':Env} {g:Option (Nat × Bool)} (h:∀ t∈gslots g,look e t=look e' t):wantedV e g=wantedV e' g:=by
 cases g with
 | none=>rfl
 | some g=>obtain ⟨t,w⟩:=g;simp only [wantedV];rw [h t (by simp [gslots])]
def stepT (O:Orc) (p:PI) (e:Env) (st:St):Bool→Option (AV × St)
 | true=>evalI O e st p
 | false=>some (.undef,st)
def valI (O:Orc) (p:PI) (e:Env) (st:St):Option (AV × St):=(wantedV e p.guard).bind (stepT O p e st)
theorem runIs_val (O:Orc) (p:PI) (ps:List PI) (e:Env) (st:St):runIs O (p::ps) e st=(valI O p e st).bind fun r=>runIs O ps (setD e p.dst r.1) r.2:=by
 simp only [runIs,valI]
 cases wantedV e p.guard with
 | none=>rfl
 | some b =>
  cases b with
  | true=>simp only [oS,runW,stepT];rfl
  | false=>simp [runW,stepT]
theorem valI_eq {O:Orc} {p:PI} {e e':Env} {st:St} (h:∀ t∈p.slots,look e t=look e' t):valI O p e st=valI O p e' st:=by
 simp only [PI.slots,List.mem_append] at h
 unfold valI
 rw [wantedV_eq fun t ht=>h t (.inl ht)]
 congr 1
 funext b
 cases b with
 | true=>exact evalI_eq fun t ht=>h t (.inr ht)
 | false=>rfl
def EqE (e e':Env):Prop:=∀ t,look e t=look e' t
theorem EqE.set {e e':Env} (h:EqE e e') (d:Option Nat) (v:AV):EqE (setD e d v) (setD e' d v):=by
 intro t
 cases d with
 | none=>exact h t
 | some d=>simp only [setD,look];split;rfl;exact h t
theorem runIs_eqE {O:Orc}:∀ {ps:List PI} {e e':Env} {st:St} {r:Env × St},EqE e e'→runIs O ps e st=some r→∃ r',runIs O ps e' st=some r'∧EqE r.1 r'.1∧r'.2=r.2
 | [],e,e',st,r,h,hr=>by simp only [runIs,oJ] at hr;subst hr;exact ⟨_,rfl,h,rfl⟩
 | p::ps,e,e',st,r,h,hr=>by
  rw [runIs_val,oB] at hr
  obtain ⟨q,hq,hr⟩:=hr
  obtain ⟨r',h1,h2,h3⟩:=runIs_eqE (h.set p.dst q.1) hr
  exact ⟨r',by rw [runIs_val,← valI_eq fun t _=>h t,hq];exact h1,h2,h3⟩
theorem setD_look {e:Env} {d:Option Nat} {v:AV} {l:List Nat} (h:notIn d l=true):∀ t∈l,look (setD e d v) t=look e t:=by
 intro t ht
 cases d with
 | none=>rfl
 | some d =>
  simp only [setD,look]
  rw [if_neg]
  rintro rfl
  simp [notIn,ht] at h
theorem setD_comm {e:Env} {d d':Option Nat} {v v':AV} (h:dstApart d d'=true):EqE (setD (setD e d v) d' v') (setD (setD e d' v') d v):=by
 intro t
 cases d with
 | none=>rfl
 | some d =>
  cases d' with
  | none=>rfl
  | some d' =>
   simp only [dstApart,bne_iff_ne,ne_eq] at h
   simp only [setD,look]
   by_cases h1:d'=t
   ·rw [if_pos h1,if_neg (by omega),if_pos h1]
   ·rw [if_neg h1]
    split<;>simp
theorem pure_at {o:PO} (ho:o.pure=true) {e:Env} {s t s':St} {v:AV} (h:evalPO e s o=some (v,s')):evalPO e t o=some (v,t)∧s'=s:=by
 cases o<;>simp only [PO.pure,Bool.false_eq_true] at ho<;>simp only [evalPO] at h ⊢
 case mv=>simp at h;simp [h]
 case build =>
  simp only [oB,oJ,Prod.mk.injEq] at h ⊢
  obtain ⟨cs,h0,rfl,rfl⟩:=h
  exact ⟨⟨cs,h0,rfl,trivial⟩,rfl⟩
 case eqs =>
  simp only [oB,oJ,Prod.mk.injEq] at h ⊢
  obtain ⟨cs,h0,rfl,rfl⟩:=h
  exact ⟨⟨cs,h0,rfl,trivial⟩,rfl⟩
 case mkf=>simp at h;simp [h]
 case len k x =>
  simp only [oB,oJ,Prod.mk.injEq] at h ⊢
  obtain ⟨n,h0,rfl,rfl⟩:=h
  refine ⟨⟨n,?_,rfl,trivial⟩,rfl⟩
  unfold lenOf at h0 ⊢
  split at h0<;>simp_all
 all_goals exact ret1_at h fun _ q=>q
theorem vis_get {L:List Blk} {i:Nat} {c:Blk} (h:vis L[i]?=some c):L[i]?=some c:=by
 unfold vis at h
 split at h
 ·simp at h
 ·exact h
theorem vis_append {L:List Blk} {i:Nat} {b c:Blk} (h:vis L[i]?=some c):vis (L++[b])[i]?=some c:=by
 rw [List.getElem?_append_left (lt_of_get (vis_get h))];exact h
theorem new_more {s s':St} {b:Blk} {i:Nat} (h:s.new b=some (i,s')):More s s'∧s'.A=s.A∧s'.ro=s.ro∧∃ c,s'.L=s.L++[c]:=by
 unfold St.new at h
 split at h
 ·simp at h
 ·simp only [oJ,Prod.mk.injEq] at h
  obtain ⟨rfl,rfl⟩:=h
  refine ⟨?_,rfl,rfl,b,rfl⟩
  intro lv ix c hc
  unfold St.get at hc ⊢
  simp only
  split at hc
  ·rename_i h1
   rw [if_pos h1];exact vis_append hc
  ·rename_i h1;rw [if_neg h1];exact hc
structure Adds (s s':St):Prop where
 more:More s s'
 mask:More s.mask s'.mask
theorem Adds.of_new {s s':St} {b:Blk} {i:Nat} (h:s.new b=some (i,s')):Adds s s':=by
 obtain ⟨h1,h2,h3,c,h4⟩:=new_more h
 refine ⟨h1,?_⟩
 intro lv ix d hd
 unfold St.get St.mask at hd ⊢
 simp only [h2,h4,List.length_map,List.getElem?_map] at hd ⊢
 split at hd
 ·rename_i h1
  rw [if_pos h1];exact vis_append hd
 ·rename_i h1;rw [if_neg h1];exact hd
theorem Adds.trans {s t u:St} (h:Adds s t) (k:Adds t u):Adds s u:=⟨fun _ _ _ q=>k.more _ _ _ (h.more _ _ _ q),fun _ _ _ q=>k.mask _ _ _ (h.mask _ _ _ q)⟩
theorem adds_ok {o:PO} (ho:o.adds=true) {e:Env} {s s':St} {v:AV} (h:evalPO e s o=some (v,s')):Adds s s':=by
 cases o<;>simp only [PO.adds,Bool.false_eq_true] at ho<;>simp only [evalPO] at h
 case onil =>
  simp only [oB,newRefK,oJ,Prod.mk.injEq] at h
  obtain ⟨⟨i,s1⟩,hn,_,rfl⟩:=h
  exact .of_new hn
 case box =>
  simp only [oB,newPtrK,oJ,Prod.mk.injEq] at h
  obtain ⟨w,_,⟨i,s1⟩,hn,_,rfl⟩:=h
  exact .of_new hn
 case boxnil =>
  simp only [oB,boxNilK,newPtrK,oJ,Prod.mk.injEq] at h
  obtain ⟨⟨i,s1⟩,hn,⟨j,s2⟩,hn2,_,rfl⟩:=h
  exact (Adds.of_new hn).trans (.of_new hn2)
 case bslice own w z ps =>
  simp only [bslK,ho,if_true,oB,newRefK,oJ,Prod.mk.injEq] at h
  obtain ⟨es,_,⟨i,s1⟩,hn,_,rfl⟩:=h
  exact .of_new hn
 case mkmap =>
  simp only [oB,newMapK,oJ,Prod.mk.injEq] at h
  obtain ⟨⟨i,s1⟩,hn,_,rfl⟩:=h
  exact .of_new hn
 case mkslice =>
  unfold mkslV at h
  split at h
  ·split at h
   ·simp only [oB,newRefK,oJ,Prod.mk.injEq] at h
    obtain ⟨⟨i,s1⟩,hn,_,rfl⟩:=h
    exact .of_new hn
   ·simp at h
  ·simp at h
end Go.QAbs
namespace Go.QAbs
theorem mapSt_id {f:St→AV→Option (AV × St)} {st:St}:∀ {es:List AV},(∀ v,v∈es→f st v=some (v,st))→mapSt f st es=some (es,st)
 | [],_=>rfl
 | v::vs,h=>by
  have ih:mapSt f st vs=some (vs,st):=mapSt_id (fun u hu=>h u (List.mem_cons_of_mem _ hu))
  simp only [mapSt,h v (List.mem_cons_self ..),oS,ih,consK]
theorem seal_imm:∀ {n b:Nat} {st:St} {v:AV},imm n v=true→sealV n b st v=some (v,st)
 | 0,_,_,_,h=>by simp [imm] at h
 | n+1,b,st,v,h=>by
  cases v<;>first
   | (simp only [imm,Bool.false_eq_true] at h;done)
   | (simp only [imm, List.all_eq_true] at h
      simp only [sealV,mapSt_id (fun u hu=>seal_imm (h u hu)),oS,tupK];done)
   | (rename_i cs
      have h':∀ u,u∈cs→keepN (sealV n b) st u=some (u,st):=by
       intro u hu
       have h2:=List.all_eq_true.1 h u hu
       unfold keepN
       split
       ·rfl
       ·rename_i hn
        rw [Bool.or_eq_true] at h2
        exact seal_imm (h2.resolve_left hn)
      simp only [sealV,mapSt_id h',oS,aggK];done)
   | (simp only [sealV];done)
theorem seal_held:∀ {n b:Nat} {st:St} {v:AV},heldV n b v=true→sealV n b st v=some (v,st)
 | 0,_,_,_,h=>by simp [heldV] at h
 | n+1,b,st,v,h=>by
  cases v with
  | nils=>simp [heldV] at h
  | ptr lv ix ver i o=>simp only [heldV,decide_eq_true_eq] at h;simp only [sealV,if_pos h]
  | map lv ix=>simp only [heldV,decide_eq_true_eq] at h;simp only [sealV,if_pos h]
  | ref lv ix ver s m=>simp only [heldV,decide_eq_true_eq] at h;simp only [sealV,if_pos h]
  | agg cs =>
   have h':∀ u,u∈cs→keepN (sealV n b) st u=some (u,st):=by
    intro u hu
    have h2:=List.all_eq_true.1 h u hu
    unfold keepN
    split
    ·rfl
    ·rename_i hn
     rw [Bool.or_eq_true] at h2
     exact seal_held (h2.resolve_left hn)
   simp only [sealV,mapSt_id h',oS,aggK]
  | tup cs =>
   simp only [heldV,List.all_eq_true] at h
   simp only [sealV,mapSt_id (fun u hu=>seal_held (h u hu)),oS,tupK]
  | func fn f c =>
   simp only [heldV,Bool.and_eq_true,List.all_eq_true] at h
   simp only [sealV,if_pos h.1,mapSt_id (fun u hu=>seal_held (h.2.1 u hu)),mapSt_id (fun u hu=>seal_held (h.2.2 u hu)),oS]
  | iface t v =>
   simp only [heldV] at h
   simp only [sealV,seal_held h,oS,ifaceK]
  | _=>simp only [sealV]
def holeTag:Blk→Option Nat
 | .hole j=>some j
 | _=>none
def tags (L:List Blk):List (Option Nat):=L.map holeTag
def tagsA (A:List (Bool × List Blk)):List (Bool × List (Option Nat)):=A.map fun r=>(r.1,tags r.2)
def HoleIn (A:List (Bool × List Blk)) (M i:Nat):Prop:=∃ r j,A[M]?=some r∧r.2[i]?=some (.hole j)
theorem HoleIn.of_tags {A A':List (Bool × List Blk)} {M i:Nat} (h:HoleIn A M i) (ht:tagsA A'=tagsA A):HoleIn A' M i:=by
 obtain ⟨r,j,h1,h2⟩:=h
 have e1:(tagsA A)[M]?=some (r.1,tags r.2):=by unfold tagsA;rw [List.getElem?_map,h1];rfl
 rw [← ht] at e1
 unfold tagsA at e1
 rw [List.getElem?_map,oM] at e1
 obtain ⟨r',h3,h4⟩:=e1
 have e2:(tags r.2)[i]?=some (some j):=by unfold tags;rw [List.getElem?_map,h2];rfl
 simp only [Prod.mk.injEq] at h4
 rw [← h4.2] at e2
 unfold tags at e2
 rw [List.getElem?_map,oM] at e2
 obtain ⟨b,h5,h6⟩:=e2
 cases b<;>simp [holeTag] at h6
 subst h6
 exact ⟨r',_,h3,h5⟩
def fillA (M i:Nat) (B:Blk) (A:List (Bool × List Blk)):List (Bool × List Blk):=A.modify M fun r=>(r.1,r.2.set i B)
def St.fillA (M i:Nat) (B:Blk) (st:St):St:={ st with A:=QAbs.fillA M i B st.A }
theorem fillA_length (M i:Nat) (B:Blk) (A:List (Bool × List Blk)):(fillA M i B A).length=A.length:=by simp [fillA]
theorem fillA_get (M i:Nat) (B:Blk) (A:List (Bool × List Blk)) (lv:Nat):(fillA M i B A)[lv]?=(A[lv]?).map fun r=>if M=lv then (r.1,r.2.set i B) else r:=by
 unfold fillA
 rw [List.getElem?_modify]
 cases A[lv]?<;>simp
theorem fill_more {st:St} {M i:Nat} {B:Blk} (h:HoleIn st.A M i):More st (st.fillA M i B):=by
 obtain ⟨r,j,h1,h2⟩:=h
 intro lv ix b hb
 unfold St.get at hb ⊢
 simp only [St.fillA,fillA_length,fillA_get]
 split at hb
 ·rename_i hl;rw [if_pos hl];exact hb
 ·rename_i hl
  rw [if_neg hl]
  simp only [oB] at hb
  obtain ⟨r',h3,h4⟩:=hb
  rw [h3,Option.map_some,oS]
  by_cases hM:M=lv
  ·subst hM
   rw [if_pos rfl]
   rw [h1] at h3
   simp only [oJ] at h3;subst h3
   have hne:i≠ix:=by
    intro q;subst q
    rw [h2] at h4;simp [vis] at h4
   simp only [List.getElem?_set_ne hne]
   exact h4
  ·rw [if_neg hM];exact h4
def LO {α:Type} (F:St→Option (α × St)):Prop:=∀ (A A':List (Bool × List Blk)) (ro:Bool) (L:List Blk) (r:α × St),A'.length=A.length→F ⟨A,ro,L⟩=some r→r.2.A=A∧F ⟨A',ro,L⟩=some (r.1,⟨A',r.2.ro,r.2.L⟩)
def FrP {α:Type} (F:St→Option (α × St)):Prop:=∀ (st:St) (r:α × St),F st=some r→tagsA r.2.A=tagsA st.A∧∀ M i B,HoleIn st.A M i→F (st.fillA M i B)=some (r.1,r.2.fillA M i B)
theorem LO.fr {α:Type} {F:St→Option (α × St)} (h:LO F):FrP F:=by
 rintro ⟨A,ro,L⟩ r hr
 obtain ⟨h1,_⟩:=h A A ro L r rfl hr
 refine ⟨by rw [h1],fun M i B hh=>?_⟩
 obtain ⟨_,h2⟩:=h A (fillA M i B A) ro L r (fillA_length _ _ _ _) hr
 obtain ⟨v,⟨A2,ro2,L2⟩⟩:=r
 simp only at h1;subst h1
 exact h2
theorem FrP.ret {α:Type} (v:α):FrP fun st=>some (v,st):=by
 intro st r h
 simp only [oJ] at h;subst h
 exact ⟨rfl,fun _ _ _ _=>rfl⟩
theorem FrP.nope {α:Type}:FrP (α:=α) fun _=>none:=fun st r h=>by simp at h
theorem FrP.bind {α β:Type} {F:St→Option (α × St)} {G:α→St→Option (β × St)} (h:FrP F) (k:∀ v,FrP (G v)):FrP fun st=>(F st).bind fun r=>G r.1 r.2:=by
 intro st r hr
 simp only [oB] at hr
 obtain ⟨q,hq,hr⟩:=hr
 obtain ⟨h1,h2⟩:=h st q hq
 obtain ⟨k1,k2⟩:=k q.1 q.2 r hr
 refine ⟨k1.trans h1,fun M i B hh=>?_⟩
 simp only [h2 M i B hh,oS]
 exact k2 M i B (hh.of_tags h1)
theorem LO.ret {α:Type} (v:α):LO fun st=>some (v,st):=by
 intro A A' ro L r _ h
 simp only [oJ] at h;subst h
 exact ⟨rfl,rfl⟩
theorem LO.bind {α β:Type} {F:St→Option (α × St)} {G:α→St→Option (β × St)} (h:LO F) (k:∀ v,LO (G v)):LO fun st=>(F st).bind fun r=>G r.1 r.2:=by
 intro A A' ro L r hl hr
 simp only [oB] at hr
 obtain ⟨⟨v,A1,ro1,L1⟩,hq,hr⟩:=hr
 obtain ⟨h1,h2⟩:=h A A' ro L _ hl hq
 simp only at h1;subst h1
 obtain ⟨k1,k2⟩:=k v A1 A' ro1 L1 r hl hr
 refine ⟨k1,?_⟩
 simp only [h2,oS]
 exact k2
theorem LO.cond {α:Type} {c:Prop} [Decidable c] {F G:St→Option (α × St)} (h:LO F) (k:LO G):LO fun st=>if c then F st else G st:=by
 by_cases hc:c
 ·simp only [if_pos hc];exact h
 ·simp only [if_neg hc];exact k
theorem LO.nope {α:Type}:LO (α:=α) fun _=>none:=fun A A' ro L r _ h=>by simp at h
theorem LO.new (b:Blk):LO fun st=>st.new b:=by
 intro A A' ro L r hl h
 simp only [St.new] at h ⊢
 split at h
 ·simp at h
 ·rename_i hro
  simp only [oJ] at h;subst h
  rw [if_neg hro]
  exact ⟨rfl,rfl⟩
theorem LO.opt {α β:Type} {q:Option α} {G:α→St→Option (β × St)} (k:∀ v,LO (G v)):LO fun st=>q.bind fun v=>G v st:=by
 cases q with
 | none=>exact LO.nope
 | some v=>exact k v
theorem LO.mapSt {f:St→AV→Option (AV × St)} (h:∀ v,LO fun st=>f st v):∀ vs,LO fun st=>mapSt f st vs
 | []=>LO.ret []
 | v::vs=>LO.bind (F:=fun st=>f st v) (G:=fun x st=>(QAbs.mapSt f st vs).bind (consK x)) (h v) fun x=>LO.bind (F:=fun st=>QAbs.mapSt f st vs) (G:=fun l st=>some (x::l,st)) (LO.mapSt h vs) fun l=>LO.ret _
theorem LO.keepN {f:St→AV→Option (AV × St)} (h:∀ v,LO fun st=>f st v) (v:AV):LO fun st=>QAbs.keepN f st v:=by
 unfold QAbs.keepN
 split
 ·exact LO.ret _
 ·exact h v
theorem LO.slV:∀ (n b:Nat) (v:AV),LO fun st=>sealV n b st v
 | 0,b,v=>LO.nope
 | n+1,b,v=>by
  cases v with
  | ptr lv ix ver i o =>
   intro A A' ro L r hl h
   simp only [sealV] at h ⊢
   split at h
   ·rename_i hc
    simp only [oJ] at h;subst h
    rw [if_pos hc]
    exact ⟨rfl,rfl⟩
   ·rename_i hc
    rw [if_neg hc]
    split at h
    ·rename_i hd
     rw [if_pos (by rw [hl];exact hd)]
     exact (LO.opt (q:=ptrB ver i L[ix]?) (G:=fun e st=>(sealV n 0 st e).bind (lptrK o)) fun e=>LO.bind (G:=fun l st=>some (AV.lptr l o,st)) (LO.slV n 0 e) fun l=>LO.ret _) A A' ro (L.set ix .dead) r hl h
    ·simp at h
  | map lv ix=>exact LO.cond (F:=fun st=>some (AV.map lv ix,st)) (LO.ret _) LO.nope
  | ref lv ix ver s m =>
   intro A A' ro L r hl h
   simp only [sealV] at h ⊢
   split at h
   ·rename_i hc
    simp only [oJ] at h;subst h
    rw [if_pos hc]
    exact ⟨rfl,rfl⟩
   ·rename_i hc
    rw [if_neg hc]
    split at h
    ·rename_i hd
     rw [if_pos (by rw [hl];exact hd)]
     exact (LO.opt (q:=refB ver s m L[ix]?) (G:=fun es st=>(QAbs.mapSt (sealV n 0) st es).bind litK) fun es=>LO.bind (G:=fun l st=>some (AV.lit l,st)) (LO.mapSt (fun v=>LO.slV n 0 v) es) fun l=>LO.ret _) A A' ro (L.set ix .dead) r hl h
    ·simp at h
  | agg cs=>exact LO.bind (G:=fun l st=>some (AV.agg l,st)) (LO.mapSt (fun v=>LO.keepN (fun v=>LO.slV n b v) v) cs) fun l=>LO.ret _
  | tup cs=>exact LO.bind (G:=fun l st=>some (AV.tup l,st)) (LO.mapSt (fun v=>LO.slV n b v) cs) fun l=>LO.ret _
  | func fn f c =>
   by_cases hy:ylOk b fn=true
   case neg=>intro A A' ro L r hl h;simp [sealV,hy] at h
   have hq:(fun st=>sealV (n+1) b st (.func fn f c))=fun st=>(QAbs.mapSt (sealV n b) st f).bind fun r=>(QAbs.mapSt (sealV n b) r.2 c).bind fun q=>some (AV.func fn r.1 q.1,q.2):=by
    funext st;simp only [sealV,if_pos hy]
   rw [hq]
   exact LO.bind (G:=fun l st=>(QAbs.mapSt (sealV n b) st c).bind fun q=>some (AV.func fn l q.1,q.2)) (LO.mapSt (fun v=>LO.slV n b v) f) fun l=>LO.bind (G:=fun q st=>some (AV.func fn l q,st)) (LO.mapSt (fun v=>LO.slV n b v) c) fun q=>LO.ret _
  | iface t x=>exact LO.bind (G:=fun l st=>some (AV.iface t l,st)) (LO.slV n b x) fun l=>LO.ret _
  | nils=>exact LO.ret (AV.lit [])
  | _=>exact LO.ret (α:=AV) _
theorem FrP.read {α:Type} {q:St→Option α} (h:∀ s t v,More s t→q s=some v→q t=some v):FrP fun st=>(q st).bind fun v=>some (v,st):=by
 intro st r hr
 simp only [oB,oJ] at hr
 obtain ⟨v,hv,rfl⟩:=hr
 refine ⟨rfl,fun M i B hh=>?_⟩
 simp only [h _ _ _ (fill_more hh) hv,oS]
theorem set_tags {L:List Blk} {ix:Nat} {b0 b:Blk} (h:L[ix]?=some b0) (h0:holeTag b0=holeTag b):tags (L.set ix b)=tags L:=by
 apply List.ext_getElem?
 intro i
 simp only [tags,List.getElem?_map,List.getElem?_set]
 split
 ·rename_i hi
  subst hi
  rw [if_pos (lt_of_get h),h]
  simp [h0]
 ·rfl
theorem put_fr {st st':St} {lv ix:Nat} {b0 b:Blk} (hg:st.get lv ix=some b0) (hb:holeTag b=none) (h:st.put lv ix b=some st') :
 tagsA st'.A=tagsA st.A∧∀ M i B,HoleIn st.A M i→(st.fillA M i B).put lv ix b=some (st'.fillA M i B):=by
 unfold St.put at h
 unfold St.get at hg
 split at h
 ·rename_i hl
  split at h
  ·simp at h
  ·rename_i hro
   split at h
   ·rename_i hix
    simp only [oJ] at h;subst h
    refine ⟨rfl,fun M i B hh=>?_⟩
    subst hl
    simp [St.put,St.fillA,fillA_length,hro,hix]
   ·simp at h
 ·rename_i hl
  rw [if_neg hl] at hg
  simp only [oB] at hg
  obtain ⟨r,hA,hv⟩:=hg
  have hv1:=vis_get hv
  have h0:holeTag b0=none:=by
   cases b0<;>first|rfl|(rw [hv1] at hv;simp [vis] at hv)
  obtain ⟨ro,bs⟩:=r
  rw [hA] at h
  cases ro with
  | true=>simp [putOld] at h
  | false =>
   simp only [putOld] at h
   split at h
   ·rename_i hix
    simp only [oJ] at h;subst h
    have hlt:=lt_of_get hA
    refine ⟨?_,fun M i B hh=>?_⟩
    ·apply List.ext_getElem?
     intro k
     simp only [tagsA,List.getElem?_map,List.getElem?_set]
     split
     ·rename_i hk
      subst hk
      first|rw [if_pos hlt,hA]|rw [hA]
      simp only [Option.map_some]
      rw [set_tags hv1 (by rw [h0,hb])]
     ·rfl
    ·obtain ⟨r,j,h1,h2⟩:=hh
     simp only [St.put,St.fillA,fillA_length]
     rw [if_neg hl,fillA_get,hA]
     simp only [Option.map_some]
     by_cases hM:M=lv
     ·subst hM
      rw [if_pos rfl]
      rw [hA] at h1
      simp only [oJ] at h1;subst h1
      have hne:i≠ix:=by
       intro q;subst q
       rw [h2] at hv1
       simp only [oJ] at hv1
       rw [← hv1] at h0;simp [holeTag] at h0
      simp only [putOld,List.length_set,if_pos hix,oJ,St.mk.injEq,and_true]
      apply List.ext_getElem?
      intro k
      simp only [List.getElem?_set,fillA_get,fillA_length]
      by_cases hk:M=k
      ·subst hk
       simp only [if_true,if_pos hlt,Option.map_some]
       rw [List.set_comm _ _ hne]
      ·simp only [if_neg hk]
     ·rw [if_neg hM]
      simp only [putOld,if_pos hix,oJ,St.mk.injEq,and_true]
      apply List.ext_getElem?
      intro k
      simp only [List.getElem?_set,fillA_get,fillA_length]
      by_cases hk:lv=k
      ·subst hk
       simp only [if_true,if_pos hlt,Option.map_some,if_neg hM]
      ·simp only [if_neg hk]
   ·simp at h
theorem FrP.upd {α:Type} {lv ix:Nat} {q:Option Blk→Option (Blk × α)} (h0:q none=none) (hq:∀ b r,q b=some r→holeTag r.1=none):FrP fun st=>(q (st.get lv ix)).bind fun r=>(st.put lv ix r.1).bind fun st'=>some (r.2,st'):=by
 intro st r hr
 simp only [oB,oJ] at hr
 obtain ⟨⟨b,a⟩,h1,st',h2,rfl⟩:=hr
 cases hg:st.get lv ix with
 | none=>rw [hg,h0] at h1;simp at h1
 | some b0 =>
  obtain ⟨k1,k2⟩:=put_fr hg (hq _ _ h1) h2
  refine ⟨k1,fun M i B hh=>?_⟩
  have:=fill_more (B:=B) hh lv ix b0 hg
  simp only [this,← hg,h1,oS,k2 M i B hh]
theorem FrP.congr {α:Type} {F G:St→Option (α × St)} (h:FrP F) (e:∀ st,G st=F st):FrP G:=by
 have:G=F:=funext e
 rw [this];exact h
end Go.QAbs
namespace Go.QAbs
theorem fr_ret1 {q:Option AV}:FrP fun st=>q.bind (ret1 st):=by
 cases q with
 | none=>exact FrP.nope
 | some v=>exact FrP.ret v
theorem fr_read {q:St→Option AV} (h:∀ s t v,More s t→q s=some v→q t=some v):FrP fun st=>(q st).bind (ret1 st):=FrP.read h
theorem fr_new (b:Blk) (K:Nat→Nat→AV):FrP fun st=>(st.new b).bind fun r=>some (K st.A.length r.1,r.2):=by
 refine LO.fr ?_
 intro A A' ro L r hl h
 have h':(LO.new b)=(LO.new b):=rfl
 simp only [oB,oJ] at h
 obtain ⟨⟨i,A1,ro1,L1⟩,hn,rfl⟩:=h
 obtain ⟨h1,h2⟩:=LO.new b A A' ro L _ hl hn
 simp only at h1;subst h1
 refine ⟨rfl,?_⟩
 simp only [h2,oS,hl]
theorem fr_storeB (n lv ix ver i o:Nat) (x:AV):FrP fun st=>(storeB st n lv ix ver i o x (st.get lv ix)).bind retU:=by
 intro st r hr
 simp only [oB,retU,oJ] at hr
 obtain ⟨st',h,rfl⟩:=hr
 cases hg:st.get lv ix with
 | none=>rw [hg] at h;simp [storeB] at h
 | some b0 =>
  rw [hg] at h
  cases b0 with
  | arr w ver' es =>
   simp only [storeB] at h
   split at h
   ·rename_i hv
    simp only [oB] at h
    obtain ⟨el,h1,e',h2,h3⟩:=h
    obtain ⟨k1,k2⟩:=put_fr hg rfl h3
    refine ⟨k1,fun M j B hh=>?_⟩
    simp only [fill_more hh lv ix _ hg,storeB,if_pos hv,h1,h2,oS,k2 M j B hh,retU]
   ·simp at h
  | _=>simp [storeB] at h
theorem fr_storeP (n:Nat) (x a:AV):FrP fun st=>(storeP st n x a).bind retU:=by
 cases a with
 | ptr lv ix ver i o =>
  exact (FrP.bind (F:=fun st=>sealV deep (lv+1) st x) (G:=fun v st=>(storeB st n lv ix ver i o v (st.get lv ix)).bind retU) (LO.slV _ _ _).fr fun v=>fr_storeB n lv ix ver i o v).congr fun st=>by
   simp only [storeP,Option.bind_assoc];rfl
 | _=>exact FrP.nope.congr fun st=>rfl
theorem fr_appB (w bytes lv ix ver s n:Nat) (ys:List AV):FrP fun st=>appB st w bytes lv ix ver s n ys (st.get lv ix):=by
 intro st r hr
 simp only at hr
 cases hg:st.get lv ix with
 | none=>simp only [hg,appB,reduceCtorEq] at hr
 | some b0 =>
  rw [hg] at hr
  cases b0 with
  | arr w' ver' es =>
   simp only [appB] at hr
   split at hr
   ·rename_i hc
    simp only [oB,oJ] at hr
    obtain ⟨st',h3,rfl⟩:=hr
    obtain ⟨k1,k2⟩:=put_fr hg rfl h3
    refine ⟨k1,fun M j B hh=>?_⟩
    simp only [fill_more hh lv ix _ hg,appB,if_pos hc,k2 M j B hh,oS]
   ·simp at hr
  | _=>simp only [appB,reduceCtorEq] at hr
theorem fr_appendV (w bytes:Nat) (ys:List AV) (s:AV):FrP fun st=>appendV st w bytes ys s:=by
 cases s with
 | nils =>
  by_cases hc:ys.length<4294967296∧bytes≤4096∧sameW w ys=true
  ·exact (fr_new (.arr w 0 ys) fun lv ix=>.ref lv ix 0 0 ys.length).congr fun st=>by simp only [appendV,if_pos hc];rfl
  ·exact FrP.nope.congr fun st=>by simp only [appendV,if_neg hc]
 | lit es =>
  by_cases hc:ys.isEmpty=true
  ·exact (FrP.ret (AV.lit es)).congr fun st=>by simp only [appendV,if_pos hc]
  ·exact FrP.nope.congr fun st=>by simp only [appendV,if_neg hc]
 | ref lv ix ver b n =>
  by_cases hc:sameW w ys=true
  ·exact (FrP.bind (F := fun st => mapSt (sealV deep (lv + 1)) st ys) (G := fun v st => appB st w bytes lv ix ver b n v (st.get lv ix)) (LO.mapSt (fun v => LO.slV _ _ v) ys).fr fun v => fr_appB w bytes lv ix ver b n v).congr fun st => by
    simp only [appendV,if_pos hc];rfl
  ·exact FrP.nope.congr fun st=>by simp only [appendV,if_neg hc]
 | _=>exact FrP.nope.congr fun st=>rfl
theorem fr_cpyB (w lv ix ver s n:Nat) (ys:List AV):FrP fun st=>cpyB st w lv ix ver s n ys (st.get lv ix):=by
 intro st r hr
 simp only at hr
 cases hg:st.get lv ix with
 | none=>simp only [hg,cpyB,reduceCtorEq] at hr
 | some b0 =>
  rw [hg] at hr
  cases b0 with
  | arr w' ver' es =>
   simp only [cpyB] at hr
   split at hr
   ·rename_i hc
    simp only [oB,oJ] at hr
    obtain ⟨st',h3,rfl⟩:=hr
    obtain ⟨k1,k2⟩:=put_fr hg rfl h3
    refine ⟨k1,fun M j B hh=>?_⟩
    simp only [fill_more hh lv ix _ hg,cpyB,if_pos hc,k2 M j B hh,oS]
   ·simp at hr
  | _=>simp only [cpyB,reduceCtorEq] at hr
theorem fr_cpyV (w:Nat) (ys:List AV) (d:AV):FrP fun st=>cpyV st w ys d:=by
 cases d with
 | ref lv ix ver b n =>
  by_cases hc:sameW w ys=true
  ·exact (FrP.bind (F := fun st => mapSt (sealV deep (lv + 1)) st ys) (G := fun v st => cpyB st w lv ix ver b n v (st.get lv ix)) (LO.mapSt (fun v => LO.slV _ _ v) ys).fr fun v => fr_cpyB w lv ix ver b n v).congr fun st => by
    simp only [cpyV,if_pos hc]
  ·exact FrP.nope.congr fun st=>by simp only [cpyV,if_neg hc]
 | _=>exact FrP.nope.congr fun st=>rfl
theorem fr_mupd (kk:Nat) (k v m:AV):FrP fun st=>(mupdV st kk k v m).bind retU:=by
 cases m with
 | map lv ix =>
  by_cases hc:keyIs kk k=true
  ·refine (FrP.bind (F := fun st => sealV deep (lv + 1) st v) (G := fun x st => (mupdK lv ix k (x, st)).bind retU) (LO.slV _ _ _).fr fun x => ?_).congr fun st => by
    simp only [mupdV,if_pos hc,Option.bind_assoc]
   intro st r hr
   simp only [oB,retU,oJ,mupdK] at hr
   obtain ⟨st',⟨es,h1,es',h2,h3⟩,rfl⟩:=hr
   cases hg:st.get lv ix with
   | none=>rw [hg] at h1;simp [mapB] at h1
   | some b0 =>
    obtain ⟨k1,k2⟩:=put_fr hg rfl h3
    refine ⟨k1,fun M j B hh=>?_⟩
    simp only [mupdK,fill_more hh lv ix _ hg]
    rw [hg] at h1
    simp only [h1,h2,oS,k2 M j B hh,retU]
  ·exact FrP.nope.congr fun st=>by simp only [mupdV,if_neg hc];rfl
 | _=>exact FrP.nope.congr fun st=>rfl
theorem fr_mdel (kk:Nat) (k m:AV):FrP fun st=>(mdelV st kk k m).bind retT:=by
 cases m with
 | map lv ix =>
  by_cases hc:keyIs kk k=true
  ·intro st r hr
   simp only [mdelV,if_pos hc,oB,retT,oJ] at hr
   obtain ⟨st',⟨es,h1,es',h2,h3⟩,rfl⟩:=hr
   cases hg:st.get lv ix with
   | none=>rw [hg] at h1;simp [mapB] at h1
   | some b0 =>
    obtain ⟨k1,k2⟩:=put_fr hg rfl h3
    refine ⟨k1,fun M j B hh=>?_⟩
    simp only [mdelV,if_pos hc,fill_more hh lv ix _ hg]
    rw [hg] at h1
    simp only [h1,h2,oS,k2 M j B hh,retT]
  ·exact FrP.nope.congr fun st=>by simp only [mdelV,if_neg hc];rfl
 | _=>exact FrP.nope.congr fun st=>rfl
theorem fr_op (e:Env) (o:PO):FrP fun st=>evalPO e st o:=by
 cases o<;>simp only [evalPO]
 case mv=>exact FrP.ret _
 case onil w=>exact fr_new _ fun lv ix=>.ref lv ix 0 0 0
 case box x =>
  cases (x.get e).wide with
  | none=>exact FrP.nope
  | some w=>exact fr_new (.arr w 0 [x.get e]) fun lv ix=>.ptr lv ix 0 0 0
 case boxnil w =>
  refine LO.fr ?_
  intro A A' ro L r hl h
  simp only [oB,boxNilK] at h
  obtain ⟨⟨i,A1,ro1,L1⟩,hn,⟨i2,A2,ro2,L2⟩,hn2,h⟩:=h
  simp only [newPtrK,oJ] at h
  subst h
  obtain ⟨h1,h2⟩:=LO.new _ A A' ro L _ hl hn
  simp only at h1;subst h1
  obtain ⟨k1,k2⟩:=LO.new _ A1 A' ro1 L1 _ hl hn2
  simp only at k1;subst k1
  refine ⟨rfl,?_⟩
  simp only [h2,oS,boxNilK,hl,k2,newPtrK]
 case build z ps =>
  cases fillV z (partsV e ps) with
  | none=>exact FrP.nope
  | some cs=>exact FrP.ret _
 case bslice own w z ps =>
  cases fillE w z (partsE e ps) with
  | none=>exact FrP.nope
  | some es =>
   cases own with
   | true=>exact fr_new (.arr w 0 es) fun lv ix=>.ref lv ix 0 0 es.length
   | false =>
    by_cases hc:es.isEmpty=true
    ·exact (FrP.ret AV.nils).congr fun st=>by simp only [oS,bslK,Bool.false_eq_true,if_false,if_pos hc]
    ·exact (FrP.bind (G := fun l st => some (AV.lit l, st)) (LO.mapSt (fun v => LO.slV _ 0 v) es).fr fun l => FrP.ret _).congr fun st => by
      simp only [oS,bslK,Bool.false_eq_true,if_false,if_neg hc];rfl
 case ld g n a=>exact fr_read fun s t v m h=>m.loadP h
 case st n a x=>exact fr_storeP n _ _
 case eqs neg kind ks x y =>
  cases eqV ks kind (x.get e) (y.get e) with
  | none=>exact FrP.nope
  | some b=>exact FrP.ret _
 case b2s x=>exact fr_read fun s t v m h=>m.b2sV h
 case mkf=>exact FrP.ret _
 case mkmap=>exact fr_new _ fun lv ix=>.map lv ix
 case mkslice w bytes z l c =>
  refine FrP.congr (F:=fun st=>(mkslB w bytes z (l.get e) (c.get e)).bind fun r=>(st.new r.1).bind fun q=>some (AV.ref st.A.length q.1 0 0 r.2,q.2)) ?_ ?_
  ·cases mkslB w bytes z (l.get e) (c.get e) with
   | none=>exact FrP.nope
   | some r=>exact fr_new r.1 fun lv ix=>.ref lv ix 0 0 r.2
  ·intro st
   unfold mkslV mkslB
   split
   ·split<;>rfl
   ·rfl
 case slc w x lo hi=>exact fr_read fun s t v m h=>m.slcV h
 case ixS w x i=>exact fr_read fun s t v m h=>m.ixSV h
 case look kk z ok x i=>exact fr_read fun s t v m h=>m.lookV h
 case mupd kk x k v=>exact fr_mupd kk _ _ _
 case mdel kk x k=>exact fr_mdel kk _ _
 case len k x=>exact FrP.read (q:=fun st=>(lenOf st k (x.get e)).map fun (n:Nat)=>AV.int .i64 (n:Int)) (fun s t v m h=>by
  simp only [oM] at h ⊢
  obtain ⟨n,hn,rfl⟩:=h
  exact ⟨n,m.lenOf hn,rfl⟩) |>.congr fun st=>by cases lenOf st k (x.get e)<;>rfl
 case app w bytes s x =>
  intro st r hr
  simp only [oB] at hr
  obtain ⟨ys,h1,h2⟩:=hr
  obtain ⟨k1,k2⟩:=fr_appendV w bytes ys (s.get e) st r h2
  refine ⟨k1,fun M i B hh=>?_⟩
  simp only [(fill_more hh).elems h1,oS,k2 M i B hh]
 case cpy w d x =>
  intro st r hr
  simp only [oB] at hr
  obtain ⟨ys,h1,h2⟩:=hr
  obtain ⟨k1,k2⟩:=fr_cpyV w ys (d.get e) st r h2
  refine ⟨k1,fun M i B hh=>?_⟩
  simp only [(fill_more hh).elems h1,oS,k2 M i B hh]
 case call=>exact FrP.nope
 case w=>exact FrP.nope
 all_goals exact fr_ret1
theorem More.hide2 {s t:St} (P:Nat→Nat→Bool) (m:More s t):More (s.hide P) (t.hide P):=by
 intro lv ix b h
 rw [hide_get] at h ⊢
 split at h
 ·simp at h
 ·rename_i hp;rw [if_neg hp];exact m _ _ _ h
theorem fr_w (e:Env) (o:PO) (k:WK):FrP fun st=>evalW e st o k:=by
 cases k<;>simp only [evalW]
 case blind =>
  by_cases hc:o.reads=true
  ·cases hq:evalPO e .blank o with
   | none=>exact FrP.nope.congr fun st=>by simp [hc]
   | some r=>exact (FrP.ret r.1).congr fun st=>by simp [hc,pureK]
  ·exact FrP.nope.congr fun st=>by simp [hc]
 case imm =>
  unfold immW
  cases o<;>try exact FrP.nope
  rename_i own w z ps
  cases own with
  | true=>exact FrP.nope.congr fun st=>rfl
  | false =>
   cases hf:fillE w z (partsE e ps) with
   | none=>exact FrP.nope.congr fun st=>by show (fillE w z (partsE e ps)).bind (immK st)=none;rw [hf];rfl
   | some es =>
    by_cases hc:es.all (imm 6)=true
    ·exact (FrP.ret (if es.isEmpty=true then .nils else .lit es)).congr fun st=>by show (fillE w z (partsE e ps)).bind (immK st)=_;rw [hf,oS,immK,if_pos hc]
    ·exact FrP.nope.congr fun st=>by show (fillE w z (partsE e ps)).bind (immK st)=none;rw [hf,oS,immK,if_neg hc]
 case app0 =>
  unfold app0W
  cases o<;>try exact FrP.nope
  rename_i w bytes s x
  by_cases hc:isNils (s.get e)=true
  ·exact (fr_op e (.app w bytes s x)).congr fun st=>by simp only [if_pos hc]
  ·exact FrP.nope.congr fun st=>by simp only [if_neg hc]
 case hide as =>
  by_cases hc:o.reads=true
  ·refine (FrP.read (q:=fun st=>(evalPO e (st.hide (anyPtr (gets e as))) o).map (·.1)) (fun s t v m h=>?_)).congr fun st=>?_
   ·simp only [oM] at h ⊢
    obtain ⟨⟨v0,s0⟩,h0,rfl⟩:=h
    exact ⟨_,(reads_mono hc (m.hide2 _) h0).1,rfl⟩
   ·simp only [if_pos hc]
    cases evalPO e (st.hide (anyPtr (gets e as))) o<;>rfl
  ·exact FrP.nope.congr fun st=>by simp [hc]
 case only b =>
  by_cases hc:o.reads=true
  ·refine (FrP.read (q:=fun st=>(evalPO e (st.hide fun lv ix=>!atPtr lv ix (b.get e)) o).map (·.1)) (fun s t v m h=>?_)).congr fun st=>?_
   ·simp only [oM] at h ⊢
    obtain ⟨⟨v0,s0⟩,h0,rfl⟩:=h
    exact ⟨_,(reads_mono hc (m.hide2 _) h0).1,rfl⟩
   ·simp only [if_pos hc]
    cases evalPO e (st.hide fun lv ix=>!atPtr lv ix (b.get e)) o<;>rfl
  ·exact FrP.nope.congr fun st=>by simp [hc]
 case off b =>
  unfold offW
  cases o<;>try exact FrP.nope
  rename_i n a x
  by_cases hc:offOk (b.get e) (a.get e) (x.get e)=true
  ·exact (fr_op e (.st n a x)).congr fun st=>by simp only [if_pos hc]
  ·exact FrP.nope.congr fun st=>by simp only [if_neg hc]
 case plain b =>
  unfold plainW
  cases o<;>try exact FrP.nope
  rename_i n a x
  by_cases hc:sameBlk (a.get e) (b.get e)=true∧imm 6 (x.get e)=true
  ·exact (fr_op e (.st n a x)).congr fun st=>by simp only [if_pos hc]
  ·exact FrP.nope.congr fun st=>by simp only [if_neg hc]
 case grow b =>
  unfold growW
  cases o<;>try exact FrP.nope
  rename_i w bytes sl x
  intro st r hr
  simp only at hr ⊢
  split at hr
  ·rename_i hc
   obtain ⟨k1,k2⟩:=fr_op e (.app w bytes sl x) st r hr
   refine ⟨k1,fun M i B hh=>?_⟩
   have hr':=hr
   simp only [evalPO,oB] at hr'
   obtain ⟨ys,h1,_⟩:=hr'
   rw [h1] at hc
   rw [if_pos (by rw [(fill_more hh).elems h1];exact hc)]
   exact k2 M i B hh
  ·simp at hr
 case here j =>
  cases newOf e o with
  | none=>exact FrP.nope
  | some b =>
   refine LO.fr ?_
   intro A A' ro L r hl h
   simp only [oS,hereV] at h ⊢
   split at h
   ·rename_i hc
    rw [if_pos hc]
    simp only [oB,fillK,oJ] at h ⊢
    obtain ⟨i,hi,rfl⟩:=h
    exact ⟨rfl,i,hi,by rw [hl]⟩
   ·simp at h
def FrO (O:Orc):Prop:=∀ f args,FrP fun st=>O f args st
theorem fillA_push {st:St} {M i:Nat} {B:Blk} (h:HoleIn st.A M i):(st.fillA M i B).push=st.push.fillA M i B:=by
 obtain ⟨r,j,h1,h2⟩:=h
 have hlt:=lt_of_get h1
 simp only [St.push,St.fillA,St.mk.injEq,and_true]
 apply List.ext_getElem?
 intro k
 rw [fillA_get]
 by_cases hk:k<st.A.length
 ·rw [List.getElem?_append_left (by rw [fillA_length];exact hk),List.getElem?_append_left hk,fillA_get]
 ·rw [List.getElem?_append_right (by rw [fillA_length];omega),List.getElem?_append_right (by omega),fillA_length]
  cases hx:([(st.ro,st.L)]:List (Bool × List Blk))[k-st.A.length]? with
  | none=>rfl
  | some x=>simp only [Option.map_some];rw [if_neg (by omega)]
theorem HoleIn.push {st:St} {M i:Nat} (h:HoleIn st.A M i):HoleIn st.push.A M i:=by
 obtain ⟨r,j,h1,h2⟩:=h
 exact ⟨r,j,by simp only [St.push];rw [List.getElem?_append_left (lt_of_get h1)];exact h1,h2⟩
theorem pop_some:∀ {A A':List (Bool × List Blk)} {r:Bool × List Blk},pop A=some (A',r)→A=A'++[r]
 | [],_,_,h=>by simp [pop] at h
 | [a],A',r,h=>by simp only [pop,oJ,Prod.mk.injEq] at h;obtain ⟨rfl,rfl⟩:=h;rfl
 | a::b::A,A',r,h=>by
  simp only [pop,oM,Prod.mk.injEq] at h
  obtain ⟨⟨A1,r1⟩,h1,rfl,rfl⟩:=h
  rw [pop_some h1];rfl
theorem pop_fill {A A':List (Bool × List Blk)} {r:Bool × List Blk} {M i:Nat} {B:Blk} (h:pop A=some (A',r)) (hM:M<A'.length):pop (fillA M i B A)=some (fillA M i B A',r):=by
 have:=pop_some h;subst this
 have e:fillA M i B (A'++[r])=fillA M i B A'++[r]:=by
  apply List.ext_getElem?
  intro k
  rw [fillA_get]
  by_cases hk:k<A'.length
  ·rw [List.getElem?_append_left hk,List.getElem?_append_left (by rw [fillA_length];exact hk),fillA_get]
  ·rw [List.getElem?_append_right (by omega),List.getElem?_append_right (by rw [fillA_length];omega),fillA_length]
   cases hx:([r]:List (Bool × List Blk))[k-A'.length]? with
   | none=>rfl
   | some x=>simp only [Option.map_some];rw [if_neg (by omega)]
 rw [e,pop_append]
theorem tags_pop {A':List (Bool × List Blk)} {r r':Bool × List Blk} {B':List (Bool × List Blk)} (h:tagsA (A'++[r])=tagsA (B'++[r'])):tagsA A'=tagsA B'∧(r.1=r'.1∧tags r.2=tags r'.2):=by
 unfold tagsA at h ⊢
 rw [List.map_append,List.map_append,List.map_cons,List.map_nil,List.map_cons,List.map_nil] at h
 have:=List.append_inj' h rfl
 exact ⟨this.1,by simpa using this.2⟩
theorem fr_leave {F:St→Option (AV × St)} (h:FrP F):FrP fun st=>(F st.push).bind fun r=>leaveK r:=by
 intro st r hr
 simp only [oB,leaveK,popK,oJ] at hr
 obtain ⟨⟨v,s1⟩,h1,⟨A',rr⟩,h2,rfl⟩:=hr
 obtain ⟨k1,k2⟩:=h _ _ h1
 simp only at k1 h2
 have e:=pop_some h2
 have ht:tagsA A'=tagsA st.A∧(rr.1=st.ro∧tags rr.2=tags st.L):=by
  rw [e] at k1
  exact tags_pop (r':=(st.ro,st.L)) k1
 refine ⟨ht.1,fun M i B hh=>?_⟩
 have hl:A'.length=st.A.length:=by have:=congrArg List.length ht.1;simpa [tagsA] using this
 simp only [fillA_push hh,k2 M i B hh.push,oS,leaveK]
 have hM:M<A'.length:=by obtain ⟨r0,j,q1,q2⟩:=hh;rw [hl];exact lt_of_get q1
 simp only [St.fillA,pop_fill h2 hM,oS,popK]
theorem leave_here {F:St→Option (AV × St)} (h:FrP F) {st:St} {v:AV} {st':St} (hr:(F st.push).bind (fun r=>leaveK r)=some (v,st')) :
 (st'.A.length=st.A.length∧st'.ro=st.ro∧tags st'.L=tags st.L)∧∀ (i j:Nat) (B:Blk),st.L[i]?=some (.hole j)→(F ({ st with L:=st.L.set i B }:St).push).bind (fun r=>leaveK r)=some (v,{ st' with L:=st'.L.set i B }):=by
 simp only [oB,leaveK,popK,oJ] at hr
 obtain ⟨⟨v1,s1⟩,h1,⟨A',rr⟩,h2,h3⟩:=hr
 simp only [Prod.mk.injEq] at h3
 obtain ⟨rfl,rfl⟩:=h3
 obtain ⟨k1,k2⟩:=h _ _ h1
 simp only at k1 h2
 have e:=pop_some h2
 have ht:tagsA A'=tagsA st.A∧(rr.1=st.ro∧tags rr.2=tags st.L):=by
  rw [e] at k1
  exact tags_pop (r':=(st.ro,st.L)) k1
 have hl:A'.length=st.A.length:=by have:=congrArg List.length ht.1;simpa [tagsA] using this
 refine ⟨⟨hl,ht.2.1,ht.2.2⟩,fun i j B hh=>?_⟩
 have hp:({ st with L:=st.L.set i B }:St).push=st.push.fillA st.A.length i B:=by
  simp only [St.push,St.fillA,St.mk.injEq,and_true]
  apply List.ext_getElem?
  intro k
  rw [fillA_get]
  by_cases hk:k<st.A.length
  ·rw [List.getElem?_append_left hk,List.getElem?_append_left hk,List.getElem?_eq_getElem hk,Option.map_some,if_neg (by omega)]
  ·by_cases hk2:k=st.A.length
   ·subst hk2;simp
   ·rw [List.getElem?_eq_none (by simp;omega),List.getElem?_eq_none (by simp;omega)];rfl
 have hin:HoleIn st.push.A st.A.length i:=⟨(st.ro,st.L),j,by simp [St.push],hh⟩
 rw [hp]
 have q:=k2 st.A.length i B hin
 rw [q,oS]
 simp only [leaveK,St.fillA,e]
 have e2:fillA st.A.length i B (A'++[rr])=A'++[(rr.1,rr.2.set i B)]:=by
  apply List.ext_getElem?
  intro k
  rw [fillA_get]
  by_cases hk:k<A'.length
  ·rw [List.getElem?_append_left hk,List.getElem?_append_left hk,List.getElem?_eq_getElem hk,Option.map_some,if_neg (by omega)]
  ·by_cases hk2:k=A'.length
   ·subst hk2;simp [hl]
   ·rw [List.getElem?_eq_none (by simp;omega),List.getElem?_eq_none (by simp;omega)];rfl
 rw [e2,pop_append];rfl
theorem fr_seal {O:Orc} (hO:FrO O) (f:FuncId) (args:List AV):FrP fun st=>(O f args st).bind fun r=>sealV deep r.2.A.length r.2 r.1 :=
 FrP.bind (G:=fun v st=>sealV deep st.A.length st v) (hO f args) fun v=>by
  intro st r hr
  obtain ⟨k1,k2⟩:=(LO.slV deep st.A.length v).fr st r hr
  refine ⟨k1,fun M i B hh=>?_⟩
  have:=k2 M i B hh
  simp only [St.fillA,fillA_length] at this ⊢
  exact this
theorem inner_eq (O:Orc) (f:FuncId) (args:List AV) (st:St):callM O .inner f args st=(((fun st=>(O f args st).bind fun r=>sealV deep r.2.A.length r.2 r.1) st.push).bind fun r=>leaveK r):=by
 simp only [callM,Option.bind_assoc];rfl
theorem inner_here {O:Orc} (hO:FrO O) {f:FuncId} {args:List AV} {st st':St} {v:AV} (h:callM O .inner f args st=some (v,st')) :
 (st'.A.length=st.A.length∧st'.ro=st.ro∧tags st'.L=tags st.L)∧∀ (i j:Nat) (B:Blk),st.L[i]?=some (.hole j)→callM O .inner f args { st with L:=st.L.set i B }=some (v,{ st' with L:=st'.L.set i B }):=by
 rw [inner_eq] at h
 obtain ⟨h1,h2⟩:=leave_here (fr_seal hO f args) h
 exact ⟨h1,fun i j B hh=>by rw [inner_eq];exact h2 i j B hh⟩
theorem fillA_allRo {st:St} {M i:Nat} {B:Blk}:(st.fillA M i B).allRo=st.allRo.fillA M i B:=by
 simp only [St.allRo,St.fillA,St.mk.injEq,and_true]
 apply List.ext_getElem?
 intro k
 rw [fillA_get,List.getElem?_map,List.getElem?_map,fillA_get]
 cases st.A[k]? with
 | none=>rfl
 | some r=>simp only [Option.map_some];split<;>rfl
theorem HoleIn.allRo {st:St} {M i:Nat} (h:HoleIn st.A M i):HoleIn st.allRo.A M i:=by
 obtain ⟨r,j,h1,h2⟩:=h
 exact ⟨(true,r.2),j,by simp [St.allRo,h1],h2⟩
theorem adopt1_fill {s:St} {v:AV} {r:AV × St} (h:adopt1 s v=some r):∃ A' rr,pop s.A=some (A',rr)∧r.2.A=A'∧∀ M i B,M<A'.length→adopt1 (s.fillA M i B) v=some (r.1,r.2.fillA M i B):=by
 cases v with
 | ref lv ix ver b n =>
  simp only [adopt1] at h
  split at h
  ·rename_i hl
   unfold adoptR at h
   split at h
   ·rename_i w ver' es hL
    split at h
    ·rename_i hv
     simp only [oB] at h
     obtain ⟨⟨A',rr⟩,hp,h⟩:=h
     unfold adoptB at h
     split at h
     ·simp at h
     ·rename_i hc
      simp only [oJ] at h;subst h
      refine ⟨A',rr,hp,rfl,fun M i B hM=>?_⟩
      simp only [adopt1,St.fillA,fillA_length]
      rw [if_pos hl,hL]
      simp only [adoptR,if_pos hv,pop_fill hp hM,oS,adoptB]
      rw [if_neg hc,fillA_length]
    ·simp at h
   ·simp at h
  ·simp at h
 | nils =>
  simp only [adopt1,leaveK,oB,popK,oJ] at h
  obtain ⟨⟨A',rr⟩,hp,rfl⟩:=h
  refine ⟨A',rr,hp,rfl,fun M i B hM=>?_⟩
  simp only [adopt1,leaveK,St.fillA,pop_fill hp hM,oS,popK]
 | _=>simp [adopt1] at h
theorem adoptK_fill {s:St} {v:AV} {r:AV × St} (h:adoptK (v,s)=some r):∃ A' rr,pop s.A=some (A',rr)∧r.2.A=A'∧∀ M i B,M<A'.length→adoptK (v,s.fillA M i B)=some (r.1,r.2.fillA M i B):=by
 unfold adoptK at h
 split at h
 ·rename_i v0 vs hv
  simp only at hv
  subst hv
  split at h
  ·rename_i hc
   simp only [oB,tup1,oJ] at h
   obtain ⟨q,hq,rfl⟩:=h
   obtain ⟨A',rr,h1,h2,h3⟩:=adopt1_fill hq
   refine ⟨A',rr,h1,h2,fun M i B hM=>?_⟩
   simp only [adoptK,if_pos hc,h3 M i B hM,oS,tup1]
  ·simp at h
 ·rename_i hn
  obtain ⟨A',rr,h1,h2,h3⟩:=adopt1_fill h
  refine ⟨A',rr,h1,h2,fun M i B hM=>?_⟩
  unfold adoptK
  split
  ·rename_i v0 vs hv
   exact absurd hv (hn v0 vs)
  ·exact h3 M i B hM
theorem fr_move {F:St→Option (AV × St)} (h:FrP F):FrP fun st=>(F st.push).bind adoptK:=by
 intro st r hr
 simp only [oB] at hr
 obtain ⟨⟨v,s1⟩,h1,h2⟩:=hr
 obtain ⟨k1,k2⟩:=h _ _ h1
 obtain ⟨A',rr,e1,e2,e3⟩:=adoptK_fill h2
 simp only at k1
 have e:=pop_some e1
 have ht:tagsA A'=tagsA st.A∧(rr.1=st.ro∧tags rr.2=tags st.L):=by
  rw [e] at k1
  exact tags_pop (r':=(st.ro,st.L)) k1
 refine ⟨by rw [e2];exact ht.1,fun M i B hh=>?_⟩
 have hl:A'.length=st.A.length:=by have:=congrArg List.length ht.1;simpa [tagsA] using this
 have hM:M<A'.length:=by obtain ⟨r0,j,q1,q2⟩:=hh;rw [hl];exact lt_of_get q1
 simp only [fillA_push hh,k2 M i B hh.push,oS]
 exact e3 M i B hM
theorem fr_callM {O:Orc} (hO:FrO O) (m:CM) (f:FuncId) (args:List AV):FrP fun st=>callM O m f args st:=by
 cases m with
 | norm=>exact hO f args
 | own =>
  intro st r hr
  simp only [callM,oB,ownK] at hr
  obtain ⟨⟨v,s1⟩,h1,h2⟩:=hr
  split at h2
  ·rename_i hl
   simp only [oJ] at h2;subst h2
   obtain ⟨k1,k2⟩:=hO f args _ _ h1
   refine ⟨k1,fun M i B hh=>?_⟩
   have q:O f args { st.fillA M i B with ro:=true }=some (v,s1.fillA M i B):=k2 M i B hh
   show (O f args { st.fillA M i B with ro:=true }).bind (ownK (st.fillA M i B))=_
   rw [q,oS,ownK,if_pos]
   ·rfl
   ·simp only [St.fillA,fillA_length];exact hl
  ·simp at h2
 | pure =>
  intro st r hr
  simp only [callM,oB,pureK,oJ] at hr
  obtain ⟨⟨v,s1⟩,h1,rfl⟩:=hr
  obtain ⟨k1,k2⟩:=hO f args _ _ h1
  refine ⟨rfl,fun M i B hh=>?_⟩
  simp only [callM,fillA_allRo,k2 M i B hh.allRo,oS,pureK]
 | inner=>exact (fr_leave (fr_seal hO f args)).congr fun st=>inner_eq O f args st
 | move=>exact fr_move (hO f args)
 | pin =>
  have h1:FrP fun st=>callM O .inner f args st:=(fr_leave (fr_seal hO f args)).congr fun st=>inner_eq O f args st
  intro st r hr
  have hr':(callM O .inner f args st.allRo).bind (pureK st)=some r:=hr
  simp only [oB,pureK,oJ] at hr'
  obtain ⟨⟨v,s1⟩,h2,rfl⟩:=hr'
  obtain ⟨k1,k2⟩:=h1 _ _ h2
  refine ⟨rfl,fun M i B hh=>?_⟩
  have q:=k2 M i B hh.allRo
  simp only [← fillA_allRo] at q
  show (callM O .inner f args (st.fillA M i B).allRo).bind (pureK (st.fillA M i B))=_
  rw [q];rfl
theorem fr_callV {O:Orc} (hO:FrO O) (m:CM) (args:List AV) (v:AV):FrP fun st=>callV O m args st v:=by
 unfold callV
 split
 ·exact fr_callM hO m _ _
 ·exact fr_callM hO m _ _
 ·exact FrP.nope
theorem fr_PI {O:Orc} (hO:FrO O) (e:Env) (o:PO):FrP fun st=>evalPI O e st o:=by
 have h:=fr_op e o
 cases o
 case call m f args=>exact fr_callV hO m _ _
 case w k o=>exact fr_w e o k
 all_goals exact h
theorem fillA_mask {st:St} {M i:Nat} {B:Blk}:(st.fillA M i B).mask=st.mask:=by
 simp only [St.mask,St.fillA,St.mk.injEq,and_true]
 apply List.ext_getElem?
 intro k
 rw [List.getElem?_map,List.getElem?_map,fillA_get]
 cases st.A[k]?<;>rfl
theorem fr_I {O:Orc} (hO:FrO O) (e:Env) (i:PI):FrP fun st=>evalI O e st i:=by
 unfold evalI
 by_cases h:i.own=true
 ·simp only [if_pos h]
  by_cases hr:i.op.reads=true
  ·simp only [if_pos hr]
   intro st r hr'
   simp only [oB,pureK,oJ] at hr'
   obtain ⟨q,hq,rfl⟩:=hr'
   refine ⟨rfl,fun M j B hh=>?_⟩
   simp only [fillA_mask,hq,oS,pureK]
  ·simp only [if_neg hr];exact FrP.nope
 ·simp only [if_neg h];exact fr_PI hO e i.op
theorem fr_Is {O:Orc} (hO:FrO O):∀ (is:List PI) (e:Env),FrP fun st=>runIs O is e st
 | [],e=>FrP.ret e
 | i::is,e=>by
  refine FrP.congr (F:=fun st=>(wantedV e i.guard).bind fun b=>match b with
   | true=>(evalI O e st i).bind fun r=>runIs O is (setD e i.dst r.1) r.2
   | false=>runIs O is (setD e i.dst .undef) st) ?_ ?_
  ·cases wantedV e i.guard with
   | none=>exact FrP.nope
   | some b =>
    cases b with
    | true=>exact FrP.bind (G:=fun v st=>runIs O is (setD e i.dst v) st) (fr_I hO e i) fun v=>fr_Is hO is _
    | false=>exact fr_Is hO is _
  ·intro st
   simp only [runIs]
   cases wantedV e i.guard with
   | none=>rfl
   | some b=>cases b<;>rfl
def FrX (F:Run):Prop:=∀ e,FrP fun st=>(F e st).map fun r=>((r.1,r.2.1),r.2.2)
theorem FrX.to {F:Run} (h:FrX F) {e:Env} {st:St} {r:Ex × Env × St} (hr:F e st=some r):tagsA r.2.2.A=tagsA st.A∧∀ M i B,HoleIn st.A M i→F e (st.fillA M i B)=some (r.1,r.2.1,r.2.2.fillA M i B):=by
 obtain ⟨h1,h2⟩:=h e st ((r.1,r.2.1),r.2.2) (by simp only [hr,Option.map_some])
 refine ⟨h1,fun M i B hh=>?_⟩
 have:=h2 M i B hh
 simp only [oM,Prod.mk.injEq] at this
 obtain ⟨q,hq,⟨q1,q2⟩,q3⟩:=this
 rw [hq]
 obtain ⟨a,b,c⟩:=q
 simp only at q1 q2 q3
 rw [q1,q2,q3]
theorem FrX.of {F:Run} (h:∀ e st r,F e st=some r→tagsA r.2.2.A=tagsA st.A∧∀ M i B,HoleIn st.A M i→F e (st.fillA M i B)=some (r.1,r.2.1,r.2.2.fillA M i B)):FrX F:=by
 intro e st r hr
 simp only [oM] at hr
 obtain ⟨q,hq,rfl⟩:=hr
 obtain ⟨h1,h2⟩:=h e st q hq
 exact ⟨h1,fun M i B hh=>by simp only [h2 M i B hh,Option.map_some]⟩
theorem frx_seqK {F:Run} (h:FrX F) {x:Ex × Env × St} {r:Ex × Env × St} (hr:seqK F x=some r):tagsA r.2.2.A=tagsA x.2.2.A∧∀ M i B,HoleIn x.2.2.A M i→seqK F (x.1,x.2.1,x.2.2.fillA M i B)=some (r.1,r.2.1,r.2.2.fillA M i B):=by
 obtain ⟨x,e,st⟩:=x
 cases x with
 | norm=>exact h.to hr
 | ex id=>simp only [seqK,oJ] at hr;subst hr;exact ⟨rfl,fun _ _ _ _=>rfl⟩
 | ret=>simp only [seqK,oJ] at hr;subst hr;exact ⟨rfl,fun _ _ _ _=>rfl⟩
theorem frx_bind {F:Run} {K:Ex × Env × St→Option (Ex × Env × St)} (h:FrX F) (k:∀ x r,K x=some r→tagsA r.2.2.A=tagsA x.2.2.A∧∀ M i B,HoleIn x.2.2.A M i→K (x.1,x.2.1,x.2.2.fillA M i B)=some (r.1,r.2.1,r.2.2.fillA M i B)) :
 FrX fun e st=>(F e st).bind K:=by
 refine FrX.of fun e st r hr=>?_
 simp only [oB] at hr
 obtain ⟨x,hx,hr⟩:=hr
 obtain ⟨h1,h2⟩:=h.to hx
 obtain ⟨k1,k2⟩:=k x r hr
 exact ⟨k1.trans h1,fun M i B hh=>by simp only [h2 M i B hh,oS];exact k2 M i B (hh.of_tags h1)⟩
theorem frx_iter {F:Run} (h:FrX F):∀ n,FrX (iter F n)
 | 0=>FrX.of fun e st r hr=>by simp [iter] at hr
 | n+1=>frx_bind h fun x r hr=>frx_seqK (frx_iter h n) hr
theorem frx_exec {O:Orc} (hO:FrO O) (n:Nat):∀ pc:PC,FrX (exec O (fun F=>iter F n) pc):=by
 intro pc
 induction pc with
 | skip=>exact FrX.of fun e st r hr=>by simp only [exec,oJ] at hr;subst hr;exact ⟨rfl,fun _ _ _ _=>rfl⟩
 | ret=>exact FrX.of fun e st r hr=>by simp only [exec,oJ] at hr;subst hr;exact ⟨rfl,fun _ _ _ _=>rfl⟩
 | exit id=>exact FrX.of fun e st r hr=>by simp only [exec,oJ] at hr;subst hr;exact ⟨rfl,fun _ _ _ _=>rfl⟩
 | seq a b iha ihb=>exact frx_bind iha fun x r hr=>frx_seqK ihb hr
 | ite c a b iha ihb =>
  refine FrX.of fun e st r hr=>?_
  simp only [exec] at hr ⊢
  unfold iteV at hr ⊢
  split at hr
  ·exact iha.to hr
  ·exact ihb.to hr
  ·simp at hr
 | block id b ih =>
  refine frx_bind ih fun x r hr=>?_
  obtain ⟨x,e,st⟩:=x
  cases x with
  | norm=>simp only [blockK,oJ] at hr;subst hr;exact ⟨rfl,fun _ _ _ _=>rfl⟩
  | ret=>simp only [blockK,oJ] at hr;subst hr;exact ⟨rfl,fun _ _ _ _=>rfl⟩
  | ex id' =>
   simp only [blockK] at hr ⊢
   split at hr<;>simp only [oJ] at hr<;>subst hr
   ·rename_i hi;exact ⟨rfl,fun _ _ _ _=>by rw [if_pos hi]⟩
   ·rename_i hi;exact ⟨rfl,fun _ _ _ _=>by rw [if_neg hi]⟩
 | loop b ih=>exact frx_iter ih n
 | reg keep is =>
  refine FrX.of fun e st r hr=>?_
  simp only [exec,oB,regK,oJ] at hr
  obtain ⟨q,hq,rfl⟩:=hr
  obtain ⟨h1,h2⟩:=fr_Is hO is e st q hq
  exact ⟨h1,fun M i B hh=>by simp only [exec,h2 M i B hh,oS,regK]⟩
 | regH js keep is =>
  refine FrX.of fun e st r hr=>?_
  simp only [exec,oB,regK,oJ,padH] at hr
  obtain ⟨s1,hs,q,hq,rfl⟩:=hr
  split at hs
  ·simp at hs
  ·rename_i hro
   simp only [oJ] at hs;subst hs
   obtain ⟨h1,h2⟩:=fr_Is hO is e _ q hq
   refine ⟨h1,fun M i B hh=>?_⟩
   have:=h2 M i B hh
   have hp:padH js (st.fillA M i B)=some (({ st with L:=st.L++js.map Blk.hole }:St).fillA M i B):=by
    unfold padH
    exact if_neg hro
   simp only [exec,hp,oS]
   simp only at this
   rw [this];rfl
theorem resV_fr {st:St} {e:Env} {rv:RV} {v:AV} {M i:Nat} {B:Blk} (hh:HoleIn st.A M i) (h:resV st e rv=some v):resV (st.fillA M i B) e rv=some v:=by
 cases rv with
 | s t=>exact h
 | c t agg n=>exact (fill_more hh).loadP h
theorem resL_fr {st:St} {e:Env} {M i:Nat} {B:Blk} (hh:HoleIn st.A M i):∀ {rs:List RV} {vs:List AV},resL st e rs=some vs→resL (st.fillA M i B) e rs=some vs
 | [],vs,h=>h
 | r::rs,vs,h=>by
  simp only [resL,oB,oM] at h ⊢
  obtain ⟨v,hv,ws,hw,rfl⟩:=h
  exact ⟨v,resV_fr hh hv,ws,resL_fr hh hw,rfl⟩
theorem fr_result (e:Env) (rs:List RV):∀ st v,result st e rs=some v→∀ M i B,HoleIn st.A M i→result (st.fillA M i B) e rs=some v:=by
 intro st v h M i B hh
 simp only [result,oM] at h ⊢
 obtain ⟨vs,hv,rfl⟩:=h
 exact ⟨vs,resL_fr hh hv,rfl⟩
theorem endK_inv {keep:Bool} {rs:List RV} {x:Ex × Env × St} {r:AV × St} (h:endK keep rs x=some r):∃ v,result x.2.2 x.2.1 rs=some v∧(if keep=true then ret1 x.2.2 v else sealK x.2.2 v)=some r∧∀ st,endK keep rs (x.1,x.2.1,st)=(result st x.2.1 rs).bind (if keep=true then ret1 st else sealK st):=by
 obtain ⟨x,e,st⟩:=x
 cases x with
 | norm =>
  simp only [endK,oB] at h
  obtain ⟨v,h1,h2⟩:=h
  refine ⟨v,h1,?_,fun st=>rfl⟩
  cases keep<;>exact h2
 | ret =>
  simp only [endK,oB] at h
  obtain ⟨v,h1,h2⟩:=h
  refine ⟨v,h1,?_,fun st=>rfl⟩
  cases keep<;>exact h2
 | ex id=>simp [endK] at h
theorem fr_body {O:Orc} (hO:FrO O) (n:Nat) (pf:PF) (args:List AV):FrP fun st=>callBody O (fun F=>iter F n) pf args st:=by
 have hx:=frx_exec hO n pf.body
 cases hk:pf.keep with
 | true =>
  intro st r hr
  simp only [callBody,hk,if_true,oB] at hr
  obtain ⟨x,h1,h2⟩:=hr
  obtain ⟨k1,k2⟩:=hx.to h1
  obtain ⟨v,e1,e2,e3⟩:=endK_inv h2
  simp only [if_true,ret1,oJ] at e2;subst e2
  refine ⟨k1,fun M i B hh=>?_⟩
  simp only [callBody,hk,if_true,k2 M i B hh,oS]
  rw [e3,fr_result _ _ _ _ e1 M i B (hh.of_tags k1)]
  rfl
 | false =>
  have h1:FrP fun st=>(exec O (fun F=>iter F n) pf.body (initEnv 0 args) st).bind fun x=>match x.1 with
   | .ex _=>none
   | _=>(result x.2.2 x.2.1 pf.res).bind fun v=>sealV deep x.2.2.A.length x.2.2 v:=by
   intro st r hr
   simp only [oB] at hr
   obtain ⟨x,q1,q2⟩:=hr
   obtain ⟨k1,k2⟩:=hx.to q1
   have key:∀ x:Ex × Env × St,(match x.1 with
    | .ex _=>none
    | _=>(result x.2.2 x.2.1 pf.res).bind fun v=>sealV deep x.2.2.A.length x.2.2 v)=some r→tagsA r.2.A=tagsA x.2.2.A∧∀ M i B,HoleIn x.2.2.A M i→(match x.1 with
    | .ex _=>none
    | _=>(result (x.2.2.fillA M i B) x.2.1 pf.res).bind fun v=>sealV deep (x.2.2.fillA M i B).A.length (x.2.2.fillA M i B) v)=some (r.1,r.2.fillA M i B):=by
    rintro ⟨x,e,s⟩ q
    have main:(result s e pf.res).bind (fun v=>sealV deep s.A.length s v)=some r→tagsA r.2.A=tagsA s.A∧∀ M i B,HoleIn s.A M i→(result (s.fillA M i B) e pf.res).bind (fun v=>sealV deep (s.fillA M i B).A.length (s.fillA M i B) v)=some (r.1,r.2.fillA M i B):=by
     intro q
     simp only [oB] at q
     obtain ⟨v,w1,w2⟩:=q
     obtain ⟨l1,l2⟩:=(LO.slV deep s.A.length v).fr s r w2
     refine ⟨l1,fun M i B hh=>?_⟩
     have:=l2 M i B hh
     simp only [St.fillA,fillA_length] at this ⊢
     have w3:=fr_result _ _ _ _ w1 M i B hh
     simp only [St.fillA] at w3
     rw [w3,oS]
     exact this
    cases x with
    | norm=>exact main q
    | ret=>exact main q
    | ex id=>simp at q
   obtain ⟨m1,m2⟩:=key x q2
   refine ⟨m1.trans k1,fun M i B hh=>?_⟩
   simp only [k2 M i B hh,oS]
   exact m2 M i B (hh.of_tags k1)
  refine (fr_leave h1).congr fun st=>?_
  simp only [callBody,hk,Bool.false_eq_true,if_false,Option.bind_assoc]
  congr 1
  funext x
  obtain ⟨x,e,s⟩:=x
  cases x<;>simp only [endK,Bool.false_eq_true,if_false,Option.bind_assoc,sealK,Option.bind_none]<;>rfl
end Go.QAbs
namespace Go.QAbs
theorem findH_some {j:Nat}:∀ {L:List Blk} {i:Nat},findH j L=some i→L[i]?=some (.hole j)
 | [],i,h=>by simp [findH] at h
 | b::L,i,h=>by
  simp only [findH] at h
  split at h
  ·rename_i k hk
   simp only [oJ] at h;subst h
   simpa using findH_some hk
  ·split at h
   ·split at h
    ·rename_i hk
     simp only [oJ] at h;subst h
     simp [hk]
    ·simp at h
   ·simp at h
theorem findH_tags {j:Nat}:∀ {L L':List Blk},tags L=tags L'→findH j L=findH j L'
 | [],[],_=>rfl
 | [],b::L,h=>by simp [tags] at h
 | b::L,[],h=>by simp [tags] at h
 | b::L,b'::L',h=>by
  simp only [tags,List.map_cons,List.cons.injEq] at h
  have ih:=findH_tags (j:=j) (L:=L) (L':=L') h.2
  have hb:=h.1
  simp only [findH,ih]
  cases b<;>cases b'<;>simp [holeTag] at hb<;>first|rfl|(subst hb;rfl)
theorem findH_set {j:Nat}:∀ {L:List Blk} {a:Nat} {b:Blk},L[a]?≠some (.hole j)→b≠.hole j→findH j (L.set a b)=findH j L
 | [],a,b,_,_=>rfl
 | c::L,0,b,h,hb=>by
  simp only [List.set_cons_zero,findH]
  have h':c≠.hole j:=by simpa using h
  cases findH j L with
  | some i=>rfl
  | none =>
   simp only
   have e1:∀ d:Blk,d≠.hole j→(match d with|.hole k=>if k=j then some 0 else none|_=>none:Option Nat)=none:=by
    intro d hd
    cases d<;>first|rfl|(simp only;rw [if_neg (fun q=>hd (by rw [q]))])
   exact (e1 b hb).trans (e1 c h').symm
 | c::L,a+1,b,h,hb=>by
  have h':L[a]?≠some (.hole j):=by simpa using h
  simp only [List.set_cons_succ,findH,findH_set h' hb]
theorem Adds.of_fill {s:St} {i j:Nat} {b:Blk} (h:s.L[i]?=some (.hole j)):Adds s { s with L:=s.L.set i b }:=by
 have key:∀ (A:List (Bool × List Blk)) (ro:Bool) lv ix c,St.get ⟨A,ro,s.L⟩ lv ix=some c→St.get ⟨A,ro,s.L.set i b⟩ lv ix=some c:=by
  intro A ro lv ix c hc
  unfold St.get at hc ⊢
  simp only at hc ⊢
  split at hc
  ·rename_i h1
   rw [if_pos h1]
   have hne:i≠ix:=by
    intro q;subst q
    rw [h] at hc;simp [vis] at hc
   rw [List.getElem?_set_ne hne];exact hc
  ·rename_i h1;rw [if_neg h1];exact hc
 exact ⟨fun lv ix c hc=>key s.A s.ro lv ix c hc,fun lv ix c hc=>key _ true lv ix c hc⟩
section
variable {O:Orc} {x p:PI} {e:Env} {s s':St} {v:AV}
theorem More.refl (s:St):More s s:=fun _ _ _ h=>h
theorem own_at (hk:x.own=true) (h:evalI O e s x=some (v,s')):s'=s∧∀ t,More s.mask t.mask→evalI O e t x=some (v,t):=by
 unfold evalI at h
 rw [if_pos hk] at h
 split at h
 ·rename_i hr
  simp only [oB,pureK,oJ,Prod.mk.injEq] at h
  obtain ⟨⟨v0,s0⟩,h0,h1,rfl⟩:=h
  simp only at h1;subst h1
  refine ⟨rfl,fun t m=>?_⟩
  unfold evalI
  rw [if_pos hk,if_pos hr,(reads_mono hr m h0).1]
  rfl
 ·simp at h
theorem evalI_plain (hk:¬ x.own=true) (hc:∀ m f l,x.op≠.call m f l) (hw:∀ k o,x.op≠.w k o) (s:St):evalI O e s x=evalPO e s x.op:=by
 unfold evalI
 rw [if_neg hk]
 cases hx:x.op<;>first|rfl|exact absurd hx (hc _ _ _)|exact absurd hx (hw _ _)
theorem kind_at (h:evalI O e s x=some (v,s')) :
 (x.kind=0→s'=s∧∀ t,evalI O e t x=some (v,t))∧(x.kind=1→s'=s∧∀ t,More s t→evalI O e t x=some (v,t)) ∧
 (x.kind=2→s'=s∧∀ t,More s.mask t.mask→evalI O e t x=some (v,t))∧(x.kind=3→Adds s s')∧(x.kind=4→s'=s)∧(x.kind=5→s'.mask=s.mask):=by
 by_cases hk:x.own=true
 ·have hkind:x.kind=2:=by unfold PI.kind;rw [if_pos hk]
  rw [hkind]
  exact ⟨by simp,by simp,fun _=>own_at hk h,by simp,by simp,by simp⟩
 ·by_cases hp:x.op.pure=true
  ·have hkind:x.kind=0:=by unfold PI.kind;rw [if_neg hk,if_pos hp]
   rw [hkind]
   have hc:∀ m f l,x.op≠.call m f l:=fun m f l q=>by rw [q] at hp;simp [PO.pure] at hp
   have hw:∀ k o,x.op≠.w k o:=fun k o q=>by rw [q] at hp;simp [PO.pure] at hp
   rw [evalI_plain hk hc hw] at h
   exact ⟨fun _=>⟨(pure_at (t:=s) hp h).2,fun t=>by rw [evalI_plain hk hc hw];exact (pure_at hp h).1⟩,by simp,by simp,by simp,by simp,by simp⟩
  ·by_cases hr:x.op.reads=true
   ·have hc:∀ m f l,x.op≠.call m f l:=fun m f l q=>by rw [q] at hr;simp [PO.reads] at hr
    have hw:∀ k o,x.op≠.w k o:=fun k o q=>by rw [q] at hr;simp [PO.reads] at hr
    have hkind:x.kind=1:=by unfold PI.kind;rw [if_neg hk,if_neg hp,if_pos hr]
    rw [hkind]
    rw [evalI_plain hk hc hw] at h
    exact ⟨by simp,fun _=>⟨(reads_mono hr (.refl s) h).2,fun t m=>by rw [evalI_plain hk hc hw];exact (reads_mono hr m h).1⟩,by simp,by simp,by simp,by simp⟩
   ·by_cases ha:x.op.adds=true
    ·have hc:∀ m f l,x.op≠.call m f l:=fun m f l q=>by rw [q] at ha;simp [PO.adds] at ha
     have hw:∀ k o,x.op≠.w k o:=fun k o q=>by rw [q] at ha;simp [PO.adds] at ha
     have hkind:x.kind=3:=by unfold PI.kind;rw [if_neg hk,if_neg hp,if_neg hr,if_pos ha]
     rw [hkind]
     rw [evalI_plain hk hc hw] at h
     exact ⟨by simp,by simp,by simp,fun _=>adds_ok ha h,by simp,by simp⟩
    ·have hkind:x.kind=callKind x.op:=by unfold PI.kind;rw [if_neg hk,if_neg hp,if_neg hr,if_neg ha]
     unfold evalI at h
     rw [if_neg hk] at h
     cases hx:x.op with
     | call m f l =>
      rw [hx] at h hkind
      simp only [evalPI] at h
      unfold callV at h
      split at h
      ·cases m with
       | pin =>
        rw [show x.kind=4 from hkind]
        simp only [callM,oB,pureK,oJ,Prod.mk.injEq] at h
        obtain ⟨q,_,_,rfl⟩:=h
        exact ⟨by simp,by simp,by simp,by simp,fun _=>rfl,by simp⟩
       | move=>rw [show x.kind=6 from hkind];exact ⟨by simp,by simp,by simp,by simp,by simp,by simp⟩
       | inner=>rw [show x.kind=6 from hkind];exact ⟨by simp,by simp,by simp,by simp,by simp,by simp⟩
       | norm=>rw [show x.kind=6 from hkind];exact ⟨by simp,by simp,by simp,by simp,by simp,by simp⟩
       | pure =>
        rw [show x.kind=4 from hkind]
        simp only [callM,oB,pureK,oJ,Prod.mk.injEq] at h
        obtain ⟨q,_,_,rfl⟩:=h
        exact ⟨by simp,by simp,by simp,by simp,fun _=>rfl,by simp⟩
       | own =>
        rw [show x.kind=5 from hkind]
        simp only [callM,oB,ownK] at h
        obtain ⟨q,_,h⟩:=h
        split at h
        ·rename_i hl
         simp only [oJ,Prod.mk.injEq] at h
         obtain ⟨_,rfl⟩:=h
         refine ⟨by simp,by simp,by simp,by simp,by simp,fun _=>?_⟩
         simp only [St.mask]
         congr 1
         apply List.ext_getElem?
         intro i
         simp only [List.getElem?_map]
         by_cases hi:i<s.A.length
         ·rw [List.getElem?_eq_getElem hi,List.getElem?_eq_getElem (by omega)];rfl
         ·rw [List.getElem?_eq_none (by omega),List.getElem?_eq_none (by omega)]
        ·simp at h
      ·cases m with
       | pin =>
        rw [show x.kind=4 from hkind]
        simp only [callM,oB,pureK,oJ,Prod.mk.injEq] at h
        obtain ⟨q,_,_,rfl⟩:=h
        exact ⟨by simp,by simp,by simp,by simp,fun _=>rfl,by simp⟩
       | move=>rw [show x.kind=6 from hkind];exact ⟨by simp,by simp,by simp,by simp,by simp,by simp⟩
       | inner=>rw [show x.kind=6 from hkind];exact ⟨by simp,by simp,by simp,by simp,by simp,by simp⟩
       | norm=>rw [show x.kind=6 from hkind];exact ⟨by simp,by simp,by simp,by simp,by simp,by simp⟩
       | pure =>
        rw [show x.kind=4 from hkind]
        simp only [callM,oB,pureK,oJ,Prod.mk.injEq] at h
        obtain ⟨q,_,_,rfl⟩:=h
        exact ⟨by simp,by simp,by simp,by simp,fun _=>rfl,by simp⟩
       | own =>
        rw [show x.kind=5 from hkind]
        simp only [callM,oB,ownK] at h
        obtain ⟨q,_,h⟩:=h
        split at h
        ·rename_i hl
         simp only [oJ,Prod.mk.injEq] at h
         obtain ⟨_,rfl⟩:=h
         refine ⟨by simp,by simp,by simp,by simp,by simp,fun _=>?_⟩
         simp only [St.mask]
         congr 1
         apply List.ext_getElem?
         intro i
         simp only [List.getElem?_map]
         by_cases hi:i<s.A.length
         ·rw [List.getElem?_eq_getElem hi,List.getElem?_eq_getElem (by omega)];rfl
         ·rw [List.getElem?_eq_none (by omega),List.getElem?_eq_none (by omega)]
        ·simp at h
      ·simp at h
     | w k o =>
      rw [hx] at h hkind
      have hev:∀ t,evalI O e t x=evalW e t o k:=fun t=>by
       unfold evalI
       rw [if_neg hk,hx];rfl
      cases k with
      | blind =>
       rw [show x.kind=0 from hkind]
       simp only [evalPI,evalW] at h
       split at h
       ·rename_i hr
        simp only [oB,pureK,oJ,Prod.mk.injEq] at h
        obtain ⟨q,hq,rfl,rfl⟩:=h
        exact ⟨fun _=>⟨rfl,fun t=>by rw [hev];simp only [evalW,if_pos hr,hq,oS,pureK]⟩,by simp,by simp,by simp,by simp,by simp⟩
       ·simp at h
      | imm =>
       rw [show x.kind=0 from hkind]
       simp only [evalPI,evalW] at h
       unfold immW at h
       split at h
       ·rename_i w z ps
        simp only [oB,immK] at h
        obtain ⟨es,he,h⟩:=h
        split at h
        ·rename_i hi
         simp only [oJ,Prod.mk.injEq] at h
         obtain ⟨rfl,rfl⟩:=h
         exact ⟨fun _=>⟨rfl,fun t=>by rw [hev];simp only [evalW,immW,he,oS,immK,if_pos hi]⟩,by simp,by simp,by simp,by simp,by simp⟩
        ·simp at h
       ·simp at h
      | app0 =>
       rw [show x.kind=3 from hkind]
       simp only [evalPI,evalW] at h
       unfold app0W at h
       split at h
       ·rename_i w bytes sl x'
        split at h
        ·rename_i hn
         simp only [evalPO,oB] at h
         obtain ⟨ys,_,h⟩:=h
         cases hsv:sl.get e<;>rw [hsv] at hn h<;>simp only [isNils,Bool.false_eq_true] at hn
         simp only [appendV] at h
         split at h
         ·simp only [oB,newRefK,oJ,Prod.mk.injEq] at h
          obtain ⟨⟨i,s1⟩,hnw,_,rfl⟩:=h
          exact ⟨by simp,by simp,by simp,fun _=>.of_new hnw,by simp,by simp⟩
         ·simp at h
        ·simp at h
       ·simp at h
      | hide as =>
       rw [show x.kind=1 from hkind]
       simp only [evalPI,evalW] at h
       split at h
       ·rename_i hr
        simp only [oB,pureK,oJ,Prod.mk.injEq] at h
        obtain ⟨⟨q1,q2⟩,hq,rfl,rfl⟩:=h
        refine ⟨by simp,fun _=>⟨rfl,fun t m=>?_⟩,by simp,by simp,by simp,by simp⟩
        rw [hev]
        simp only [evalW,if_pos hr,(reads_mono hr (m.hide2 _) hq).1,oS,pureK]
       ·simp at h
      | only as =>
       rw [show x.kind=1 from hkind]
       simp only [evalPI,evalW] at h
       split at h
       ·rename_i hr
        simp only [oB,pureK,oJ,Prod.mk.injEq] at h
        obtain ⟨⟨q1,q2⟩,hq,rfl,rfl⟩:=h
        refine ⟨by simp,fun _=>⟨rfl,fun t m=>?_⟩,by simp,by simp,by simp,by simp⟩
        rw [hev]
        simp only [evalW,if_pos hr,(reads_mono hr (m.hide2 _) hq).1,oS,pureK]
       ·simp at h
      | plain b=>rw [show x.kind=6 from hkind];exact ⟨by simp,by simp,by simp,by simp,by simp,by simp⟩
      | off b=>rw [show x.kind=6 from hkind];exact ⟨by simp,by simp,by simp,by simp,by simp,by simp⟩
      | grow b=>rw [show x.kind=6 from hkind];exact ⟨by simp,by simp,by simp,by simp,by simp,by simp⟩
      | here j =>
       rw [show x.kind=3 from hkind]
       simp only [evalPI,evalW,oB,hereV] at h
       obtain ⟨b,hb,h⟩:=h
       split at h
       ·simp only [oB,fillK,oJ,Prod.mk.injEq] at h
        obtain ⟨i,hi,_,rfl⟩:=h
        exact ⟨by simp,by simp,by simp,fun _=>.of_fill (findH_some hi),by simp,by simp⟩
       ·simp at h
     | _=>rw [hx] at hkind;rw [show x.kind=6 from hkind];exact ⟨by simp,by simp,by simp,by simp,by simp,by simp⟩
theorem kind_val (h:valI O x e s=some (v,s')) :
 (x.kind=0→s'=s∧∀ t,valI O x e t=some (v,t))∧(x.kind=1→s'=s∧∀ t,More s t→valI O x e t=some (v,t)) ∧
 (x.kind=2→s'=s∧∀ t,More s.mask t.mask→valI O x e t=some (v,t))∧(x.kind=3→Adds s s')∧(x.kind=4→s'=s)∧(x.kind=5→s'.mask=s.mask):=by
 unfold valI at h ⊢
 simp only [oB] at h
 obtain ⟨b,hb,h⟩:=h
 rw [hb]
 simp only [oS]
 cases b with
 | true=>exact kind_at h
 | false =>
  simp only [stepT,oJ,Prod.mk.injEq] at h
  obtain ⟨rfl,rfl⟩:=h
  exact ⟨fun _=>⟨rfl,fun _=>rfl⟩,fun _=>⟨rfl,fun _ _=>rfl⟩,fun _=>⟨rfl,fun _ _=>rfl⟩,fun _=>⟨.refl _,.refl _⟩,fun _=>rfl,fun _=>rfl⟩
theorem still_val (hk:stillK x.kind=true) (h:valI O x e s=some (v,s')):s'=s:=by
 obtain ⟨h0,h1,h2,_,h4,_⟩:=kind_val h
 unfold stillK at hk
 split at hk
 ·rename_i q;exact (h0 q).1
 ·rename_i q;exact (h1 q).1
 ·rename_i q;exact (h2 q).1
 ·rename_i q;exact h4 q
 ·simp at hk
theorem val_comm {e1 e2:Env} {s1 s2:St} {w:AV} (hc:commK x.kind p.kind=true) (hx:valI O x e s=some (v,s1)) (hp:valI O p e1 s1=some (w,s2))
 (h1:∀ t,valI O p e1 t=valI O p e t) (h2:∀ t,valI O x e2 t=valI O x e t):∃ s1',valI O p e s=some (w,s1')∧valI O x e2 s1'=some (v,s2):=by
 obtain ⟨x0,x1,x2,x3,x4,x5⟩:=kind_val hx
 obtain ⟨p0,p1,p2,p3,p4,p5⟩:=kind_val hp
 simp only [commK,Bool.or_eq_true,Bool.and_eq_true,beq_iff_eq] at hc
 rcases hc with ((((hc|hc)|⟨hc,hc'⟩)|⟨hc|hc,hc'⟩)|⟨hc,hc'⟩)|⟨hc,hc'⟩
 ·obtain ⟨rfl,q⟩:=x0 hc
  exact ⟨s2,by rw [← h1];exact hp,by rw [h2];exact q _⟩
 ·obtain ⟨rfl,q⟩:=p0 hc
  exact ⟨s,by rw [← h1];exact q _,by rw [h2];exact hx⟩
 ·have e1:=still_val hc hx;subst e1
  have e2:=still_val hc' hp;subst e2
  exact ⟨_,by rw [← h1];exact hp,by rw [h2];exact hx⟩
 ·obtain ⟨rfl,q⟩:=x1 hc
  exact ⟨s2,by rw [← h1];exact hp,by rw [h2];exact q _ (p3 hc').more⟩
 ·obtain ⟨rfl,q⟩:=x2 hc
  exact ⟨s2,by rw [← h1];exact hp,by rw [h2];exact q _ (p3 hc').mask⟩
 ·obtain ⟨rfl,q⟩:=x2 hc
  exact ⟨s2,by rw [← h1];exact hp,by rw [h2];exact q _ (by rw [p5 hc'];exact .refl _)⟩
 ·obtain ⟨rfl,q⟩:=p2 hc'
  exact ⟨s,by rw [← h1];exact q _ (by rw [x5 hc];exact .refl _),by rw [h2];exact hx⟩
theorem evalI_w {k:WK} {o:PO} (hk:x.own=false) (hx:x.op=.w k o) (t:St):evalI O e t x=evalW e t o k:=by
 unfold evalI
 rw [if_neg (by rw [hk];simp),hx];rfl
theorem plain_inv {b:Opd} {o:PO} (h:evalW e s o (.plain b)=some (v,s')):∃ lv ix ver i of,b.get e=.ptr lv ix ver i of∧∀ lv' ix',¬ (lv'=lv∧ix'=ix)→s'.get lv' ix'=s.get lv' ix':=by
 simp only [evalW] at h
 unfold plainW at h
 split at h
 ·rename_i n a y
  split at h
  ·rename_i hc
   obtain ⟨hsm,him⟩:=hc
   unfold sameBlk at hsm
   split at hsm
   ·rename_i lv ix ver i of lv' ix' ver' i' of' ha hb
    simp only [Bool.and_eq_true,beq_iff_eq] at hsm
    obtain ⟨rfl,rfl⟩:=hsm
    refine ⟨_,_,_,_,_,hb,?_⟩
    simp only [evalPO,ha,storeP,oB,retU,oJ,Prod.mk.injEq] at h
    obtain ⟨s2,⟨⟨v2,s3⟩,h1,h2⟩,_,rfl⟩:=h
    have e3:s3=s:=by
     have:=seal_imm (n:=deep) (b:=lv+1) (st:=s) him
     rw [this] at h1
     simp only [oJ,Prod.mk.injEq] at h1
     exact h1.2.symm
    subst e3
    simp only [storeK] at h2
    unfold storeB at h2
    split at h2
    ·split at h2
     ·simp only [oB] at h2
      obtain ⟨e1,_,e2,_,h2⟩:=h2
      exact fun lv' ix' hne=>(Sh.of_put h2).get lv' ix' hne
     ·simp at h2
    ·simp at h2
   ·simp at hsm
  ·simp at h
 ·simp at h
theorem hide_in {as:List Opd} {b:Opd} (h:as.any (Opd.same b)=true):∀ {lv ix ver i of:Nat},b.get e=.ptr lv ix ver i of→anyPtr (gets e as) lv ix=true:=by
 intro lv ix ver i of hb
 induction as with
 | nil=>simp at h
 | cons a as ih =>
  simp only [List.any_cons,Bool.or_eq_true] at h
  simp only [gets,anyPtr,List.any_cons,Bool.or_eq_true]
  rcases h with h|h
  ·left
   unfold Opd.same at h
   split at h
   ·rename_i t u
    simp only [beq_iff_eq] at h;subst h
    rw [hb];simp [atPtr]
   ·simp at h
  ·right;exact ih h
theorem hide_keep {as:List Opd} {b:Opd} {o:PO} {w:AV} {q:PO} (hb:as.any (Opd.same b)=true) (hr:o.reads=true) (hp:evalW e s q (.plain b)=some (v,s')) :
 (∀ r t,evalPO e (s.hide (anyPtr (gets e as))) o=some (r,t)→∃ t',evalPO e (s'.hide (anyPtr (gets e as))) o=some (r,t'))∧(∀ r t,evalPO e (s'.hide (anyPtr (gets e as))) o=some (r,t)→∃ t',evalPO e (s.hide (anyPtr (gets e as))) o=some (r,t')):=by
 obtain ⟨lv,ix,ver,i,of,h1,h2⟩:=plain_inv hp
 have hP:=hide_in hb h1
 have hg:∀ lv' ix',(s'.hide (anyPtr (gets e as))).get lv' ix'=(s.hide (anyPtr (gets e as))).get lv' ix':=by
  intro lv' ix'
  rw [hide_get,hide_get]
  split
  ·rfl
  ·rename_i hn
   exact h2 lv' ix' (by rintro ⟨rfl,rfl⟩;exact hn hP)
 exact ⟨fun r t h=>⟨_,(reads_mono hr (fun lv' ix' c hc=>by rw [hg];exact hc) h).1⟩,fun r t h=>⟨_,(reads_mono hr (fun lv' ix' c hc=>by rw [← hg];exact hc) h).1⟩⟩
theorem grow_inv {b:Opd} {o:PO} (h:evalW e s o (.grow b)=some (v,s')):∀ lv' ix' c,atPtr lv' ix' (b.get e)=true→s.get lv' ix'=some c→s'.get lv' ix'=some c:=by
 simp only [evalW] at h
 unfold growW at h
 split at h
 ·rename_i w bytes sl x'
  split at h
  ·rename_i hc
   obtain ⟨hsm,hok⟩:=hc
   simp only [evalPO,oB] at h
   obtain ⟨ys,hys,h⟩:=h
   rw [hys] at hok
   unfold apartB at hsm
   split at hsm
   ·rename_i ha
    rw [ha] at h
    simp only [appendV] at h
    split at h
    ·simp only [oB,newRefK,oJ,Prod.mk.injEq] at h
     obtain ⟨⟨i,s1⟩,hnw,_,rfl⟩:=h
     exact fun lv' ix' c _ hc=>(Adds.of_new hnw).more _ _ _ hc
    ·simp at h
   ·rename_i lv ix ver q m ha
    rw [ha] at h hok
    simp only [growOk,List.all_eq_true] at hok
    simp only [appendV] at h
    split at h
    ·rw [mapSt_id (f:=sealV deep (lv+1)) (fun u hu=>seal_held (n:=deep) (hok u hu))] at h
     simp only [oS,appK] at h
     unfold appB at h
     split at h
     ·split at h
      ·simp only [oB,oJ,Prod.mk.injEq] at h
       obtain ⟨st2,hput,_,rfl⟩:=h
       intro lv' ix' c hne hcc
       rw [(Sh.of_put hput).get lv' ix' (by
        rintro ⟨rfl,rfl⟩
        rw [hne] at hsm;simp at hsm)]
       exact hcc
      ·simp at h
     ·simp at h
    ·simp at h
   ·simp at hsm
  ·simp at h
 ·simp at h
theorem only_grow {a b:Opd} {o:PO} {q:PO} (hb:Opd.same a b=true) (hr:o.reads=true) (hp:evalW e s q (.grow b)=some (v,s')) :
 ∀ r t,evalPO e (s.hide fun lv ix=>!atPtr lv ix (a.get e)) o=some (r,t)→∃ t',evalPO e (s'.hide fun lv ix=>!atPtr lv ix (a.get e)) o=some (r,t'):=by
 have hi:=grow_inv hp
 have hab:a.get e=b.get e:=by
  unfold Opd.same at hb
  split at hb
  ·simp only [beq_iff_eq] at hb;rw [hb]
  ·simp at hb
 refine fun r t h=>⟨_,(reads_mono hr (fun lv' ix' c hc=>?_) h).1⟩
 rw [hide_get] at hc ⊢
 split at hc
 ·simp at hc
 ·rename_i hn
  rw [if_neg hn]
  exact hi lv' ix' c (by rw [← hab];simpa using hn) hc
theorem off_inv {b:Opd} {o:PO} (h:evalW e s o (.off b)=some (v,s')):∀ lv' ix' c,atPtr lv' ix' (b.get e)=true→s.get lv' ix'=some c→s'.get lv' ix'=some c:=by
 simp only [evalW] at h
 unfold offW at h
 split at h
 ·rename_i n a y
  split at h
  ·rename_i hc
   unfold offOk at hc
   split at hc
   ·rename_i lv ix ver i of x0 ha
    simp only [Bool.and_eq_true,Bool.not_eq_true'] at hc
    simp only [evalPO,ha,storeP,oB,retU,oJ,Prod.mk.injEq] at h
    obtain ⟨s2,⟨⟨v2,s3⟩,h1,h2⟩,_,rfl⟩:=h
    rw [seal_held (n:=deep) hc.2] at h1
    simp only [oJ,Prod.mk.injEq] at h1
    obtain ⟨rfl,rfl⟩:=h1
    simp only [storeK] at h2
    unfold storeB at h2
    split at h2
    ·split at h2
     ·simp only [oB] at h2
      obtain ⟨e1,_,e2,_,h2⟩:=h2
      intro lv' ix' c hat hcc
      rw [(Sh.of_put h2).get lv' ix' (by
       rintro ⟨rfl,rfl⟩
       rw [hat] at hc;simp at hc)]
      exact hcc
     ·simp at h2
    ·simp at h2
   ·simp at hc
  ·simp at h
 ·simp at h
theorem only_off {a b:Opd} {o:PO} {q:PO} (hb:Opd.same a b=true) (hr:o.reads=true) (hp:evalW e s q (.off b)=some (v,s')) :
 ∀ r t,evalPO e (s.hide fun lv ix=>!atPtr lv ix (a.get e)) o=some (r,t)→∃ t',evalPO e (s'.hide fun lv ix=>!atPtr lv ix (a.get e)) o=some (r,t'):=by
 have hi:=off_inv hp
 have hab:a.get e=b.get e:=by
  unfold Opd.same at hb
  split at hb
  ·simp only [beq_iff_eq] at hb;rw [hb]
  ·simp at hb
 refine fun r t h=>⟨_,(reads_mono hr (fun lv' ix' c hc=>?_) h).1⟩
 rw [hide_get] at hc ⊢
 split at hc
 ·simp at hc
 ·rename_i hn
  rw [if_neg hn]
  exact hi lv' ix' c (by rw [← hab];simpa using hn) hc
theorem here_inv {j:Nat} {o:PO} (h:evalW e s o (.here j)=some (v,s')):∃ b i,newOf e o=some b∧s.ro=false∧immB b.1=true∧findH j s.L=some i∧v=b.2 s.A.length i∧s'={ s with L:=s.L.set i b.1 }:=by
 simp only [evalW,oB,hereV] at h
 obtain ⟨b,hb,h⟩:=h
 split at h
 ·rename_i hc
  simp only [oB,fillK,oJ,Prod.mk.injEq] at h
  obtain ⟨i,hi,rfl,rfl⟩:=h
  exact ⟨b,i,hb,hc.1,hc.2,hi,rfl,rfl⟩
 ·simp at h
theorem here_mk {j i:Nat} {o:PO} {b:Blk × (Nat→Nat→AV)} (hb:newOf e o=some b) (hro:s.ro=false) (him:immB b.1=true) (hf:findH j s.L=some i):evalW e s o (.here j)=some (b.2 s.A.length i,{ s with L:=s.L.set i b.1 }):=by
 simp only [evalW,hb,oS,hereV,if_pos (And.intro hro him),hf,fillK]
theorem immB_hole {b:Blk} (h:immB b=true) (j:Nat):b≠.hole j:=by
 rintro rfl;simp [immB] at h
theorem val_comm2 (hO:FrO O) {e1 e2:Env} {s1 s2:St} {w:AV} (ho:x.own=false∧p.own=false) (hc:commW x.op p.op=true) (hx:valI O x e s=some (v,s1)) (hp:valI O p e1 s1=some (w,s2))
 (h1:∀ t,valI O p e1 t=valI O p e t) (h2:∀ t,valI O x e2 t=valI O x e t):∃ s1',valI O p e s=some (w,s1')∧valI O x e2 s1'=some (v,s2):=by
 rw [h1] at hp
 have hx':=hx
 have hp':=hp
 unfold valI at hx hp
 simp only [oB] at hx hp
 obtain ⟨bx,hbx,hx⟩:=hx
 obtain ⟨bp,hbp,hp⟩:=hp
 have vx:∀ t,valI O x e t=stepT O x e t bx:=fun t=>by unfold valI;rw [hbx];rfl
 have vp:∀ t,valI O p e t=stepT O p e t bp:=fun t=>by unfold valI;rw [hbp];rfl
 cases bx with
 | false =>
  simp only [stepT,oJ,Prod.mk.injEq] at hx
  obtain ⟨rfl,rfl⟩:=hx
  exact ⟨s2,hp',by rw [h2,vx];rfl⟩
 | true =>
  cases bp with
  | false =>
   simp only [stepT,oJ,Prod.mk.injEq] at hp
   obtain ⟨rfl,rfl⟩:=hp
   exact ⟨s,by rw [vp];rfl,by rw [h2];exact hx'⟩
  | true =>
   simp only [stepT] at hx hp
   simp only [h2,vx,vp,stepT]
   unfold commW at hc
   split at hc
   ·-- two holes
    rename_i i ox j op hxo hpo
    rw [evalI_w ho.1 hxo] at hx
    rw [evalI_w ho.2 hpo] at hp
    obtain ⟨b,a,q1,q2,q3,q4,rfl,rfl⟩:=here_inv hx
    obtain ⟨b',a',r1,r2,r3,r4,rfl,rfl⟩:=here_inv hp
    have hij:i≠j:=by simpa using hc
    have la:=findH_some q4
    have r4':findH j s.L=some a':=by
     rw [← r4]
     exact (findH_set (by rw [la];simpa using hij) (immB_hole q3 j)).symm
    have la':=findH_some r4'
    have hne:a≠a':=by
     rintro rfl
     rw [la] at la'
     simp only [oJ,Blk.hole.injEq] at la'
     exact hij la'
    refine ⟨{ s with L:=s.L.set a' b'.1 },by rw [evalI_w ho.2 hpo];exact here_mk r1 q2 r3 r4',?_⟩
    rw [evalI_w ho.1 hxo,here_mk (s:={ s with L:=s.L.set a' b'.1 }) (i:=a) q1 q2 q3 (by
     simp only
     rw [findH_set (by rw [la'];simpa using fun q=>hij q.symm) (immB_hole r3 i)];exact q4)]
    simp only [oJ,Prod.mk.injEq,St.mk.injEq,true_and,and_true]
    exact List.set_comm _ _ hne.symm
   ·-- a look that does not see the block,and a write
    rename_i as ox b op hxo hpo
    rw [evalI_w ho.1 hxo] at hx
    rw [evalI_w ho.2 hpo] at hp
    simp only [evalW] at hx
    split at hx
    ·rename_i hr
     simp only [oB,pureK,oJ,Prod.mk.injEq] at hx
     obtain ⟨⟨q1,q2⟩,hq,rfl,rfl⟩:=hx
     obtain ⟨t',ht'⟩:=(hide_keep (w:=q1) hc hr hp).1 _ _ hq
     refine ⟨s2,by rw [evalI_w ho.2 hpo];exact hp,?_⟩
     rw [evalI_w ho.1 hxo]
     simp only [evalW,if_pos hr,ht',oS,pureK]
    ·simp at hx
   ·rename_i b ox as op hxo hpo
    rw [evalI_w ho.1 hxo] at hx
    rw [evalI_w ho.2 hpo] at hp
    simp only [evalW] at hp
    split at hp
    ·rename_i hr
     simp only [oB,pureK,oJ,Prod.mk.injEq] at hp
     obtain ⟨⟨q1,q2⟩,hq,rfl,rfl⟩:=hp
     obtain ⟨t',ht'⟩:=(hide_keep (w:=q1) hc hr hx).2 _ _ hq
     refine ⟨s,?_,by rw [evalI_w ho.1 hxo];exact hx⟩
     rw [evalI_w ho.2 hpo]
     simp only [evalW,if_pos hr,ht',oS,pureK]
    ·simp at hp
   ·-- a look that does not see the slice,and an append
    rename_i as ox b op hxo hpo
    rw [evalI_w ho.1 hxo] at hx
    rw [evalI_w ho.2 hpo] at hp
    simp only [evalW] at hx
    split at hx
    ·rename_i hr
     simp only [oB,pureK,oJ,Prod.mk.injEq] at hx
     obtain ⟨⟨q1,q2⟩,hq,rfl,rfl⟩:=hx
     obtain ⟨t',ht'⟩:=only_grow hc hr hp _ _ hq
     refine ⟨s2,by rw [evalI_w ho.2 hpo];exact hp,?_⟩
     rw [evalI_w ho.1 hxo]
     simp only [evalW,if_pos hr,ht',oS,pureK]
    ·simp at hx
   ·-- a look that sees one block alone,and a store elsewhere
    rename_i as ox b op hxo hpo
    rw [evalI_w ho.1 hxo] at hx
    rw [evalI_w ho.2 hpo] at hp
    simp only [evalW] at hx
    split at hx
    ·rename_i hr
     simp only [oB,pureK,oJ,Prod.mk.injEq] at hx
     obtain ⟨⟨q1,q2⟩,hq,rfl,rfl⟩:=hx
     obtain ⟨t',ht'⟩:=only_off hc hr hp _ _ hq
     refine ⟨s2,by rw [evalI_w ho.2 hpo];exact hp,?_⟩
     rw [evalI_w ho.1 hxo]
     simp only [evalW,if_pos hr,ht',oS,pureK]
    ·simp at hx
   ·-- a call in a region of its own,and a hole
    rename_i f l j op hxo hpo
    have hxe:∀ t,evalI O e t x=callV O .inner (gets e l) t (f.get e):=fun t=>by
     unfold evalI
     rw [if_neg (by rw [ho.1];simp),hxo];rfl
    rw [hxe] at hx
    rw [evalI_w ho.2 hpo] at hp
    unfold callV at hx hxe
    split at hx
    ·rename_i g first cap hf
     obtain ⟨⟨k1,k2,k3⟩,k4⟩:=inner_here hO hx
     obtain ⟨b',a',r1,r2,r3,r4,rfl,rfl⟩:=here_inv hp
     have r4':findH j s.L=some a':=by rw [← r4];exact (findH_tags k3).symm
     have la':=findH_some r4'
     refine ⟨{ s with L:=s.L.set a' b'.1 },?_,?_⟩
     ·rw [evalI_w ho.2 hpo,here_mk r1 (by rw [← k2];exact r2) r3 r4',k1]
     ·rw [hxe,hf]
      exact k4 a' j b'.1 la'
    ·rename_i g hf
     obtain ⟨⟨k1,k2,k3⟩,k4⟩:=inner_here hO hx
     obtain ⟨b',a',r1,r2,r3,r4,rfl,rfl⟩:=here_inv hp
     have r4':findH j s.L=some a':=by rw [← r4];exact (findH_tags k3).symm
     have la':=findH_some r4'
     refine ⟨{ s with L:=s.L.set a' b'.1 },?_,?_⟩
     ·rw [evalI_w ho.2 hpo,here_mk r1 (by rw [← k2];exact r2) r3 r4',k1]
     ·rw [hxe,hf]
      exact k4 a' j b'.1 la'
    ·simp at hx
   ·-- the same,of a call that writes nothing
    rename_i f l j op hxo hpo
    have hxe:∀ t,evalI O e t x=callV O .pin (gets e l) t (f.get e):=fun t=>by
     unfold evalI
     rw [if_neg (by rw [ho.1];simp),hxo];rfl
    rw [hxe] at hx
    rw [evalI_w ho.2 hpo] at hp
    unfold callV at hx hxe
    split at hx
    ·rename_i g first cap hf
     have hx2:(callM O .inner g (weaks (first++gets e l++cap)) s.allRo).bind (pureK s)=some (v,s1):=hx
     simp only [oB,pureK,oJ,Prod.mk.injEq] at hx2
     obtain ⟨⟨v0,s0⟩,hin,rfl,rfl⟩:=hx2
     obtain ⟨_,k4⟩:=inner_here hO hin
     obtain ⟨b',a',r1,r2,r3,r4,rfl,rfl⟩:=here_inv hp
     have la':=findH_some r4
     refine ⟨{ s with L:=s.L.set a' b'.1 },?_,?_⟩
     ·rw [evalI_w ho.2 hpo,here_mk r1 r2 r3 r4]
     ·rw [hxe,hf]
      have q:=k4 a' j b'.1 la'
      show (callM O .inner g (weaks (first++gets e l++cap)) ({ s with L:=s.L.set a' b'.1 }:St).allRo).bind (pureK { s with L:=s.L.set a' b'.1 })=_
      have e1:({ s with L:=s.L.set a' b'.1 }:St).allRo={ s.allRo with L:=s.allRo.L.set a' b'.1 }:=rfl
      rw [e1,q];rfl
    ·rename_i g cs hf
     have hx2:(callM O .inner (yB+g) (weaks (gets e l++cs)) s.allRo).bind (pureK s)=some (v,s1):=hx
     simp only [oB,pureK,oJ,Prod.mk.injEq] at hx2
     obtain ⟨⟨v0,s0⟩,hin,rfl,rfl⟩:=hx2
     obtain ⟨_,k4⟩:=inner_here hO hin
     obtain ⟨b',a',r1,r2,r3,r4,rfl,rfl⟩:=here_inv hp
     have la':=findH_some r4
     refine ⟨{ s with L:=s.L.set a' b'.1 },?_,?_⟩
     ·rw [evalI_w ho.2 hpo,here_mk r1 r2 r3 r4]
     ·rw [hxe,hf]
      have q:=k4 a' j b'.1 la'
      show (callM O .inner (yB+g) (weaks (gets e l++cs)) ({ s with L:=s.L.set a' b'.1 }:St).allRo).bind (pureK { s with L:=s.L.set a' b'.1 })=_
      have e1:({ s with L:=s.L.set a' b'.1 }:St).allRo={ s.allRo with L:=s.allRo.L.set a' b'.1 }:=rfl
      rw [e1,q];rfl
    ·simp at hx
   ·simp at hc
theorem swap_ok (hO:FrO O) {R:List PI} {r:Env × St} (hc:commB x p=true) (h:runIs O (x::p::R) e s=some r):∃ r',runIs O (p::x::R) e s=some r'∧EqE r.1 r'.1∧r'.2=r.2:=by
 simp only [commB,Bool.and_eq_true] at hc
 obtain ⟨hk,hd,hx,hp⟩:=hc
 simp only [runIs_val,oB] at h
 obtain ⟨⟨v,s1⟩,h1,⟨w,s2⟩,h2,h3⟩:=h
 have hcomm:∃ s1',valI O p e s=some (w,s1')∧valI O x (setD e p.dst w) s1'=some (v,s2):=by
  simp only [Bool.or_eq_true,Bool.and_eq_true,Bool.not_eq_true'] at hk
  rcases hk with hk|hk
  ·exact val_comm hk h1 h2 (fun t=>valI_eq (setD_look hx)) (fun t=>valI_eq (setD_look hp))
  ·exact val_comm2 hO hk.1 hk.2 h1 h2 (fun t=>valI_eq (setD_look hx)) (fun t=>valI_eq (setD_look hp))
 obtain ⟨s1',q1,q2⟩:=hcomm
 obtain ⟨r',r1,r2,r3⟩:=runIs_eqE (setD_comm hd) h3
 exact ⟨r',by simp only [runIs_val,q1,q2,oS];exact r1,r2,r3⟩
theorem EqE.trans {e1 e2 e3:Env} (h:EqE e1 e2) (k:EqE e2 e3):EqE e1 e3:=fun t=>(h t).trans (k t)
theorem front_ok (hO:FrO O) {R:List PI}:∀ {pre:List PI} {e:Env} {s:St} {r:Env × St},(∀ x∈pre,commB x p=true)→runIs O (pre++p::R) e s=some r →
 ∃ r',runIs O (p::(pre++R)) e s=some r'∧EqE r.1 r'.1∧r'.2=r.2
 | [],e,s,r,_,h=>⟨r,h,fun _=>rfl,rfl⟩
 | x::pre,e,s,r,hc,h=>by
  rw [lC,runIs_val,oB] at h
  obtain ⟨q,hq,h⟩:=h
  obtain ⟨r',h1,h2,h3⟩:=front_ok hO (fun y hy=>hc y (by simp [hy])) h
  have h4:runIs O (x::p::(pre++R)) e s=some r':=by rw [runIs_val,hq];exact h1
  obtain ⟨r'',k1,k2,k3⟩:=swap_ok hO (hc x (by simp)) h4
  exact ⟨r'',k1,h2.trans k2,k3.trans h3⟩
end
end Go.QAbs
