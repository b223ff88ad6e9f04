/- A part of the proof. No condition. -/
import Derived.Test.YtcdebbidfgmieaaGreatReT0
import Derived.Maps.RangeRun
import Derived.Test.YtcdebbidfgmieaaGreatReT5
set_option linter.unusedVariables false
set_option linter.unusedSimpArgs false
set_option maxHeartbeats 4000000
set_option maxRecDepth 100000
namespace Go.QAbs
variable {v:AV}{a:Act}{ro:Bool}{c:Code}{e:Env}{g most:Int}{A:List (Bool × List Blk)}{es:LV}{bs:List Blk}{clock d i ix j n ver w:Nat}{O:Orc}{P:Prop}{st:St}
def ruP(O:Orc)(Q:JD)(k:List Fr)(e:Env)(st:St):PC->Option Prop
 | .seq a b=>some (Ru O a (.seq b::k) Q e st)
 | .reg l is=>some (Is O is l k Q e st)
 | .skip=>some (Rk O k Q .norm e st)
 | .ret=>some (Rk O k Q .ret e st)
 | .exit id=>some (Rk O k Q (.ex id) e st)
 | .block id b=>some (Ru O b (.blk id::k) Q e st)
 | .ite c a b=>match ZL e c with
  | some (.bool true)=>some (Ru O a k Q e st)
  | some (.bool false)=>some (Ru O b k Q e st)
  | _=>none
 | _=>none
theorem ruS{Q:JD}{k:List Fr}{c:PC}(hc:ruP O Q k e st c=some P)(h:P):Ru O c k Q e st:=by
 unfold ruP at hc;split at hc
 ·cases hc;exact FX h
 ·cases hc;exact Qv h
 ·cases hc;exact HI h
 ·cases hc;exact Xz h
 ·cases hc;exact cF h
 ·cases hc;exact Kt h
 ·split at hc
  ·rename_i q;cases hc;exact cG q h
  ·rename_i q;cases hc;exact Ku q h
  ·simp at hc
 ·simp at hc
def rkP(O:Orc)(Q:JD)(e:Env)(st:St):List Fr->Ex->Option Prop
 | [],x=>some (Q x e st)
 | .seq b::k,.norm=>some (Ru O b k Q e st)
 | .seq _::k,x=>some (Rk O k Q x e st)
 | .blk id::k,.ex id'=>match Nat.beq id' id with
  | true=>some (Rk O k Q .norm e st)
  | false=>some (Rk O k Q (.ex id') e st)
 | .blk _::k,x=>some (Rk O k Q x e st)
 | .inv P::_,.norm=>some (P e st)
 | .inv _::k,x=>some (Rk O k Q x e st)
theorem rkS{Q:JD}{k:List Fr}{x:Ex}(hc:rkP O Q e st k x=some P)(h:P):Rk O k Q x e st:=by
 unfold rkP at hc;split at hc
 ·cases hc;exact B3 h
 ·cases hc;exact ZO h
 ·rename_i hx;cases hc;cases x with
  | norm=>exact absurd Y hx
  | ret=>exact cH h
  | ex id=>exact cI h
 ·split at hc
  ·rename_i q;cases hc;exact cL q h
  ·rename_i q;cases hc;exact cM q h
 ·rename_i hx;cases hc;cases x with
  | norm=>exact cJ h
  | ret=>exact cK h
  | ex id=>exact absurd Y (hx _)
 ·cases hc;exact cN h
 ·rename_i hx;cases hc;cases x with
  | norm=>exact absurd Y hx
  | ret=>exact cO h
  | ex id=>exact cP h
def Hr(O:Orc)(Q:JD)(k:List Fr)(keep:List Nat)(st:St)(e:Env)(is:List PI):Option Nat->Option Prop
 | some d=>some (Is O is keep k Q ((d,.undef)::e) st)
 | none=>some (Is O is keep k Q e st)
def valP(O:Orc)(Q:JD)(k:List Fr)(keep:List Nat)(st:St)(e:Env)(is:List PI)(d:Nat):Option AV->Option Prop
 | some v=>some (Is O is keep k Q ((d,v)::e) st)
 | none=>none
def pckO:Bool->AV->AV->Option AV
 | true,a,_=>some a
 | false,_,b=>some b
def NR:Bool->Option AV
 | true=>some (.bool false)
 | false=>some (.bool true)
def opP(e:Env):PO->Option AV
 | .mv x=>ZL e x
 | .fadr off x=>match ZL e x with
  | some a=>E6 off a
  | none=>none
 | .ext x i=>match ZL e x with
  | some (.tup vs)=>vs[i]?
  | _=>none
 | .nilck x=>match ZL e x with
  | some a=>E4 a
  | none=>none
 | .pick c a b=>match ZL e c with
  | some (.bool t)=>match ZL e a with
   | some va=>match ZL e b with
    | some vb=>pckO t va vb
    | none=>none
   | none=>none
  | _=>none
 | .un .not x=>match ZL e x with
  | some (.bool b)=>NR b
  | _=>none
 | _=>none
def isP(O:Orc)(Q:JD)(k:List Fr)(keep:List Nat)(st:St)(e:Env):List PI->Option Prop
 | []=>match DF keep e with
  | some e'=>some (Rk O k Q .norm e' st)
  | none=>none
 | ⟨od,some (t,w),own,op⟩::is=>match JZ e t with
  | some (.bool w')=>match w' == w with
   | true=>some (Is O (⟨od,none,own,op⟩::is) keep k Q e st)
   | false=>Hr O Q k keep st e is od
  | some .undef=>Hr O Q k keep st e is od
  | _=>none
 | ⟨some d,none,false,op⟩::is=>valP O Q k keep st e is d (opP e op)
 | _=>none
theorem isS{Q:JD}{k:List Fr}{keep:List Nat}{is:List PI}(hc:isP O Q k keep st e is=some P)(h:P):Is O is keep k Q e st:=by
 unfold isP at hc;split at hc
 ·split at hc
  ·rename_i q;cases hc;exact Jg q h
  ·simp at hc
 ·rename_i od t w own op is
  split at hc
  ·rename_i w' q
   split at hc
   ·rename_i q2
    have e1:w'=w:=by simpa using q2
    subst e1;cases hc;exact cQ q h
   ·rename_i q2
    unfold Hr at hc;split at hc
    ·cases hc;exact cR q q2 h
    ·cases hc;exact cT q q2 h
  ·rename_i q
   unfold Hr at hc;split at hc
   ·cases hc;exact cS q h
   ·cases hc;exact cU q h
  ·simp at hc
 ·rename_i d op is
  unfold valP at hc;split at hc
  ·rename_i v hv
   cases hc;unfold opP at hv;split at hv
   ·exact A6 hv h
   ·split at hv
    ·rename_i q;exact Sc q hv h
    ·simp at hv
   ·split at hv
    ·rename_i q;exact Fb q hv h
    ·simp at hv
   ·split at hv
    ·rename_i q;exact cc q hv h
    ·simp at hv
   ·split at hv
    ·rename_i t q
     split at hv
     ·rename_i q1
      split at hv
      ·rename_i q2;exact cW q q1 q2 (by cases t<;>simpa [pckO] using hv) h
      ·simp at hv
     ·simp at hv
    ·simp at hv
   ·split at hv
    ·rename_i b q
     cases b with
     | true=>simp only[NR,oJ]at hv;subst hv;exact SZ q Y h
     | false=>simp only[NR,oJ]at hv;subst hv;exact SZ q Y h
    ·simp at hv
   ·simp at hv
  ·simp at hc
 ·simp at hc
end Go.QAbs
namespace Go.QAbs
open Go.RowKit (Below)
open Go.ChangeMaps (setBlock)
variable {v:AV}{a:Act}{ro:Bool}{c:Code}{e:Env}{g most:Int}{A:List (Bool × List Blk)}{es:LV}{bs:List Blk}{clock d i ix j n ver w:Nat}{O:Orc}{P:Prop}{st:St}
def EW:Obj->Bool
 | .mapIter _ _ _ _=>true
 | _=>false
structure Jk(r:Nat)(W W':World):Prop where
 os:W'.os=W.os
 tape:W'.tape=W.tape
 output:W'.output=W.output
 size:W.heap.size<=W'.heap.size
 blk:∀i,i<W.heap.size->i≠r->W'.heap[i]?=W.heap[i]?
 it:W.heap.size<=r\/∃o o',W.heap[r]?=some o/\EW o=true/\W'.heap[r]?=some o'/\EW o'=true
section
variable {P:Program}{W0:World}{B0:Bse}{st st':St}{ρ:Rho}{W W':World}{e:Env}{r:Nat}
theorem Jk.heap(h:Jk r W W'){o:Obj}(ho:W.heap[i]?=some o)(hi:EW o=false):W'.heap[i]?=some o:=by
 have hlt:=Zz ho;by_cases e:i=r
 ·subst e
  rcases h.it with q|⟨o1,o2,q1,q2,_⟩
  ·omega
  ·rw[q1]at ho;simp only[oJ]at ho;subst ho;rw[q2]at hi;simp at hi
 ·rw[h.blk i hlt e];exact ho
theorem Jk.cell(h:Jk r W W'){a:Addr}{v:Value}(hv:W.cell? a=some v):W'.cell? a=some v:=by
 unfold World.cell? at hv ⊢;cases ho:W.heap[a.block]? with
 | none=>rw[ho]at hv;simp at hv
 | some o =>
  rw[ho]at hv;cases o<;>simp at hv;rename_i c t f;rw[h.heap ho rfl];simpa using hv
theorem Jk.frozen(h:Jk r W W'){a:Addr}(hv:(W.cell? a).isSome=true):W'.frozen? a=W.frozen? a:=by
 unfold World.cell? at hv;cases ho:W.heap[a.block]? with
 | none=>rw[ho]at hv;simp at hv
 | some o =>
  rw[ho]at hv;cases o<;>simp at hv;rename_i c t f;unfold World.frozen?;rw[h.heap ho rfl,ho]
theorem Rel.jk(h:Rel W0 B0 st ρ W)(hj:Jk r W W')(hr:B0.n<=r):Goes W0 B0 st ρ W st ρ W':=by
 have hle:∀m,(cx st ρ W m).le (cx st ρ W' m):=fun m=>⟨fun b o v q=>⟨hj.cell q.1,q.2⟩,fun _ _ _ _ _ _ q=>q,fun _ _ _ _ _ _ q=>q,fun _ _ _ q=>q,fun _ _ _ q=>q⟩
 have hb0:=h.b0;have hbel:BelowS B0 W0 W':=by
  refine h.below.trans ⟨⟨hj.os,hj.tape,hj.output,hj.size,fun i hi=>hj.blk i (by omega) (by omega)⟩,fun i ob hi hs=>hj.heap hi (by cases ob<;>simp_all [JV,EW])⟩
 refine⟨⟨hbel,Nat.le_trans h.b0 hj.size,h.yl,?_,h.sep,?_,h.msep⟩,⟨rfl,fun m _=>hle m,fun _ r h=>⟨r,h,rfl,fun _=>rfl⟩,rfl,fun _=>rfl,rfl⟩⟩
 ·intro lv ix w ver es hg
  obtain⟨a1,a2,a3⟩:=h.arr lv ix w ver es hg;refine⟨a1,fun i e he=>?_,fun j hj'=>?_⟩
  ·obtain⟨x,h1,h2,h3⟩:=a2 i e he
   exact⟨x,h1.mono (hle lv),h2,h3.mono fun _ _ _=>hj.cell⟩
  ·obtain⟨m1,m2,m3⟩:=a3 j hj'
   obtain⟨u,hu⟩:=Option.isSome_iff_exists.1 m2;exact⟨m1,by rw[hj.cell hu];rfl,by rw[hj.frozen m2];exact m3⟩
 ·intro lv ix es hg
  obtain⟨m1,en,clock,m2,m3,m4⟩:=h.map lv ix es hg;refine⟨m1,en,clock,hj.heap m2 Y,m3,fun i k v hk=>?_⟩;obtain⟨n1,x,n2,n3,n4⟩:=m4 i k v hk;exact⟨n1,x,n2,n3.mono (hle lv),n4.mono (hle lv)⟩
theorem Jk.trans{W W1 W2:World}{r:Nat}(hr:W.heap.size<=r)(h:Jk r W W1)(k:Jk r W1 W2):Jk r W W2 :=
 ⟨k.os.trans h.os,k.tape.trans h.tape,k.output.trans h.output,Nat.le_trans h.size k.size,fun i hi hne=>(k.blk i (Nat.lt_of_lt_of_le hi h.size) hne).trans (h.blk i hi hne),.inl hr⟩
theorem Jk.step{w1:World}(h1:w1=W\/w1=W.drew){o o':Obj}(ho:W.heap[r]?=some o)(hi:EW o=true)(hi':EW o'=true):Jk r W (setBlock w1 r o'):=by
 have hh:w1.heap=W.heap:=by rcases h1 with rfl|rfl<;>rfl
 have hlt:=Zz ho;refine⟨by rcases h1 with rfl|rfl<;>rfl,by rcases h1 with rfl|rfl<;>rfl,by rcases h1 with rfl|rfl<;>rfl,by simp[setBlock,hh],fun i hi hne=>?_,.inr ⟨o,o',ho,hi,?_,hi'⟩⟩
 ·simp only[setBlock,hh]
  rw[Array.getElem?_setIfInBounds,if_neg (fun q=>hne q.symm)]
 ·simp only[setBlock,hh]
  rw[Array.getElem?_setIfInBounds,if_pos rfl,if_pos hlt]
theorem EX{ops:Array Oper}{o:Oper}{Q:Exit->Act->World->Prop}{K:Act->World->Prop}{x:Value}(ho:ops[i]?=some o)(hg:o.guard=none)(hnd:∀c,o.op≠.defer c)
 (hrun:(execOp a.eval o).run P W=.ok (.value x) W') (hK:K (a.put o.dst x) W'):wpOpIn (fen none) 0 P ops Q i K a W:=by
 unfold wpOpIn;have hw:Region.wanted o (yielded ops a.tmps)=true:=by unfold Region.wanted;rw[hg]
 simp only[ho,hw,if_true];refine⟨fun _ _=>trivial,?_⟩;rw[Oper.semAt_eq _ _ _ hnd,hrun];exact hK
theorem S9{o:Oper}{t k el:TypeId}{m:Operand}(hop:o.op=.range t m)(ht:P.underlying t=some (.map k el)){b:Nat}{en:Array MapEntry}(hm:a.eval m=.map (some b))(hb:W.heap[b]?=some (.map en clock)):
 (execOp a.eval o).run P W=.ok (.value (.pointer (some ⟨W.heap.size,0,none⟩))) (W.alloc (.mapIter (some b) clock #[] clock)):=by
 simp only[execOp,hop,Instr.range,hm,Sem.run_bind,Zh ht,Result.andThen_ok,XS hb,Sem.run_pure];rfl
def Aa(en:Array MapEntry)(seen:Array Nat):List MapEntry:=(leftOf en seen).toList
theorem run_nextOp{o:Oper}{it:Operand}(hop:o.op=.next it false){r bm c0:Nat}{seen:Array Nat}{en:Array MapEntry}(hit:a.eval it=.pointer (some ⟨r,0,none⟩))
 (hr:W.heap[r]?=some (.mapIter (some bm) clock seen c0)) (hb:W.heap[bm]?=some (.map en clock)) (hf:MapFit en clock n) (hc:clock<=c0) :
 (Aa en seen=[]/\(execOp a.eval o).run P W=.ok (.value (.tuple #[.bool false])) W) \/
 ∃x∈Aa en seen,∃w1:World,(w1=W\/w1=W.drew)/\(execOp a.eval o).run P W=.ok (.value (.tuple #[.bool true,x.key,x.val])) (setBlock w1 r (.mapIter (some bm) clock (seen.push x.born) clock)):=by
 rcases run_next_at (P:=P) W o.type r bm clock c0 seen en clock hr hb hf.lt hc with⟨h1,h2⟩|⟨x,hx,w1,hw,h2⟩
 ·refine .inl ⟨List.eq_nil_of_length_eq_zero (by simpa [Aa] using h1),?_⟩
  simp only[execOp,hop,hit];exact Xs h2
 ·refine .inr ⟨x,hx,w1,hw,?_⟩
  simp only[execOp,hop,hit];exact Xs h2
theorem NS{o:Oper}{it:Operand}(hop:o.op=.entry it){r bm:Nat}{seen:Array Nat}{en:Array MapEntry}{x:MapEntry}(hit:a.eval it=.pointer (some ⟨r,0,none⟩))
 (hr:W.heap[r]?=some (.mapIter (some bm) clock (seen.push x.born) clock)) (hb:W.heap[bm]?=some (.map en clock)) (hf:MapFit en clock n) (hx:x∈en.toList) :
 (execOp a.eval o).run P W=.ok (.value (.tuple #[x.key,x.val])) W:=by
 simp only[execOp,hop,hit];exact Xs (run_entry_at W r bm clock seen en clock x hr hb hx hf.nd)
theorem S_(en:Array MapEntry):Aa en #[]=en.toList:=by
 simp[Aa,leftOf]
theorem Hs{en:Array MapEntry}{seen:Array Nat}{x:MapEntry}(h:x∈Aa en seen):x∈en.toList:=by
 simp only[Aa,leftOf,Array.toList_filter,List.mem_filter]at h;exact h.1
theorem NT{en:Array MapEntry}(hf:MapFit en clock n){seen:Array Nat}{x:MapEntry}(h:x∈Aa en seen):(Aa en seen).Perm (x::Aa en (seen.push x.born)):=by
 have key:∀(l:List MapEntry),(l.map (·.born)).Nodup->x∈l->(seen.contains x.born=false) ->
  (l.filter fun e=>!seen.contains e.born).Perm (x::l.filter fun e=>!(seen.push x.born).contains e.born):=by
  intro l;induction l with
  | nil=>intro _ h;simp at h
  | cons y l ih =>
   intro hn hx hs;simp only[jC,List.nodup_cons]at hn;have hc:∀z:MapEntry,(seen.push x.born).contains z.born=(seen.contains z.born || z.born == x.born):=by
    intro z;rw[Bool.eq_iff_iff];simp[or_comm]
   by_cases hyx:y=x
   ·subst hyx
    simp only[List.filter_cons,hs,Bool.not_false,if_true,hc,beq_self_eq_true,Bool.or_true,Bool.not_true,jB,if_false];refine .cons _ ?_;have:(l.filter fun e=>!seen.contains e.born)=l.filter fun e=>!(seen.contains e.born || e.born == y.born):=by
     apply List.filter_congr;intro z hz;have:z.born≠y.born:=fun q=>hn.1 (List.mem_map.2 ⟨z,hz,q⟩)
     simp[this]
    rw[this]
   ·have hx' : x ∈ l := by
     rcases List.mem_cons.1 hx with q|q
     ·exact absurd q.symm hyx
     ·exact q
    have hb:y.born≠x.born:=fun q=>hn.1 (List.mem_map.2 ⟨x,hx',q.symm⟩)
    have ih':=ih hn.2 hx' hs;simp only[hc]at ih' ⊢;simp only[List.filter_cons];have hyb:(y.born == x.born)=false:=by simpa using hb
    rw[hyb,Bool.or_false];split
    ·exact (List.Perm.cons _ ih').trans (.swap ..)
    ·exact ih'
 have hm:=h;simp only[Aa,leftOf,Array.toList_filter,List.mem_filter,Bool.not_eq_true']at hm;have:=key en.toList hf.nd hm.1 hm.2;simpa [Aa,leftOf] using this
end
section
variable {P:Program}{T:Tab}{O:Orc}{nt:Nat}{W0:World}{B0:Bse}{st st':St}{ρ:Rho}{W W':World}{e:Env}{r:Nat}
theorem Act.put_look{x:Value}(h:d<a.tmps.size):(a.put (some d) x).eval (.tmp d)=x:=by
 simp[Act.put,Act.eval,h]
theorem Act.put_other{t:Nat}{x:Value}(h:d≠t):(a.put (some d) x).eval (.tmp t)=a.eval (.tmp t):=by
 simp[Act.put,Act.eval,Array.getElem?_setIfInBounds,h]
theorem EY{o:Oper}{t:Operand}{k:Nat}{xs:Array Value}{x:Value}(hop:o.op=.extract t k)(ht:a.eval t=.tuple xs)(hx:xs[k]?=some x):(execOp a.eval o).run P W=.ok (.value x) W:=by
 simp[execOp,hop,ht,Instr.extract,hx,Sem.run]
def NU(W:World)(r:Nat):Array Nat:=match W.heap[r]? with|some (.mapIter _ _ s _)=>s|_=>#[]
structure Itr(W:World)(b r clock:Nat)(en:Array MapEntry)(seen:Array Nat):Prop where
 map:W.heap[b]?=some (.map en clock)
 it:∃c0,clock<=c0/\W.heap[r]?=some (.mapIter (some b) clock seen c0)
theorem Itr.seen{b:Nat}{en:Array MapEntry}{seen:Array Nat}(h:Itr W b r clock en seen):NU W r=seen:=by
 obtain⟨c0,_,h2⟩:=h.it;simp[NU,h2]
theorem TA{en:Array MapEntry}{b:Nat}(hf:MapFit en clock n){o3 o4:Oper}{it:Operand}{nx ok i6 id:Nat}{body:Code}{Q:Exit->Act->World->Prop}
 (h3:o3.op=.next it false) (g3:o3.guard=none) (d3:o3.dst=some nx) (h4:o4.op=.extract (.tmp nx) 0) (g4:o4.guard=none) (d4:o4.dst=some ok)
 (I:Array Nat->Act->World->Prop)
 (hI:∀seen a W,I seen a W->a.eval it=.pointer (some ⟨r,0,none⟩)/\nx<a.tmps.size/\ok<a.tmps.size/\Itr W b r clock en seen)
 (hdone:∀seen a W,I seen a W->Aa en seen=[]->Q .normal ((a.put (some nx) (.tuple #[.bool false])).put (some ok) (.bool false)) W)
 (hstep:∀seen a W x w1,I seen a W->x∈Aa en seen->(w1=W\/w1=W.drew)->Itr (setBlock w1 r (.mapIter (some b) clock (seen.push x.born) clock)) b r clock en (seen.push x.born) ->
  (setBlock w1 r (.mapIter (some b) clock (seen.push x.born) clock)).heap[r]?=some (.mapIter (some b) clock (seen.push x.born) clock)->Jk r W (setBlock w1 r (.mapIter (some b) clock (seen.push x.born) clock)) ->
  body.wpIn (fen none) 0 P (fun ex a2 W2=>ex=.normal/\I (seen.push x.born) a2 W2) ((a.put (some nx) (.tuple #[.bool true,x.key,x.val])).put (some ok) (.bool true)) (setBlock w1 r (.mapIter (some b) clock (seen.push x.born) clock)))
 {a:Act} (h0:I #[] a W):(Code.block id (.loop (.seq (.region i6 #[o3,o4] false) (.seq (.cond (.tmp ok) .skip (.exit id)) body)))).wpIn (fen none) 0 P Q a W:=by
 refine wpIn_block (wpIn_loop (fun a w=>∃seen,I seen a w) (fun _ w=>(Aa en (NU w r)).length) ⟨_,h0⟩ ?_);rintro a W ⟨seen,hi⟩;obtain⟨e1,e2,e3,e4⟩:=hI _ _ _ hi;obtain⟨c0,hc,hit⟩:=e4.it;refine wpIn_seq (wpIn_region ?_);show wpOpsIn (fen none) 0 P #[o3,o4] _ [0,1] a W
 rw[wpOpsIn_cons];have nd3:∀c,o3.op≠.defer c:=fun c q=>by rw[h3]at q;simp at q
 have nd4:∀c,o4.op≠.defer c:=fun c q=>by rw[h4]at q;simp at q
 rcases run_nextOp (P:=P) h3 e1 hit e4.map hf hc with⟨k1,k2⟩|⟨x,hx,w1,hw,k2⟩
 ·refine EX (o:=o3) Y g3 nd3 k2 ?_
  rw[wpOpsIn_cons,d3];refine EX (o:=o4) Y g4 nd4 (EY h4 (Act.put_look e2) (x:=.bool false) Y) ?_;rw[d4];show Code.wpIn _ _ _ _ _ _ _
  refine wpIn_seq (wpIn_cond_false (Act.put_look (by simpa [Act.put] using e3)) (wpIn_exit ?_));show Exit.inBlock id Q (.exit id) _ _
  simp only[Exit.inBlock,if_true];exact hdone _ _ _ hi k1
 ·refine EX (o:=o3) Y g3 nd3 k2 ?_
  rw[wpOpsIn_cons,d3];refine EX (o:=o4) Y g4 nd4 (EY h4 (Act.put_look e2) (x:=.bool true) Y) ?_;rw[d4];show Code.wpIn _ _ _ _ _ _ _
  refine wpIn_seq (wpIn_cond_true (Act.put_look (by simpa [Act.put] using e3)) (wpIn_skip ?_));show Code.wpIn _ _ _ _ _ _ _
  have hjk:=Jk.step (W:=W) hw hit rfl (o':=.mapIter (some b) clock (seen.push x.born) clock) rfl;have hnew:(setBlock w1 r (.mapIter (some b) clock (seen.push x.born) clock)).heap[r]?=some (.mapIter (some b) clock (seen.push x.born) clock):=by
   have hlt:=Zz hit;have hh:w1.heap=W.heap:=by rcases hw with rfl|rfl<;>rfl
   simp[setBlock,hh,hlt]
  refine wpIn_mono (hstep seen a W x w1 hi hx hw ⟨hjk.heap e4.map Y,clock,Nat.le_refl _,hnew⟩ hnew hjk) ?_;rintro ex a2 W2 ⟨rfl,h2⟩;refine⟨⟨_,h2⟩,?_⟩;rw[(hI _ _ _ h2).2.2.2.seen,e4.seen,(NT hf hx).length_eq];simp
end
structure OpIs(o:Oper)(op:Op)(d:Nat):Prop where
 op:o.op=op
 gd:o.guard=none
 dst:o.dst=some d
theorem YF{P:Program}{W W':World}{ops:Array Oper}{o:Oper}{op:Op}{Q:Exit->Act->World->Prop}{K:Act->World->Prop}{x:Value}(h:OpIs o op d)(ho:ops[i]?=some o)(hnd:∀c,op≠.defer c)
 (hrun:(execOp a.eval o).run P W=.ok (.value x) W') (hK:K (a.put (some d) x) W'):wpOpIn (fen none) 0 P ops Q i K a W :=
 EX ho h.gd (fun c q=>hnd c (h.op.symm.trans q)) hrun (by rw[h.dst];exact hK)
section
variable {P:Program}{W0:World}{B0:Bse}{st st':St}{ρ:Rho}{W W':World}{e:Env}{a:Act}
theorem Jb{o:Oper}{x:Operand}(hop:o.op=.move x\/o.op=.assign x):(execOp a.eval o).run P W=.ok (.value (a.eval x)) W:=by
 rcases hop with h|h<;>simp[execOp,h]
end
section
variable {P:Program}{T:Tab}{O:Orc}{nt:Nat}{W0:World}{B0:Bse}{st st':St}{ρ:Rho}{W W':World}{e:Env}{r:Nat}
theorem CodeOk.seq{d:Code}{F G:Run}(h:CodeOk none P O nt W0 B0 c F)(k:CodeOk none P O nt W0 B0 d G):CodeOk none P O nt W0 B0 (.seq c d) (fun e st=>(F e st).bind (JB G)):=by
 intro e st ρ W a r Q hx hr he hn hQ;simp only[oB]at hx;obtain⟨⟨xx,e1,st1⟩,hx1,hx2⟩:=hx;refine wpIn_seq (h e st ρ W a (xx,e1,st1) _ hx1 hr he hn ?_);intro a' ρ' W' g he' hs' hd';cases xx with
 | norm=>exact k e1 st1 ρ' W' a' r Q hx2 g.rel he' (by omega) (hQ.after g hs' hd')
 | ex id=>simp only[JB,oJ]at hx2;subst hx2;exact hQ a' ρ' W' g he' hs' hd'
 | ret=>simp only[JB,oJ]at hx2;subst hx2;exact hQ a' ρ' W' g he' hs' hd'
theorem TB(hm:P.follows .mixedOrders=true)(hT:TabOk P T){hs hs':List Hint}{pc:PC}(hc:YA P nt hs c=some (pc,hs'))(hg:KG P W0 B0):CodeOk none P (S T) nt W0 B0 c (exec (S T) itS pc):=by
 intro e st ρ W a r Q hx hr he hn hQ;obtain⟨n,hx⟩:=Dw hx;exact exec_ok (ro:=none) (By hm (K:=fun _ _=>True) hT.y n) ⟨trivial,hg⟩ hm n c hs hs' pc hc e st ρ W a r Q hx hr he hn hQ
def fnO(F:Run)(rs:List RV):LV->St->OS:=fun args st=>(F (QB 0 args) st.push).bind (QT false rs)
theorem Zvd{f:FuncId}{fn:Func}{F:Run}{rs:List RV}(hf:P.funcs[f]?=some fn)(hb:fn.body=some c)(hF:∀W0 B0,KG P W0 B0->CodeOk none P O fn.ntmps W0 B0 c F)(hX:FrX F)
 (hrs:fn.results.toList.mapM (Bc P)=some rs):Bf P f (.base (fnO F rs)):=by
 refine⟨fun args=>SR hX _ rs,?_⟩;intro args st v st' h W0 B0 ρ W xs hg hr hx;have h:(F (QB 0 args) st.push).bind (QT false rs)=some (v,st'):=h;simp only[oB]at h;obtain⟨⟨ex,e1,st1⟩,hex,hend⟩:=h;refine (callsIn_wide (n:=0)).1 (callsIn_of_wp_marks (F:=.wide) hf hb trivial ?_);have hsz:fn.ntmps<=(xs.toArray++Array.replicate (fn.ntmps-xs.toArray.size) Go.undef).size:=by simp;omega
 have hpl:st.push.A.length=st.A.length+1:=by simp[St.push]
 have hpush:=Sub.push st
 refine hF W B0 (hg.rel hr) (QB 0 args) st.push ρ W { tmps:=xs.toArray++Array.replicate (fn.ntmps-xs.toArray.size) Go.undef,defers:=[] } (ex,e1,st1) _ hex (hpush.rel hr).rebase
  ((FU ((hx.mono (hpush.cx (Nat.le_refl _))).mono (Bd (by omega))) _)) hsz ?_
 intro a' ρ' W' g he' _ hd';have key:(QE st1 e1 rs).bind (AY st1)=some (v,st')->LeavesInM .wide 0 P fn a'.tmps (fun e W'=>∃x ρ',e=.returned x/\Goes W0 B0 st ρ W st' ρ' W'/\QAbs.R (cx st' ρ' W' st'.A.length) v x) a'.defers .returning W':=by
  intro hend;rw[hd'];simp only[oB,AY,Je,Ar,oJ,jP]at hend;obtain⟨v0,hv,⟨v1,st2⟩,hseal,⟨A',r0⟩,hpop,rfl,rfl⟩:=hend;obtain⟨x,hx,hxv⟩:=FT hrs hv g.rel he';have hl1:st1.A.length=st.A.length+1:=by rw[g.ev.len,hpl]
  obtain⟨g2,hv2⟩:=X8 Zs st1.A.length st1 v0 x v1 st2 g.rel (by omega) hxv hseal;obtain⟨g3,hle⟩:=C9 g2.rel (g.ev.trans g2.ev) hpop;refine⟨x,hx,x,ρ',rfl,⟨g3.rel.base (hr.below.trans g3.rel.below),g3.ev⟩,?_⟩;rw[hl1]at hv2;have hl3:(⟨A',r0.1,r0.2⟩:St).A.length=st.A.length:=g3.ev.len;rw[hl3];exact R.mono (show QAbs.R (cx st2 ρ' W' st.A.length) v1 x from hv2) hle
 cases ex with
 | norm=>exact key (by simpa [QT] using hend)
 | ret=>exact key (by simpa [QT] using hend)
 | ex id=>simp[QT]at hend
end
end Go.QAbs
namespace Go.Q15
open Go Go.QAbs
open Go.ChangeMaps (setBlock)
variable {v:AV}{a:Act}{ro:Bool}{c:Code}{e:Env}{g most:Int}{A:List (Bool × List Blk)}{es:LV}{bs:List Blk}{clock d i ix j n ver w:Nat}{O:Orc}{P:Prop}{st:St}
def hAV(h:H64):AV:=.int .u64 (h.val:Int)
def Cc(p:Int->Bool)(x:MapEntry):Option H64:=match x.key,x.val with
 | .int _ h,.int _ n=>if p n=true then some ⟨h.toNat % 18446744073709551616,Nat.mod_lt _ (by decide)⟩ else none
 | _,_=>none
def B6(p:Int->Bool):List (AV × AV)->Option (List H64)
 | []=>some []
 | (.int .u64 h,.int .i64 n)::l=>if hh:0<=h/\h<18446744073709551616 then (B6 p l).map fun r=>if p n=true then ⟨h.toNat,by omega⟩::r else r else none
 | _::_=>none
def EntH(x:MapEntry):Prop:=∃(h:H64) (n:Int),x.key=encH h/\x.val=.int .i64 n
theorem TC{p:Int->Bool}{x:MapEntry}{h:H64}{n:Int}(hk:x.key=encH h)(hv:x.val=.int .i64 n):Cc p x=if p n=true then some h else none:=by
 unfold Cc;rw[hk,hv];show (if p n=true then some (⟨((h.val:Nat):Int).toNat % 18446744073709551616,_⟩:H64) else none)=_
 have:(⟨((h.val:Nat):Int).toNat % 18446744073709551616,Nat.mod_lt _ (by decide)⟩:H64)=h:=by
  apply Fin.ext;have:=h.isLt;show ((h.val:Nat):Int).toNat % 18446744073709551616=h.val
  rw[Int.toNat_natCast];omega
 rw[this]
theorem TD{C:Cx}{p:Int->Bool}:∀ {es:List (AV × AV)} {l:List MapEntry} {ks:List H64},EntR C es l->B6 p es=some ks->l.filterMap (Cc p)=ks/\∀x∈l,EntH x
 | [],l,ks,h,hs=>by
  have:l=[]:=List.eq_nil_of_length_eq_zero h.1.symm;subst this;simp only[B6,oJ]at hs;exact⟨by simpa using hs,by simp⟩
 | (k,v)::es,[],ks,h,hs=>by have:=h.1;simp at this
 | (k,v)::es,x::l,ks,h,hs=>by
  unfold B6 at hs;split at hs
  ·rename_i e;simp at e
  ·rename_i hh n l' e
   simp only[List.cons.injEq,jP]at e;obtain⟨⟨rfl,rfl⟩,rfl⟩:=e;split at hs
   ·rename_i hb
    simp only[oM]at hs;obtain⟨r,hr,hs⟩:=hs;obtain⟨i1,i2⟩:=TD (C:=C) (es:=es) (l:=l) h.tail hr;obtain⟨_,hk,hv⟩:=h.2 0 _ _ x rfl rfl;have hk:=Jf hk;have hv:=Jf hv;have hk2:x.key=encH ⟨hh.toNat,by omega⟩:=by rw[hk];show Value.int .u64 hh=Value.int .u64 ((hh.toNat:Nat):Int);rw[Int.toNat_of_nonneg hb.1]
    refine⟨?_,fun y hy=>?_⟩
    ·rw[List.filterMap_cons,TC hk2 hv,i1]
     rw[<- hs];by_cases hp:p n=true
     ·rw[if_pos hp,if_pos hp]
     ·rw[if_neg hp,if_neg hp]
    ·rcases List.mem_cons.1 hy with rfl|hy
     ·exact⟨_,_,hk2,hv⟩
     ·exact i2 y hy
   ·simp at hs
  ·simp at hs
theorem TE{r:H64->H64->Prop}(anti:∀a b,r a b->r b a->a=b):∀ {l m:List H64},l.Perm m->l.Pairwise r->m.Pairwise r->l=m
 | [],m,h,_,_=>h.nil_eq
 | a::l,[],h,_,_=>by have:=h.length_eq;simp at this
 | a::l,b::m,h,h1,h2=>by
  rw[List.pairwise_cons]at h1 h2;have e:a=b:=by
   rcases List.mem_cons.1 (h.mem_iff.1 List.mem_cons_self) with e|ha
   ·exact e
   ·rcases List.mem_cons.1 (h.mem_iff.2 List.mem_cons_self) with e|hb
    ·exact e.symm
    ·exact anti a b (h1.1 b hb) (h2.1 a ha)
  subst e;rw[TE anti (List.Perm.cons_inv h) h1.2 h2.2]
theorem Ht{x y:H64}:leH x y=true↔¬ (y.val % 65536<x.val % 65536\/y.val % 65536=x.val % 65536/\y.val<x.val):=by
 unfold leH;rw[ltOfH,<- ltB_no];simp
theorem NV(l:List H64):(srtH l).Pairwise fun a b=>leH a b=true:=by
 unfold srtH;refine List.pairwise_mergeSort (fun a b c h1 h2=>?_) (fun a b=>?_) l
 ·rw[Ht]at *;omega
 ·simp only[Bool.or_eq_true,Ht];omega
theorem ZnQ{l m:List H64}(h:l.Perm m):srtH l=srtH m :=
 TE (r:=fun a b=>leH a b=true) (fun a b h1 h2=>by rw[Ht]at *;apply Fin.ext;omega) (((List.mergeSort_perm l leH).trans h).trans (List.mergeSort_perm m leH).symm) (NV l) (NV m)
theorem ZpO(l:List H64):(srtH l).length=l.length:=List.length_mergeSort ..
section
variable {P:Program}{T:Tab}{O:Orc}{nt:Nat}{W0:World}{B0:Bse}{st st':St}{ρ:Rho}{W W':World}{e:Env}{a:Act}{r:Nat}
theorem ZpP{o:Oper}{op:BinOp}{t yt:TypeId}{x y:Operand}{k:IntKind}{m n:Int}{b:Bool}(hop:o.op=.binOp op t x y yt)(hx:a.eval x=.int k m)(hy:a.eval y=.int k n)
 (h:AQ op (.int k m) (.int k n)=some (.bool b)):(execOp a.eval o).run P W=.ok (.value (.bool b)) W:=by
 let C:Cx:=⟨fun _ _ _=>True,fun _ _ _ _ _ _=>True,fun _ _ _ _ _ _=>True,fun _ _ _=>True,fun _ _ _=>True⟩
 obtain⟨z,hz,hv⟩:=O5 (P:=P) (W:=W) (t:=t) (ox:=x) (oy:=y) (C:=C) h (.int k m) (.int k n);have:=J1 (hv C);subst this;simp only[execOp,hop,hx,hy];exact Xs hz
theorem ZnR{o:Oper}{s x:Operand}{t:TypeId}{v v':Value}{ad:Addr}{m c:Nat}(ho:o.op=.call { callee:=.builtin .append,args:=#[s,x],argTypes:=#[t,t] })(hs:a.eval s=v)(hx:a.eval x=.slice (some ad) m c)
 (hr:(Builtin.append_ #[t,t] o.type #[v,.slice (some ad) m c]).run P W=.ok v' W'):(execOp a.eval o).run P W=.ok (.value v') W':=by
 unfold execOp;simp only[ho,resolve,invoke,builtin,Sem.run_bind,Sem.run_pure,Result.andThen_ok,List.map_toArray,jC,List.map_nil,hs,hx,hr]
theorem ZnS{ops:Array Oper}{o:Oper}{c:Call}{f:Operand}{g:FuncId}{Q:Exit->Act->World->Prop}{K:Act->World->Prop}(ho:ops[i]?=some o)(hg:o.guard=none)(hop:o.op=.call c)(hf:c.callee=.value f)(hv:a.eval f=.func (.func g) #[] #[])
 (hrun:∀(zs:Array Value) (W:World),(callFunc g zs).run P W=.ok (.enter g zs) W) (hC:Calls P g (c.args.toList.map a.eval).toArray W fun e W'=>∃x,e=.returned x/\K (a.put o.dst x) W'):wpOpIn (fen none) 0 P ops Q i K a W:=by
 unfold wpOpIn;have hw:Region.wanted o (yielded ops a.tmps)=true:=by unfold Region.wanted;rw[hg]
 have hnd:∀c,o.op≠.defer c:=fun c q=>by rw[hop]at q;simp at q
 simp only[ho,hw,if_true];refine⟨fun _ _=>trivial,?_⟩;rw[Oper.semAt_eq _ _ _ hnd,Rl (xs:=[]) (ys:=[]) hop hf hv hrun];refine⟨fun h=>absurd h (by simp[fen,Fence.wide]),?_⟩;refine (callsIn_wide (n:=0)).2 ?_;simp only[lE,lN];refine hC.mono ?_;rintro e' W' ⟨x,rfl,hk⟩;exact hk
theorem Zk4{W W':World}{r:Nat}{e:TypeId}{sz:Nat}{v:Value}{xs:List Value}(hj:Jk r W W')(h:W.ownsRow (r+1) e sz v n xs):W'.ownsRow (r+1) e sz v n xs:=by
 refine⟨h.1,?_⟩;rcases h.2 with q|⟨g,cap,cur,q1,q2,q3,q4,q5,q6,q7⟩
 ·exact .inl q
 ·exact .inr ⟨g,cap,cur,q1,q2,hj.heap q3 Y,q4,q5,q6,q7⟩
def toP(P:Program)(nt:Nat):Nat->List Hint->Code->Option ((PC × Code) × List Hint)
 | 0,hs,c=>some ((.skip,c),hs)
 | k+1,hs,.seq a b=>(YA P nt hs a).bind fun r=>(toP P nt k r.2 b).map fun q=>((.seq r.1 q.1.1,q.1.2),q.2)
 | _,_,_=>none
def BJ(O:Orc)(I:Run->Run)(X:Run)(pre:PC):Run:=fun e st=>(exec O I pre e st).bind (JB X)
theorem TF(hm:P.follows .mixedOrders=true)(hT:TabOk P T){X:Run}(hg:KG P W0 B0):∀(k:Nat) (c:Code) (hs hs':List Hint) (p1:PC) (x:Code),toP P nt k hs c=some ((p1,x),hs')->CodeOk none P (S T) nt W0 B0 x X ->
 CodeOk none P (S T) nt W0 B0 c (BJ (S T) itS X p1):=by
 intro k;induction k with
 | zero =>
  intro c hs hs' p1 x hc hX;simp only[toP,oJ,jP]at hc;obtain⟨⟨rfl,rfl⟩,rfl⟩:=hc;intro e st ρ W a r Q hx;refine hX e st ρ W a r Q ?_;simpa only [BJ,exec,oS,JB] using hx
 | succ k ih =>
  intro c hs hs' p1 x hc hX;cases c with
  | seq a b =>
   simp only[toP,oB,oM,jP]at hc;obtain⟨⟨pa,h1⟩,ha,⟨⟨q1,q2⟩,h2⟩,hy,⟨rfl,rfl⟩,rfl⟩:=hc;have:=(TB hm hT ha hg).seq (ih b h1 h2 q1 q2 hy hX);intro e st ρ W a r Q hx;refine this e st ρ W a r Q ?_;simp only[BJ,exec]at hx;rw[HH]at hx;exact hx
  | _=>simp[toP]at hc
theorem TG(hm:P.follows .mixedOrders=true)(hT:TabOk P T){X:Run}(hX:FrX X)(p1:PC):FrX (BJ (S T) itS X p1) :=
 CZ (EJ hm hT p1) fun x r hr=>DC hX hr
end
theorem Zsl(n:Int)(W:World):(Instr.buildSlice 37 1 #[(0,.int .u64 n)]).run Proofs.Tryz.prog W=.ok (.slice (some ⟨W.heap.size,0,none⟩) 1 1) (W.alloc (.cells #[.int .u64 n] 32)):=by
 have ht:Proofs.Tryz.prog.underlying 37=some (.slice 32):=by kernel_rfl
 have hs:=Proofs.Tryz.sizeOf32;have hz:=Proofs.Tryz.zeroValue32;simp only[Instr.buildSlice,Sem.run_bind,Zh ht,Result.andThen_ok,hs];rw[if_neg (by decide),if_neg (by decide)];simp only[Sem.run_bind,Sem.run_pure,Result.andThen_ok,hz];have hf:Instr.fill (fun i=>some (i*1,1)) (Array.map (fun x=>(Value.int IntKind.u64 0).cells[x % (Value.int IntKind.u64 0).cells.size]!) (Array.range (1*1))) [(0,Value.int IntKind.u64 n)]=some #[.int .u64 n]:=by
  first|rfl|kernel_rfl|simp[Instr.fill,Value.cells]
 rw[hf];simp[newRow]
theorem ZnT{o:Oper}{W:World}{x:Operand}{h:H64}(hop:o.op=.buildSlice 37 1 #[(0,x)])(hx:a.eval x=encH h):
 (execOp a.eval o).run Proofs.Tryz.prog W=.ok (.value (.slice (some ⟨W.heap.size,0,none⟩) 1 1)) (W.alloc (.cells #[encH h] 32)):=by
 simp only[execOp,hop,List.map_toArray,jC,List.map_nil,hx];exact Xs (Zsl _ W)
end Go.Q15
namespace Go.QAbs
variable {v:AV}{a:Act}{ro:Bool}{c:Code}{e:Env}{g most:Int}{A:List (Bool × List Blk)}{es:LV}{bs:List Blk}{clock d i ix j n ver w:Nat}{O:Orc}{P:Prop}{st:St}
abbrev St.ps(st:St):List (Bool × List Blk):=st.A++[(st.ro,st.L)]
def Qo:St->List (Nat × Nat)->List Blk->St
 | st,k::ks,b::bs=>Qo (st.upd k.1 k.2 b) ks bs
 | st,_,_=>st
def noH:Blk->Bool
 | .hole _=>false
 | _=>true
theorem NX{b:Blk}(h:noH b=true):vis (some b)=some b:=by cases b<;>first|rfl|simp[noH]at h
theorem Bm{o:Option Blk}{b:Blk}(h:vis o=some b):o=some b/\noH b=true:=by
 cases o with
 | none=>simp[vis]at h
 | some c=>cases c<;>simp[vis]at h<;>(subst h;exact⟨rfl,rfl⟩)
theorem Zsm{lv:Nat}{b:Blk}(h:st.get lv ix=some b):noH b=true:=by
 unfold St.get at h;split at h
 ·exact (Bm h).2
 ·cases hr:st.A[lv]? with
  | none=>rw[hr]at h;simp at h
  | some r=>rw[hr]at h;exact (Bm h).2
structure Cl(st:St)(ks:List (Nat × Nat))(bs:List Blk):Prop where
 nd:ks.Nodup
 len:bs.length=ks.length
 wr:∀k∈ks,st.wr k.1
 get:∀(j lv ix:Nat) (b:Blk),ks[j]?=some (lv,ix)->bs[j]?=some b->st.get lv ix=some b
theorem DN:∀(ks:List (Nat × Nat)) (st:St) (bs:List Blk),(Qo st ks bs).A.length=st.A.length
 | [],_,_=>rfl
 | _::_,_,[]=>rfl
 | k::ks,st,b::bs=>by rw[Qo,DN ks,St.upd_A]
theorem Cl.tail{k:Nat × Nat}{ks:List (Nat × Nat)}{b b':Blk}(h:Cl st (k::ks) (b::bs))(hb:noH b'=true):Cl (st.upd k.1 k.2 b') ks bs:=by
 have hg:=h.get 0 k.1 k.2 b rfl rfl;have hk:st.wr k.1:=h.wr k (by simp);have hnd:=List.nodup_cons.1 h.nd;refine⟨hnd.2,by have:=h.len;simpa using this,fun q hq=>St.wr_upd hk (h.wr q (by simp[hq])),fun j lv ix c h1 h2=>?_⟩;rw[St.get_upd hg (NX hb),if_neg,h.get (j+1) lv ix c h1 h2];rintro⟨rfl,rfl⟩;exact hnd.1 (jM h1)
theorem Cl.both:∀ {ks:List (Nat × Nat)} {st:St} {bs bs':List Blk},Cl st ks bs->bs'.length=ks.length->bs'.all noH=true ->
 (∀(j lv ix:Nat) (b:Blk),ks[j]?=some (lv,ix)->bs'[j]?=some b->(Qo st ks bs').get lv ix=some b)/\(∀(lv ix:Nat),(lv,ix)∉ks->(Qo st ks bs').get lv ix=st.get lv ix)
 | [],st,bs,bs',h,hl,_=>⟨fun j lv ix b h1=>by simp at h1,fun lv ix _=>by cases bs'<;>rfl⟩
 | k::ks,st,[],_,h,_,_=>by have:=h.len;simp at this
 | k::ks,st,b::bs,[],h,hl,_=>by simp at hl
 | k::ks,st,b::bs,b'::bs',h,hl,ha=>by
  simp only[List.all_cons,Bool.and_eq_true]at ha;have hg:=h.get 0 k.1 k.2 b rfl rfl;have hnd:=List.nodup_cons.1 h.nd;obtain⟨i1,i2⟩:=Cl.both (bs':=bs') (h.tail ha.1) (by simpa using hl) ha.2;rw[Qo];refine⟨fun j lv ix c h1 h2=>?_,fun lv ix hn=>?_⟩
  ·cases j with
   | zero =>
    simp only[List.getElem?_cons_zero,oJ]at h1 h2;subst h1 h2;rw[i2 _ _ hnd.1,St.get_upd hg (NX ha.1),if_pos ⟨rfl,rfl⟩]
   | succ j=>exact i1 j lv ix c h1 h2
  ·simp only[List.mem_cons,not_or]at hn
   rw[i2 _ _ hn.2,St.get_upd hg (NX ha.1),if_neg];rintro⟨rfl,rfl⟩;exact hn.1 Y
theorem Fk:∀ {ks:List (Nat × Nat)} {st:St} {bs:List Blk},(∀k∈ks,st.wr k.1)->∀ {lv:Nat},st.wr lv->(Qo st ks bs).wr lv
 | [],_,_,_,_,h=>h
 | _::_,_,[],_,_,h=>h
 | k::ks,st,b::bs,hk,lv,h=>by
  rw[Qo];exact Fk (fun q hq=>St.wr_upd (hk k (by simp)) (hk q (by simp[hq]))) (St.wr_upd (hk k (by simp)) h)
theorem Cl.put{ks:List (Nat × Nat)}{bs':List Blk}(h:Cl st ks bs)(hl:bs'.length=ks.length)(ha:bs'.all noH=true):Cl (Qo st ks bs') ks bs' :=
 ⟨h.nd,hl,fun k hk=>Fk h.wr (h.wr k hk),(h.both hl ha).1⟩
theorem Cl.out{ks:List (Nat × Nat)}{bs':List Blk}(h:Cl st ks bs)(hl:bs'.length=ks.length)(ha:bs'.all noH=true){lv:Nat}(hn:(lv,ix)∉ks):(Qo st ks bs').get lv ix=st.get lv ix:=(h.both hl ha).2 lv ix hn
theorem updU{lv:Nat}{b c:Blk}:(st.upd lv ix b).upd lv ix c=st.upd lv ix c:=by
 unfold St.upd;by_cases h:lv=st.A.length
 ·simp only[if_pos h,List.set_set]
 ·simp only[if_neg h,List.length_set]
  rcases Nat.lt_or_ge lv st.A.length with q|q
  ·simp only[List.set_set,List.getElem?_set,if_true,if_pos q,Option.getD_some,Bk]
  ·simp only[List.set_eq_of_length_le q]
theorem updC{l1 i1 l2 i2:Nat}{b c:Blk}(h:¬ (l1=l2/\i1=i2)):(st.upd l1 i1 b).upd l2 i2 c=(st.upd l2 i2 c).upd l1 i1 b:=by
 unfold St.upd;by_cases h1:l1=st.A.length
 ·by_cases h2:l2=st.A.length
  ·have hi:i1≠i2:=fun q=>h ⟨h1.trans h2.symm,q⟩
   simp only[if_pos h1,if_pos h2];rw[List.set_comm _ _ hi]
  ·simp only[if_pos h1,if_neg h2,List.length_set]
 ·by_cases h2:l2=st.A.length
  ·simp only[if_neg h1,if_pos h2,List.length_set]
  ·simp only[if_neg h1,if_neg h2,List.length_set]
   by_cases e:l1=l2
   ·subst e
    have hi:i1≠i2:=fun q=>h ⟨rfl,q⟩
    rcases Nat.lt_or_ge l1 st.A.length with q|q
    ·simp only[List.set_set,List.getElem?_set,if_true,if_pos q,Option.getD_some,Bk]
     rw[List.set_comm _ _ hi]
    ·simp only[List.set_eq_of_length_le q]
   ·rw[jS e,jS (fun q=>e q.symm),List.set_comm _ _ e]
theorem updS{lv:Nat}{b:Blk}(h:st.get lv ix=some b):st.upd lv ix b=st:=by
 unfold St.upd;by_cases q:lv=st.A.length
 ·rw[if_pos q]
  rw[St.get,if_pos q]at h;have h2:=(Bm h).1;obtain⟨h3,h4⟩:=List.getElem?_eq_some_iff.1 h2;subst h4;rw[List.set_getElem_self h3]
 ·rw[if_neg q]
  rw[St.get,if_neg q]at h;cases hr:st.A[lv]? with
  | none=>rw[hr]at h;simp at h
  | some r =>
   rw[hr]at h;have h2:=(Bm h).1;obtain⟨h3,h4⟩:=List.getElem?_eq_some_iff.1 h2;have e1:r.2.set ix b=r.2:=by subst h4;exact List.set_getElem_self h3
   simp only[Option.getD_some,Bk,e1];rw[show (r.1,r.2)=r from rfl];obtain⟨h5,h6⟩:=List.getElem?_eq_some_iff.1 hr;subst h6;rw[List.set_getElem_self h5]
theorem NY:∀ {ks:List (Nat × Nat)} {st:St} {bs:List Blk} {lv ix:Nat} {b:Blk},(lv,ix)∉ks->(Qo st ks bs).upd lv ix b=Qo (st.upd lv ix b) ks bs
 | [],_,_,_,_,_,_=>rfl
 | _::_,_,[],_,_,_,_=>rfl
 | k::ks,st,c::bs,lv,ix,b,hn=>by
  simp only[List.mem_cons,not_or]at hn;rw[Qo,Qo,NY hn.2,updC];rintro⟨rfl,rfl⟩;exact hn.1 Y
theorem Bn:∀ {ks:List (Nat × Nat)} {st:St} {bs:List Blk} {j lv ix:Nat} {b:Blk},ks.Nodup->bs.length=ks.length->ks[j]?=some (lv,ix)->(Qo st ks bs).upd lv ix b=Qo st ks (bs.set j b)
 | [],_,_,_,_,_,_,_,_,h=>by simp at h
 | _::_,_,[],_,_,_,_,_,hl,_=>by simp at hl
 | k::ks,st,c::bs,j,lv,ix,b,hd,hl,h=>by
  have hnd:=List.nodup_cons.1 hd;cases j with
  | zero =>
   simp only[List.getElem?_cons_zero,oJ]at h;subst h;rw[Qo,NY hnd.1,updU];rfl
  | succ j =>
   rw[Qo,Bn hnd.2 (by simpa using hl) h];rfl
theorem TH:∀ {ks:List (Nat × Nat)} {st:St} {b1 b2:List Blk},ks.Nodup->b1.length=ks.length->b2.length=ks.length->Qo (Qo st ks b1) ks b2=Qo st ks b2
 | [],_,b1,b2,_,h1,h2=>by cases b1<;>cases b2<;>rfl
 | _::_,_,[],_,_,h,_=>by simp at h
 | _::_,_,_::_,[],_,_,h=>by simp at h
 | k::ks,st,c::b1,d::b2,hd,h1,h2=>by
  have hnd:=List.nodup_cons.1 hd;rw[Qo,Qo,NY hnd.1,updU,TH hnd.2 (by simpa using h1) (by simpa using h2),Qo]
theorem Cl.same:∀ {ks:List (Nat × Nat)} {st:St} {bs:List Blk},Cl st ks bs->Qo st ks bs=st
 | [],_,bs,_=>by cases bs<;>rfl
 | _::_,_,[],h=>rfl
 | k::ks,st,b::bs,h=>by
  have hg:=h.get 0 k.1 k.2 b rfl rfl;have:=(h.tail (Zsm hg)).same;rw[Qo];rw[updS hg]at this ⊢;exact this
theorem TI:∀ {ks:List (Nat × Nat)} {st:St} {bs:List Blk} {A:List (Bool × List Blk)} {ro:Bool} {L:List Blk},A=st.ps->(∀k∈ks,k.1<=st.A.length)->Qo ⟨A,ro,L⟩ ks bs=⟨(Qo st ks bs).ps,ro,L⟩
 | [],st,bs,A,ro,L,hA,_=>by cases bs<;>rw[hA]<;>rfl
 | _::_,st,[],A,ro,L,hA,_=>by rw[hA];rfl
 | k::ks,st,b::bs,A,ro,L,hA,hk=>by
  rw[Qo,JE hA (hk k (by simp)),TI (st:=st.upd k.1 k.2 b) rfl (fun q hq=>by rw[St.upd_A];exact hk q (by simp[hq]))];rfl
theorem Cl.le{ks:List (Nat × Nat)}(h:Cl st ks bs):∀k∈ks,k.1<=st.A.length:=by
 intro k hk;obtain⟨j,hj,rfl⟩:=List.getElem_of_mem hk;have hj2:j<bs.length:=by rw[h.len];exact hj
 exact St.get_le (h.get j _ _ bs[j] (by rw[jE hj]) (by rw[jE hj2]))
theorem Cl.push{ks:List (Nat × Nat)}{L:List Blk}(hA:A=st.ps)(h:Cl st ks bs):Cl ⟨A,ro,L⟩ ks bs :=
 ⟨h.nd,h.len,fun k hk=>Yj hA (h.le k hk) (h.wr k hk),fun j lv ix b h1 h2=>ZD hA (h.get j lv ix b h1 h2)⟩
theorem Cl.old{ks:List (Nat × Nat)}{b0:List Blk}{L:List Blk}(H:Cl st ks b0)(hA:A=(Qo st ks bs).ps)(hl:bs.length=ks.length)(ha:bs.all noH=true){lv:Nat}{b:Blk}(hj:ks[j]?=some (lv,ix))(hb:bs[j]?=some b):St.get ⟨A,ro,L⟩ lv ix=some b :=
 ZD hA ((H.put hl ha).get j lv ix b hj hb)
section
variable {O:Orc}{k:List Fr}{Q:JD}{e:Env}{A:List (Bool × List Blk)}{L:List Blk}{keep:List Nat}{is:List PI}{d:Nat}{st:St}{ks:List (Nat × Nat)}{b0 bs:List Blk}
theorem Cd{a x:Opd}{lv o:Nat}{v' y:AV}(H:Cl st ks b0)(hA:A=(Qo st ks bs).ps)(hl:bs.length=ks.length)(hn:bs.all noH=true)(hj:ks[j]?=some (lv,ix))(hb:bs[j]?=some (.arr w ver es))
 (ha:ZL e a=some (.ptr lv ix ver i o)) (hx:ZL e x=some v) (hy:es[i]?=some y) (hs:ZI Zs (lv+1) ⟨A,false,L⟩ v=some (v,⟨A,false,L⟩)) (hv:(Q7 w y o n v).bind Yi=some v')
 (h:∀A',A'=(Qo st ks (bs.set j (.arr w ver (es.set i v')))).ps->A'.length=A.length->Is O is keep k Q e ⟨A',false,L⟩):Is O (⟨none,none,false,.st n a x⟩::is) keep k Q e ⟨A,false,L⟩:=by
 have hP:=H.put hl hn;refine Cb hA ha hx (hP.wr (lv,ix) (jM hj)) (hP.get j lv ix _ hj hb) hy hs hv (fun A' hA'=>?_);rw[Bn H.nd hl hj]at hA';refine h A' hA' ?_;rw[hA',hA];simp[DN]
theorem ZpR{kk:Nat}{x i v:Opd}{lv:Nat}{ki:AV}{w:AV}{es es':List (AV × AV)}(H:Cl st ks b0)(hA:A=(Qo st ks bs).ps)(hl:bs.length=ks.length)(hn:bs.all noH=true)(hj:ks[j]?=some (lv,ix))(hb:bs[j]?=some (.map es))
 (hx:ZL e x=some (.map lv ix)) (hi:ZL e i=some ki) (hki:Jh kk ki=true) (hv:ZL e v=some w) (hs:ZI Zs (lv+1) ⟨A,false,L⟩ w=some (w,⟨A,false,L⟩)) (hp:AE ki w es=some es')
 (h:∀A',A'=(Qo st ks (bs.set j (.map es'))).ps->A'.length=A.length->Is O is keep k Q e ⟨A',false,L⟩):Is O (⟨none,none,false,.mupd kk x i v⟩::is) keep k Q e ⟨A,false,L⟩:=by
 have hP:=H.put hl hn;have hg:=hP.get j lv ix _ hj hb;have hw:=hP.wr (lv,ix) (jM hj);have hle:=St.get_le hg;refine Zm (od:=none) (v:=.undef) (st':=St.upd ⟨A,false,L⟩ lv ix (.map es')) ?_ ?_
 ·simp only[ZW,evalPO,ZB hx,ZB hi,ZB hv,BN,hki,if_true,hs,oS,BY,ZD hA hg,AA,hp,St.put_upd (Yj hA hle hw) (ZD hA hg),AF]
 ·rw[JE hA hle]
  refine h _ ?_ ?_
  ·rw[Bn H.nd hl hj]
  ·rw[hA];simp[DN,St.upd_A]
theorem NZ{s x:Opd}{lv bytes:Nat}{ys:LV}{vx:AV}(H:Cl st ks b0)(hA:A=(Qo st ks bs).ps)(hl:bs.length=ks.length)(hn:bs.all noH=true)(hj:ks[j]?=some (lv,ix))(hb:bs[j]?=some (.arr w ver es))
 (hs:ZL e s=some (.ref lv ix ver 0 es.length)) (hx:ZL e x=some vx) (hy:elems ⟨A,false,L⟩ vx=some ys) (hw:Qy w ys=true) (hsl:mapSt (ZI Zs (lv+1)) ⟨A,false,L⟩ ys=some (ys,⟨A,false,L⟩)) (hlen:es.length+ys.length<4294967296) (hby:bytes<=4096)
 (h:∀A',A'=(Qo st ks (bs.set j (.arr w (ver+1) (es++ys)))).ps->A'.length=A.length->Is O is keep k Q ((d,.ref lv ix (ver+1) 0 (es.length+ys.length))::e) ⟨A',false,L⟩) :
 Is O (⟨some d,none,false,.app w bytes s x⟩::is) keep k Q e ⟨A,false,L⟩:=by
 have hP:=H.put hl hn;have hg:=hP.get j lv ix _ hj hb;have hwr:=hP.wr (lv,ix) (jM hj);have hlv:=St.get_le hg;refine Zm (v:=.ref lv ix (ver+1) 0 (es.length+ys.length)) (st':=St.upd ⟨A,false,L⟩ lv ix (.arr w (ver+1) (es++ys))) ?_ ?_
 ·have hg':=ZD hA (ro:=false) (L:=L) hg
  have hw':=Yj hA hlv hwr (ro:=false) (L:=L);simp only[ZW,evalPO,ZB hs,ZB hx,hy,oS,Q8,hw,if_true,hsl,BX,hg',Ag,true_and,if_pos (show 0+es.length<=es.length/\es.length+ys.length<4294967296/\bytes<=4096 by omega),List.drop_zero];rw[List.take_of_length_le (by omega),St.put_upd hw' hg'];rfl
 ·rw[JE hA hlv]
  refine h _ ?_ ?_
  ·rw[Bn H.nd hl hj]
  ·rw[hA];simp[DN,St.upd_A]
end
end Go.QAbs
namespace Go.Q15
open Go Go.QAbs
variable {v:AV}{a:Act}{ro:Bool}{c:Code}{e:Env}{g most:Int}{A:List (Bool × List Blk)}{es:LV}{bs:List Blk}{clock d i ix j n ver w:Nat}{O:Orc}{P:Prop}{st:St}
def tl:List (FuncId × Ent):=(Zp,.base (DE 4))::NQ
def Tb:Tab:=Xt tl
structure Mea where
 b:Int
 r:Int
 l:Int
deriving DecidableEq
def Mea.zero:Mea:=⟨0,0,0⟩
def Mea.add(x y:Mea):Mea:=⟨x.b+y.b,x.r+y.r,x.l+y.l⟩
def Mea.av(m:Mea):AV:=.agg [.int .i64 m.b,.int .i64 m.r,.int .i64 m.l]
def Ce(b:UInt8):Bool:=b.toNat<128 || 191<b.toNat
def EZ(b:UInt8):Bool:=b.toNat == 10
def YZ(s:B8):Mea:=⟨s.length,s.countP Ce,s.countP EZ⟩
theorem ZUG(s t:B8):YZ (s++t)=(YZ s).add (YZ t):=by
 simp[YZ,Mea.add]
theorem Zsn(b:UInt8)(st:St):S Tb Hn [.int .u8 b.toNat] st=some (.bool true,st):=by
 refine Zv Y (fun A hA=>?_);repeat'(first|refine ruS Y ?_|refine isS Y ?_|refine rkS Y ?_)
 refine ZQ hA (by simp) Y Y Y Y ?_;rfl
theorem ZpS(b:UInt8)(st:St):S Tb Xq [.int .u8 b.toNat] st=some (.bool (Ce b),st):=by
 refine Zv Y (fun A hA=>?_);repeat'(first|refine ruS Y ?_|refine isS Y ?_|refine rkS Y ?_|refine cm0 Y Y Y ?_ ?_|(intro _;try omega))
 all_goals refine ZQ hA (by simp) Y Y Y Y ?_
 all_goals (unfold Ce;simp;omega)
theorem Zso(b:UInt8)(st:St):S Tb Ho [.int .u8 b.toNat] st=some (.bool (EZ b),st):=by
 refine Zv Y (fun A hA=>?_);repeat'(first|refine ruS Y ?_|refine isS Y ?_|refine rkS Y ?_|refine cm0 Y Y Y ?_ ?_|(intro _;try omega))
 all_goals refine ZQ hA (by simp) Y Y Y Y ?_
 all_goals (unfold EZ;simp;omega)
def Zve(f:FuncId)(p:UInt8->Bool):Prop:=∀b st,S Tb f [.int .u8 b.toNat] st=some (.bool (p b),st)
theorem getB{s:B8}(h:i<s.length):∃b,s[i]?=some b/\s.take (i+1)=s.take i++[b]:=by
 refine⟨s[i],by simp[h],?_⟩;rw[List.take_add_one];simp[h]
theorem Na(f:FuncId)(p:UInt8->Bool)(hf:Zve f p)(s:B8)(hs:s.length<4294967296)(st:St):S Tb LW [.str s,.func (.func f) [] []] st=some (.int .i64 (s.countP p),st):=by
 refine Zv Y (fun A hA=>?_);repeat'(first|refine ruS Y ?_|refine isS Y ?_|refine ZO ?_|refine JQ Y ?_)
 refine Ze (α:=Nat) (fun i=>[(0,.str s),(1,.func (.func f) [] []),(5,.int .i64 ((s.take i).countP p)),(8,.int .i64 s.length),(9,.int .i64 i)])
  (fun i=>⟨A,false,[]⟩) (fun i=>i<=s.length) (fun i=>s.length-i) 0 rfl rfl (Nat.zero_le _) ?_
 intro i hi;repeat'(first|refine ruS Y ?_|refine isS Y ?_|refine rkS Y ?_|refine cm0 Y Y Y ?_ ?_|(intro _;try omega))
 ·rename_i hlt
  obtain⟨b,hb,ht⟩:=getB (s:=s) (i:=i) (by omega);have hc:=List.countP_le_length (p:=p) (l:=s.take i);have hl:=List.length_take_le i s;refine cf Y Y (by omega) (by simpa using hb) ?_;refine ZA Y Y Y (hf b _) ?_;cases hp:p b
  ·repeat'(first|refine ruS Y ?_|refine isS Y ?_|refine rkS Y ?_|refine ZV Y Y (by omega) ?_)
   refine⟨i+1,⟨?_,rfl⟩,by omega,by omega⟩;rw[ht,List.countP_append];simp[hp]
  ·repeat'(first|refine ruS Y ?_|refine isS Y ?_|refine rkS Y ?_|refine ZV Y Y (by omega) ?_)
   refine⟨i+1,⟨?_,rfl⟩,by omega,by omega⟩;rw[ht,List.countP_append];simp[hp]
 ·refine ZQ hA (by simp) Y Y Y Y ?_
  rw[List.take_of_length_le (by omega)]
theorem Hu(a b c x y z:Int):eqV [(0,0),(1,0),(2,0)] 0 (.agg [.int .i64 a,.int .i64 b,.int .i64 c]) (.agg [.int .i64 x,.int .i64 y,.int .i64 z])=some (decide (a=x/\b=y/\c=z)):=by
 show (if decide (a=x)=true then (if decide (b=y)=true then (if decide (c=z)=true then some true else some false) else some false) else some false)=_
 by_cases h1:a=x<;>by_cases h2:b=y<;>by_cases h3:c=z<;>simp[h1,h2,h3]
theorem TJ(m:Mea)(st:St):S Tb Yn [m.av] st=some (m.av,st):=by
 refine Zv Y (fun A hA=>?_);unfold Mea.av;repeat'(first|refine ruS Y ?_|refine ZE Y Y Y Y ?_|refine Jg Y ?_|refine rkS Y ?_|refine Zf Y Y Y ?_|refine ZX Y Y Y ?_|refine Zg Y Y Y Y Y Y ?_|refine Kx Y Y Y ?_|(refine EM Y Y (Hu _ _ _ 0 0 0) (fun _=>?_) (fun _=>?_)))
 ·rename_i h
  refine Xu hA (by simp) Y Y Y Y Y ?_;rw[h.1,h.2.1,h.2.2]
 ·refine Xu hA (by simp) Y Y Y Y Y ?_
  rfl
theorem Of_c(s:B8)(hs:s.length<4294967296)(st:St):S Tb LR [.str s] st=some ((YZ s).av,st):=by
 refine Zv Y (fun A hA=>?_);have h1:=fun st=>Na Hn (fun _=>true) Zsn s hs st
 have h2:=fun st=>Na Xq Ce ZpS s hs st
 have h3:=fun st=>Na Ho EZ Zso s hs st
 repeat'(first|refine ruS Y ?_|refine isS Y ?_|refine ZE Y Y Y Y ?_|refine rkS Y ?_|refine cm0 Y Y Y ?_ ?_|(intro _;try omega)|refine ZV Y Y (by omega) ?_|refine Zf Y Y Y ?_|refine ZX Y Y Y ?_|refine Zg Y Y Y Y Y Y ?_|refine Sk Y Y Y ?_|refine Kx Y Y Y ?_|refine ZA Y Y Y (h1 _) ?_|refine ZA Y Y Y (h2 _) ?_|refine ZA Y Y Y (h3 _) ?_|refine ZA Y Y Y (TJ ⟨_,_,_⟩ _) ?_|refine YL ?_)
 refine Xu hA (by simp) Y Y Y Y Y ?_;simp[Mea.av,YZ]
theorem Fl(h:n<18446744073709551616):IntKind.u64.wrap (n:Int)=n:=by
 have e1:IntKind.u64.signed=false:=rfl;have e2:IntKind.u64.bits=64:=rfl;simp only[IntKind.wrap,e1,e2,Bool.false_and,if_false,jB];omega
theorem Zsq(h:n<9223372036854775808):IntKind.i64.wrap (n:Int)=n:=EK (by omega) (by omega)
theorem Zvf{h:Nat}(hh:h<18446744073709551616):AQ .and (.int .u64 h) (.int .u64 65535)=some (.int .u64 ((h % 65536:Nat):Int)):=by
 have e:(BitVec.ofInt 64 (h:Int) &&& BitVec.ofInt 64 65535).toNat=h % 65536:=by
  have e1:BitVec.ofInt 64 (h:Int)=BitVec.ofNat 64 h:=by simp
  have e2:BitVec.ofInt 64 65535=BitVec.ofNat 64 65535:=rfl;rw[e1,e2,BitVec.toNat_and,BitVec.toNat_ofNat,BitVec.toNat_ofNat,Nat.mod_eq_of_lt (by omega:h<2 ^ 64)];exact Nat.and_two_pow_sub_one_eq_mod h 16
 show some (AV.int .u64 (IntKind.u64.wrap ((BitVec.ofInt 64 (h:Int) &&& BitVec.ofInt 64 65535).toNat:Int)))=_
 rw[e,Fl (by omega)]
theorem Zvg{h:Nat}:AQ .shr (.int .u64 h) (.int .u64 16)=some (.int .u64 ((h / 65536:Nat):Int)):=by
 show some (AV.int .u64 ((h:Int).fdiv (2 ^ 16)))=_
 rw[Int.fdiv_eq_ediv_of_nonneg _ (by decide)];rfl
theorem Zvh{g:Nat}(hg:g<4294967296):AQ .shl (.int .u64 g) (.int .u64 16)=some (.int .u64 ((g*65536:Nat):Int)):=by
 show some (AV.int .u64 (IntKind.u64.wrap ((g:Int)*2 ^ 16)))=_
 rw[show ((g:Int)*2 ^ 16)=((g*65536:Nat):Int) by omega,Fl (by omega)]
theorem or16{g s:Nat}(hg:g<4294967296)(hs:s<65536):AQ .or (.int .u64 ((g*65536:Nat):Int)) (.int .u64 s)=some (.int .u64 ((g*65536+s:Nat):Int)):=by
 have e:(BitVec.ofInt 64 ((g*65536:Nat):Int) ||| BitVec.ofInt 64 (s:Int)).toNat=g*65536+s:=by
  have e1:BitVec.ofInt 64 ((g*65536:Nat):Int)=BitVec.ofNat 64 (g*65536):=BitVec.ofInt_natCast ..
  have e2:BitVec.ofInt 64 (s:Int)=BitVec.ofNat 64 s:=BitVec.ofInt_natCast ..
  rw[e1,e2,BitVec.toNat_or,BitVec.toNat_ofNat,BitVec.toNat_ofNat,Nat.mod_eq_of_lt (by omega),Nat.mod_eq_of_lt (by omega)];have:=Nat.two_pow_add_eq_or_of_lt (i:=16) (b:=s) (by omega) g;rw[show g*65536=2 ^ 16*g by omega,this]
 show some (AV.int .u64 (IntKind.u64.wrap ((BitVec.ofInt 64 ((g*65536:Nat):Int) ||| BitVec.ofInt 64 (s:Int)).toNat:Int)))=_
 rw[e,Fl (by omega)]
theorem Hv(h:Nat)(hh:h<18446744073709551616)(st:St):S Tb Xc [.int .u64 h] st=some (.tup [.int .i64 ((h % 65536:Nat):Int),.int .u64 ((h / 65536:Nat):Int)],st):=by
 refine Zv Y (fun A hA=>?_);repeat'(first|refine ruS Y ?_|refine isS Y ?_|refine rkS Y ?_|refine Fa Y Y (Zvf hh) ?_|refine Fa Y Y Zvg ?_|refine HJ Y (Zsq (by omega)) ?_)
 refine ZQ hA (by simp) Y Y Y Y ?_;rfl
abbrev J8(h:Nat):Prop:=h % 65536<16384/\1<=h / 65536/\h / 65536<=4294967295
theorem Nb(h:Nat)(hh:J8 h)(st:St):S Tb YV [.int .u64 h] st=some (.int .i64 0,st):=by
 refine Zv Y (fun A hA=>?_);repeat'(first|refine ruS Y ?_|refine isS Y ?_|refine rkS Y ?_|refine cm0 Y Y Y ?_ ?_|(intro _;try omega)|refine ZA Y Y Y (Hv h (by omega) _) ?_)
 all_goals try omega
 all_goals refine ZQ hA (by simp) Y Y Y Y ?_
 all_goals rfl
theorem ZnU(h:Nat)(h64:h<18446744073709551616)(hh:¬ J8 h)(st:St):S Tb YV [.int .u64 h] st=some (.int .i64 2,st):=by
 refine Zv Y (fun A hA=>?_);repeat'(first|refine ruS Y ?_|refine isS Y ?_|refine rkS Y ?_|refine cm0 Y Y Y ?_ ?_|(intro _;try omega)|refine ZA Y Y Y (Hv h (by omega) _) ?_)
 all_goals try omega
 all_goals refine ZQ hA (by simp) Y Y Y Y ?_
 all_goals rfl
theorem TK(s g:Nat)(hs:s<16384)(hg:1<=g/\g<=4294967295)(st:St):S Tb He [.int .i64 s,.int .u64 g] st=some (.tup [.int .u64 ((g*65536+s:Nat):Int),.int .i64 0],st):=by
 refine Zv Y (fun A hA=>?_);repeat'(first|refine ruS Y ?_|refine isS Y ?_|refine rkS Y ?_|refine cm0 Y Y Y ?_ ?_|(intro _;try omega)|refine Fa Y Y (Zvh (by omega)) ?_|refine Fa Y Y (or16 (by omega) (by omega)) ?_|refine HJ Y (Fl (by omega)) ?_)
 all_goals try omega
 all_goals refine ZQ hA (by simp) Y Y Y Y ?_
 all_goals rfl
structure Kid where
 at_:Nat
 m:Mea
deriving DecidableEq
def Kid.av(k:Kid):AV:=.agg [.int .u64 k.at_,.int .i64 k.m.b,.int .i64 k.m.r,.int .i64 k.m.l]
def slV{α:Type}(f:α->AV):Option (List α)->AV
 | none=>.nils
 | some l=>.lit (l.map f)
structure Nd where
 h:Nat
 text:B8
 kids:Option (List Kid)
def Nd.av(x:Nd):AV:=.agg [.int .i64 x.h,.str x.text,slV Kid.av x.kids]
def Nd.ks(x:Nd):List Kid:=x.kids.getD []
def leastB(h:Nat):Nat:=8*2 ^ h
def mostB:Nat->Nat
 | 0=>16
 | h+1=>min (mostB h*4) 65536
theorem Hw:∀h,16<=mostB h/\mostB h<=65536
 | 0=>by simp[mostB]
 | h+1=>by have:=Hw h;simp only[mostB];omega
theorem Fm{h:Nat}(hh:h<=16):8<=leastB h/\leastB h<=524288:=by
 have h1:2 ^ h<=2 ^ 16:=Nat.pow_le_pow_right (by decide) hh;have h2:1<=2 ^ h:=Nat.one_le_two_pow;unfold leastB;omega
theorem Nc(h:Nat):leastB (h+1)=leastB h*2:=by unfold leastB;rw[Nat.pow_succ];omega
theorem ZpT(n:Nat)(i:Int)(hi:i=n)(hn:n<=16)(st:St):S Tb LU [.int .i64 i] st=some (.tup [.int .i64 (leastB n),.int .i64 (mostB n)],st):=by
 subst hi;refine Zv Y (fun A hA=>?_);repeat'(first|refine ruS Y ?_|refine isS Y ?_|refine ZO ?_)
 refine Ze (α:=Nat) (fun i=>[(2,.int .i64 (leastB i)),(3,.int .i64 (mostB i)),(4,.int .i64 n),(5,.int .i64 i)]) (fun i=>⟨A,false,[]⟩) (fun i=>i<=n) (fun i=>n-i) 0 Y Y (by omega) ?_;intro i hi;have hl:=Fm (h:=i) (by omega);have hm:=Hw i;repeat'(first|refine ruS Y ?_|refine isS Y ?_|refine rkS Y ?_|refine cm0 Y Y Y ?_ ?_|(intro _;try omega)|refine ZV Y Y (by omega) ?_|refine cZ Y Y (by omega) ?_|refine HK Y Y ?_)
 ·refine⟨i+1,⟨?_,rfl⟩,by omega,by omega⟩
  rw[Nc];simp only[mostB,jB,if_false];rw[show ((min (mostB i*4) 65536:Nat):Int)=min ((mostB i:Int)*4) 65536 by omega];rfl
 ·have:i=n:=by omega
  subst this;refine ZQ hA (by simp) Y Y Y Y ?_;simp only[jB,if_false];rw[Int.min_eq_left (by omega)]
structure KidOk(h:Nat)(k:Kid):Prop where
 at_:J8 k.at_
 lo:(leastB h:Int)<=k.m.b
 hi:k.m.b<=mostB h
 r0:0<=k.m.r
 rb:k.m.r<=k.m.b
 l0:0<=k.m.l
 lr:k.m.l<=k.m.r
theorem ZjN(x:Nd)(h0:x.h=0)(h1:1<=x.text.length/\x.text.length<=16)(h2:x.ks=[])(st:St):S Tb Hm [x.av] st=some (.bool true,st):=by
 obtain⟨h,text,kids⟩:=x;simp only at h0 h1;subst h0;refine Zv Y (fun A hA=>?_);cases kids with
 | none =>
  simp only[Nd.av,slV];repeat'(first|refine ruS Y ?_|refine isS Y ?_|refine ZE Y Y Y Y ?_|refine rkS Y ?_|refine JQ Y ?_|refine J2 Y ?_|refine cm0 Y Y Y ?_ ?_|(intro _;try omega)|refine ZX Y Y Y ?_)
  refine ZQ hA (by simp) Y Y Y Y ?_;rfl
 | some l =>
  have:l=[]:=h2;subst this;simp only[Nd.av,slV];repeat'(first|refine ruS Y ?_|refine isS Y ?_|refine ZE Y Y Y Y ?_|refine rkS Y ?_|refine JQ Y ?_|refine DL Y Y ?_|refine cm0 Y Y Y ?_ ?_|(intro _;try omega)|refine ZX Y Y Y ?_)
  refine ZQ hA (by simp) Y Y Y Y ?_;rfl
set_option maxHeartbeats 4000000 in
theorem ZnV(n:Nat)(hn:n<=15)(ks:List Kid)(hk:2<=ks.length/\ks.length<=4)(hs:∀k∈ks,KidOk n k)(st:St):S Tb Hm [Nd.av ⟨n+1,[],some ks⟩] st=some (.bool true,st):=by
 refine Zv Y (fun A hA=>?_);simp only[Nd.av,slV];repeat'(first|refine ruS Y ?_|refine isS Y ?_|refine ZE Y Y Y Y ?_|refine ZO ?_|refine Z5 Y ?_|refine cm0 Y Y Y ?_ ?_|(intro _;try omega)|(refine Kv Y Y (fun _=>?_) (fun _=>?_)<;>try contradiction)|refine YH Y Y (by omega) ?_|refine ZX Y Y Y ?_|refine ZA Y Y Y (ZpT n _ (by omega) (by omega) _) ?_)
 refine Ze (α:=Nat × List Blk) (fun p=>[(3,.int .i64 (leastB n)),(4,.int .i64 (mostB n)),(59,.lit (ks.map Kid.av)),(60,.int .i64 ks.length),(61,.int .i64 p.1)]) (fun p=>⟨A,false,.arr 3 0 [.agg [.int .i64 ↑(n+1),.str [],.lit (ks.map Kid.av)]]::p.2⟩) (fun p=>p.1<=ks.length) (fun p=>ks.length-p.1) (0,[]) Y Y (by simp) ?_;rintro⟨i,G⟩ hi;simp only at hi ⊢;repeat'(first|refine ruS Y ?_|refine isS Y ?_|refine rkS Y ?_|refine QU Y Y Y ?_|refine Zx Y Y ?_|refine Jy Y Y (by omega) (fun _=>rfl) (fun _ _=>?_)|refine cm0 Y Y Y ?_ ?_|(intro _;try omega)|refine Zi Y Y Y ?_|refine Jr Y Y Y Y Y Y ?_)
 ·rename_i k hk'
  obtain⟨a1,b1,c1,d1,e1,f1,g1⟩:=hs k (jM hk');repeat'(first|refine ruS Y ?_|refine isS Y ?_|refine rkS Y ?_|refine QU Y Y Y ?_|refine cm0 Y Y Y ?_ ?_|(intro _;try omega)|refine ZV Y Y (by omega) ?_|refine ZA Y Y Y (Nb k.at_ a1 _) ?_)
  exact⟨(i+1,_),⟨rfl,rfl⟩,by simp only;omega,by simp only;omega⟩
 ·refine ZQ hA (by simp) Y Y Y Y ?_
  rfl
def Zy:List Mea->Mea
 | []=>.zero
 | m::l=>m.add (Zy l)
theorem Mea.add_zero(m:Mea):m.add .zero=m:=by cases m;simp[Mea.add,Mea.zero]
theorem Mea.zero_add(m:Mea):Mea.add .zero m=m:=by cases m;simp[Mea.add,Mea.zero]
theorem Mea.add_assoc(a b c:Mea):(a.add b).add c=a.add (b.add c):=by cases a;cases b;cases c;simp[Mea.add,Int.add_assoc]
theorem TL(a b:List Mea):Zy (a++b)=(Zy a).add (Zy b):=by
 induction a with
 | nil=>simp[Zy,Mea.zero_add]
 | cons m l ih=>simp[Zy,ih,Mea.add_assoc]
structure Mea.Fit(m:Mea)(n:Int):Prop where
 b0:0<=m.b
 b1:m.b<=n
 r0:0<=m.r
 r1:m.r<=n
 l0:0<=m.l
 l1:m.l<=n
theorem Fo:∀ {l:List Mea},(∀m∈l,m.Fit 65536)->(Zy l).Fit (l.length*65536)
 | [],_=>⟨by decide,by decide,by decide,by decide,by decide,by decide⟩
 | m::l,h=>by
  obtain⟨a1,a2,a3,a4,a5,a6⟩:=h m (by simp);obtain⟨b1,b2,b3,b4,b5,b6⟩:=Fo (l:=l) (fun x hx=>h x (by simp[hx]));have:((m::l).length:Int)*65536=l.length*65536+65536:=by simp;omega
  constructor<;>simp only[Zy,Mea.add]<;>omega
theorem ZF{α:Type}{l:List α}{a:α}(h:l[i]?=some a):l.take (i+1)=l.take i++[a]:=by
 rw[List.take_add_one,h];rfl
set_option maxHeartbeats 4000000 in
theorem Zvi(ms:List Mea)(hl:ms.length<=4)(hf:∀m∈ms,m.Fit 65536)(st:St)(lv ix ver n:Nat)(hn:n=ms.length)(hg:st.get lv ix=some (.arr 3 ver (ms.map Mea.av))):S Tb LS [.ref lv ix ver 0 n] st=some ((Zy ms).av,st):=by
 subst hn;refine Zv Y (fun A hA=>?_);have hgA:∀L,St.get ⟨A,false,L⟩ lv ix=some (.arr 3 ver (ms.map Mea.av)):=fun L=>ZD hA hg
 repeat'(first|refine ruS Y ?_|refine isS Y ?_|refine ZO ?_|refine Z6 Y ?_|refine ZX Y Y Y ?_)
 refine Ze (α:=Nat × List Blk) (fun p=>[(2,.ptr A.length 0 0 0 0),(3,.ptr A.length 1 0 0 0),(8,.ref lv ix ver 0 ms.length),(9,.int .i64 ms.length),(10,.int .i64 p.1)]) (fun p=>⟨A,false,.arr 3 0 [.agg [.int .i64 0,.int .i64 0,.int .i64 0]]::.arr 3 0 [(Zy (ms.take p.1)).av]::p.2⟩) (fun p=>p.1<=ms.length) (fun p=>ms.length-p.1) (0,[]) Y Y (by simp) ?_;rintro⟨i,G⟩ hi;simp only at hi ⊢;repeat'(first|refine ruS Y ?_|refine ZE Y Y Y Y ?_|refine Jg Y ?_|refine rkS Y ?_|refine cm0 Y Y Y ?_ ?_|(intro _;try omega)|refine Qn Y Y Y Y Y Y ?_|refine ZA Y Y Y (TJ _ _) ?_)
 ·rename_i hlt
  obtain⟨m,hm⟩:∃m,ms[i]?=some m:=⟨ms[i]'(by omega),by simp[show i<ms.length by omega]⟩
  obtain⟨a1,a2,a3,a4,a5,a6⟩:=Fo (l:=ms.take i) (fun x hx=>hf x (List.mem_of_mem_take hx));have hli:=List.length_take_le i ms;obtain⟨b1,b2,b3,b4,b5,b6⟩:=hf m (jM hm);refine JH Y Y (by omega) (by rw[hgA];simp[wIs]) ?_;refine Zk (x:=m.av) Y (hgA _) (by simp[hm]) Y ?_;have ht:Zy (ms.take (i+1))=⟨(Zy (ms.take i)).b+m.b,(Zy (ms.take i)).r+m.r,(Zy (ms.take i)).l+m.l⟩:=by
   rw[ZF hm,TL];simp[Zy,Mea.add,Mea.zero]
  generalize hS:Zy (ms.take i)=s at *;rw[show s.av=.agg [.int .i64 s.b,.int .i64 s.r,.int .i64 s.l] from rfl];repeat'(first|refine ruS Y ?_|refine isS Y ?_|refine ZE Y Y Y Y ?_|refine rkS Y ?_|refine QU Y Y Y ?_|refine cm0 Y Y Y ?_ ?_|(intro _;try omega)|refine ZV Y Y (by omega) ?_|refine Zf Y Y Y ?_|refine Zi Y Y Y ?_|refine Jr Y Y Y Y Y Y ?_|refine Sk Y Y Y ?_|refine Kx Y Y Y ?_|refine Qn Y Y Y Y Y Y ?_|refine YL ?_)
  refine⟨(i+1,G++[.arr 3 0 [m.av]]),⟨rfl,?_⟩,by simp only;omega,by simp only;omega⟩;simp only[ht];rfl
 ·refine Xu hA (by simp) Y Y Y Y Y ?_
  have:ms.take i=ms:=List.take_of_length_le (by omega);rw[this];rfl
theorem TM(x:Nd)(h0:x.h=0)(h1:x.text.length<=16)(st:St):S Tb Fi [x.av] st=some ((YZ x.text).av,st):=by
 obtain⟨h,text,kids⟩:=x;simp only at h0 h1;subst h0;refine Zv Y (fun A hA=>?_);have hO:=fun st=>Of_c text (by omega) st
 unfold Mea.av at hO;simp only[Nd.av];cases kids;all_goals simp only[slV]
 all_goals repeat'(first|refine ruS Y ?_|refine isS Y ?_|refine ZE Y Y Y Y ?_|refine rkS Y ?_|refine cm0 Y Y Y ?_ ?_|(intro _;try omega)|refine ZX Y Y Y ?_|refine Zg Y Y Y Y Y Y ?_|refine ZA Y Y Y (hO _) ?_)
 all_goals refine Xu hA (by simp) Y Y Y Y Y ?_
 all_goals rfl
theorem KidOk.fit{k:Kid}(h:KidOk n k):k.m.Fit 65536:=by
 obtain⟨a1,b1,c1,d1,e1,f1,g1⟩:=h;have:=Hw n;constructor<;>omega
set_option maxHeartbeats 4000000 in
theorem TN(n:Nat)(ks:List Kid)(hk:ks.length<=4)(hs:∀k∈ks,k.m.Fit 65536)(text:B8)(st:St):S Tb Fi [Nd.av ⟨n+1,text,some ks⟩] st=some ((Zy (ks.map Kid.m)).av,st):=by
 refine Zv Y (fun A hA=>?_);simp only[Nd.av,slV];repeat'(first|refine ruS Y ?_|refine isS Y ?_|refine ZE Y Y Y Y ?_|refine ZO ?_|refine Z5 Y ?_|refine cm0 Y Y Y ?_ ?_|(intro _;try omega)|refine ZX Y Y Y ?_|refine Xk Y ?_)
 refine Ze (α:=Nat × List Blk) (fun p=>[(2,.ptr A.length 1 0 0 0),(3,.ref A.length 2 p.1 0 p.1),(13,.lit (ks.map Kid.av)),(14,.int .i64 ks.length),(15,.int .i64 p.1)]) (fun p=>⟨A,false,.arr 3 0 [.agg [.int .i64 ↑(n+1),.str text,.lit (ks.map Kid.av)]]::.arr 3 0 [.agg [.int .i64 0,.int .i64 0,.int .i64 0]]::.arr 3 p.1 ((ks.take p.1).map fun k=>k.m.av)::p.2⟩) (fun p=>p.1<=ks.length) (fun p=>ks.length-p.1) (0,[]) Y Y (by simp) ?_;rintro⟨i,G⟩ hi;simp only at hi ⊢;repeat'(first|refine ruS Y ?_|refine isS Y ?_|refine rkS Y ?_|refine QU Y Y Y ?_|refine Zx Y Y ?_|refine Jy Y Y (by omega) (fun _=>rfl) (fun _ _=>?_)|refine cm0 Y Y Y ?_ ?_|(intro _;try omega)|refine ZV Y Y (by omega) ?_|refine Zi Y Y Y ?_|refine Jr Y Y Y Y Y Y ?_|refine Z7 Y Y Y Y ?_|refine K8 Y Y Y (by first|rfl|(simp;done)|(simp;omega)) (by first|omega|(simp<;>omega)) (by decide) rfl rfl ?_)
 ·rename_i k hk'
  have hk2:ks[i]?=some k:=hk';refine⟨(i+1,G++[.arr 4 0 [k.av]]),⟨rfl,?_⟩,by simp only;omega,by simp only;omega⟩;rw[ZF hk2,List.map_append];rfl
 ·have hi':ks.take i=ks:=List.take_of_length_le (by omega)
  refine ZA Y Y Y (Zvi (ks.map Kid.m) (by simpa using hk) (by intro m hm;obtain⟨k,hk1,rfl⟩:=List.mem_map.1 hm;exact hs k hk1) _ A.length 2 i i (by simp;omega) (by rw[St.get_cur,hi',List.map_map];rfl)) ?_;rw[show (Zy (ks.map Kid.m)).av=.agg [.int .i64 (Zy (ks.map Kid.m)).b,.int .i64 (Zy (ks.map Kid.m)).r,.int .i64 (Zy (ks.map Kid.m)).l] from rfl];repeat'(first|refine Jg Y ?_|refine rkS Y ?_|refine Qn Y Y Y Y Y Y ?_|refine Xz ?_)
  refine Xu hA (by simp) Y Y Y Y Y ?_;rfl
structure LeafOk(x:Nd):Prop where
 h:x.h=0
 lo:1<=x.text.length
 hi:x.text.length<=16
 ks:x.ks=[]
structure InnerOk(x:Nd)(n:Nat)(ks:List Kid):Prop where
 eq:x=⟨n+1,[],some ks⟩
 n15:n<=15
 lo:2<=ks.length
 hi:ks.length<=4
 kid:∀k∈ks,KidOk n k
 sum:(Zy (ks.map Kid.m)).b<=65536
def NdOk(x:Nd):Prop:=LeafOk x\/∃n ks,InnerOk x n ks
def Nd.mea(x:Nd):Mea:=if x.h=0 then YZ x.text else Zy (x.ks.map Kid.m)
theorem Nf(x:Nd)(hx:NdOk x)(st:St):S Tb Hk [x.av] st=some (.int .i64 0,st):=by
 rcases hx with h|⟨n,ks,rfl,h1,h2,h3,h4,h5⟩
 ·have hf:=fun st=>ZjN x h.h ⟨h.lo,h.hi⟩ h.ks st
  have hS:=fun st=>TM x h.h h.hi st
  have hhi:=h.hi;unfold Mea.av at hS;have hm:(YZ x.text).b=x.text.length:=rfl;obtain⟨h,text,kids⟩:=x;simp only[Nd.av]at *;refine Zv Y (fun A hA=>?_);cases kids;all_goals simp only[slV]at *
  all_goals repeat'(first|refine ruS Y ?_|refine isS Y ?_|refine ZE Y Y Y Y ?_|refine rkS Y ?_|refine EN (agg:=false) Y Y ?_|refine cm0 Y Y Y ?_ ?_|(intro _;try omega)|refine ZX Y Y Y ?_|refine ZA Y Y Y (hf _) ?_|refine ZA Y Y Y (hS _) ?_)
  all_goals refine ZQ hA (by simp) Y Y Y Y ?_
  all_goals rfl
 ·have hf:=fun st=>ZnV n h1 ks ⟨h2,h3⟩ h4 st
  have hS:=fun st=>TN n ks h3 (fun k hk=>(h4 k hk).fit) [] st
  unfold Mea.av at hS;simp only[Nd.av,slV]at *;refine Zv Y (fun A hA=>?_);repeat'(first|refine ruS Y ?_|refine isS Y ?_|refine ZE Y Y Y Y ?_|refine rkS Y ?_|refine EN (agg:=false) Y Y ?_|refine cm0 Y Y Y ?_ ?_|(intro _;try omega)|refine ZX Y Y Y ?_|refine ZA Y Y Y (hf _) ?_|refine ZA Y Y Y (hS _) ?_)
  refine ZQ hA (by simp) Y Y Y Y ?_;rfl
theorem Ng(x:Nd)(hx:NdOk x)(st:St):S Tb Xb [x.av] st=some (.tup [x.mea.av,.int .i64 0],st):=by
 have hC:=fun st=>Nf x hx st
 rcases hx with h|⟨n,ks,rfl,h1,h2,h3,h4,h5⟩
 ·have hS:=fun st=>TM x h.h h.hi st
  have he:x.mea=YZ x.text:=by unfold Nd.mea;rw[if_pos h.h]
  rw[he];unfold Mea.av at *;obtain⟨h,text,kids⟩:=x;simp only[Nd.av]at *;refine Zv Y (fun A hA=>?_);cases kids;all_goals simp only[slV]at *
  all_goals repeat'(first|refine ruS Y ?_|refine isS Y ?_|refine ZE Y Y Y Y ?_|refine rkS Y ?_|refine cm0 Y Y Y ?_ ?_|(intro _;try omega)|refine ZX Y Y Y ?_|refine Zg Y Y Y Y Y Y ?_|refine ZA Y Y Y (hC _) ?_|refine ZA Y Y Y (hS _) ?_)
  all_goals refine Xu hA (by simp) Y Y Y Y Y ?_
  all_goals rfl
 ·have hS:=fun st=>TN n ks h3 (fun k hk=>(h4 k hk).fit) [] st
  have he:Nd.mea ⟨n+1,[],some ks⟩=Zy (ks.map Kid.m):=rfl;rw[he];unfold Mea.av at *;simp only[Nd.av,slV]at *;refine Zv Y (fun A hA=>?_);repeat'(first|refine ruS Y ?_|refine isS Y ?_|refine ZE Y Y Y Y ?_|refine rkS Y ?_|refine cm0 Y Y Y ?_ ?_|(intro _;try omega)|refine ZX Y Y Y ?_|refine Zg Y Y Y Y Y Y ?_|refine ZA Y Y Y (hC _) ?_|refine ZA Y Y Y (hS _) ?_)
  refine Xu hA (by simp) Y Y Y Y Y ?_;rfl
abbrev ZC:=List (Nat × Nd)
def lk:ZC->Nat->Option Nd
 | [],_=>none
 | p::N,h=>if p.1=h then some p.2 else lk N h
def nodeAV(p:Nat × Nd):AV × AV:=(.int .u64 p.1,p.2.av)
structure Rd(st:St)(lv ix:Nat)(N:ZC):Prop where
 at_:∃a0 a1 im a3 a4 a5,st.get lv ix=some (.arr 6 0 [.agg [a0,a1,.map lv im,a3,a4,a5]])/\st.get lv im=some (.map (N.map nodeAV))
theorem Rd.push{L:List Blk}{lv:Nat}{N:ZC}(hA:A=st.A++[(st.ro,st.L)])(h:Rd st lv ix N):Rd ⟨A,ro,L⟩ lv ix N:=by
 obtain⟨a0,a1,im,a3,a4,a5,h1,h2⟩:=h;exact⟨a0,a1,im,a3,a4,a5,ZD hA h1,ZD hA h2⟩
theorem TO:∀(N:ZC) (h:Nat),AP (.int .u64 h) (N.map nodeAV)=some ((lk N h).map Nd.av)
 | [],h=>rfl
 | p::N,h=>by
  rw[jC,AP];show (Option.bind (if IntKind.u64=IntKind.u64 then some ((h:Int) == (p.1:Int)) else none) fun b=>if b=true then some (some p.2.av) else AP (.int .u64 h) (N.map nodeAV))=_
  rw[if_pos rfl,oS,TO N h,lk];by_cases q:p.1=h
  ·subst q;simp
  ·rw[if_neg q,if_neg (by simp;omega)]
def Nd.copy(x:Nd):Nd:=⟨x.h,x.text,some x.ks⟩
theorem TP{lv im:Nat}{N:ZC}(hg:st.get lv im=some (.map (N.map nodeAV))){h:Nat}{x:Nd}(hx:lk N h=some x)(z:AV):lookV st 0 z true (.int .u64 h) (.map lv im)=some (.tup [x.av,.bool true]):=by
 simp only[lookV,Di,hg,AA,oS,Jh,if_true,TO,hx,Option.map_some,Dj]
theorem ZnW(l:List Kid):Qy 4 (l.map Kid.av)=true:=by
 induction l with
 | nil=>rfl
 | cons k l ih=>rw[jC,Qy,List.all_cons];exact Bool.and_eq_true_iff.2 ⟨rfl,ih⟩
theorem Nh(l:List Kid)(hl:l.length<=65536)(st:St):S Tb Zp [.lit (l.map Kid.av)] st=some (.lit (l.map Kid.av),st):=by
 refine FH (o:=DE 4) Y ?_;simp only[DE,ZnW,List.length_map,hl,and_self,if_true]
theorem Zsr(st:St):S Tb Zp [.lit []] st=some (.lit [],st):=Nh [] (by decide) st
theorem NdOk.len{x:Nd}(h:NdOk x):x.ks.length<=4:=by
 rcases h with h|⟨n,ks,h⟩
 ·rw[h.ks];decide
 ·rw[h.eq];exact h.hi
theorem Fp{lv:Nat}{N:ZC}(hr:Rd st lv ix N){h:Nat}{x:Nd}(hx:lk N h=some x)(hl:x.ks.length<=4):S Tb QX [.ptr lv ix 0 0 0,.int .u64 h] st=some (.tup [x.copy.av,.int .i64 0],st):=by
 obtain⟨a0,a1,im,a3,a4,a5,h1,h2⟩:=hr;refine Zv Y (fun A hA=>?_);have g1:∀L,St.get ⟨A,false,L⟩ lv ix=_:=fun L=>ZD hA h1
 have g2:∀L,St.get ⟨A,false,L⟩ lv im=_:=fun L=>ZD hA h2
 have hlk:=fun L z=>TP (g2 L) hx z
 have hcl:=fun st=>Nh x.ks (by omega) st
 obtain⟨hh,text,kids⟩:=x;cases kids;all_goals simp only[Nd.av,slV,Nd.copy,Nd.ks,Option.getD]at *
 all_goals repeat'(first|refine ruS Y ?_|refine isS Y ?_|refine ZE Y Y Y Y ?_|refine rkS Y ?_|refine Qc Y Y Y Y ?_|refine ZX Y Y Y ?_|refine Zg Y Y Y Y Y Y ?_|refine Zk Y (g1 _) Y Y ?_|refine YI Y Y (hlk _ _) ?_|refine ZA Y Y Y (hcl _) ?_)
 all_goals refine Xu hA (by simp) Y Y Y Y Y ?_
 all_goals rfl
inductive Tr where
 | mk (old h:Nat) (m:Mea) (text:B8) (kids:Option (List Tr))
namespace Tr
def old:Tr->Nat|.mk o _ _ _ _=>o
def h:Tr->Nat|.mk _ h _ _ _=>h
def m:Tr->Mea|.mk _ _ m _ _=>m
def text:Tr->B8|.mk _ _ _ s _=>s
def kids:Tr->Option (List Tr)|.mk _ _ _ _ k=>k
def ks:Tr->List Tr|.mk _ _ _ _ k=>k.getD []
mutual
def av:Tr->AV
 | .mk o h m s k=>.agg [.int .u64 o,.int .i64 h,.int .i64 m.b,.int .i64 m.r,.int .i64 m.l,.str s,avO k]
def avO:Option (List Tr)->AV
 | none=>.nils
 | some l=>.lit (avL l)
def avL:List Tr->LV
 | []=>[]
 | t::l=>t.av::avL l
end
theorem avL_map:∀l,avL l=l.map av
 | []=>rfl
 | t::l=>by rw[avL,avL_map l];rfl
theorem avO_sl(k:Option (List Tr)):avO k=slV av k:=by
 cases k
 ·rfl
 ·simp only[avO,slV,avL_map]
mutual
def bytes:Tr->Int
 | .mk _ _ m s k=>m.b+s.length+bytesO k
def bytesO:Option (List Tr)->Int
 | none=>0
 | some l=>bytesL l
def bytesL:List Tr->Int
 | []=>0
 | t::l=>t.bytes+bytesL l
end
theorem bytesL_append:∀a b,bytesL (a++b)=bytesL a+bytesL b
 | [],b=>by simp[bytesL]
 | t::a,b=>by rw[lC,bytesL,bytesL,bytesL_append a b];omega
theorem ind{P:Tr->Prop}(step:∀o h m s k,(∀t∈k.getD [],P t)->P (.mk o h m s k)):∀t,P t:=by
 intro t;refine Tr.rec (motive_1:=P) (motive_2:=fun k=>∀t∈k.getD [],P t) (motive_3:=fun l=>∀t∈l,P t) ?_ ?_ ?_ ?_ ?_ t
 ·intro o h m s k ih;exact step o h m s k ih
 ·intro t h;simp at h
 ·intro l ih;exact ih
 ·intro t h;simp at h
 ·intro t l h1 h2 u hu
  rcases List.mem_cons.1 hu with rfl|q
  ·exact h1
  ·exact h2 u q
inductive Pos:Tr->Prop
 | mk {o h m s k} (h0:0<=m.b) (h4:(k.getD []).length<=4) (hk:∀t∈k.getD [],Pos t):Pos (.mk o h m s k)
theorem bytesO_getD(k:Option (List Tr)):bytesO k=bytesL (k.getD []):=by cases k<;>rfl
theorem bytesL_nonneg:∀ {l:List Tr},(∀t∈l,0<=t.bytes)->0<=bytesL l
 | [],_=>by simp[bytesL]
 | t::l,h=>by
  have h1:=h t (by simp);have h2:=bytesL_nonneg (l:=l) (fun u hu=>h u (by simp[hu]));rw[bytesL];omega
theorem Pos.nonneg:∀ {t:Tr},t.Pos->0<=t.bytes:=by
 intro t;induction t using Tr.ind with
 | step o h m s k ih =>
  intro hp;cases hp with
  | mk h0 h4 hk =>
   have:=bytesL_nonneg (l:=k.getD []) (fun t ht=>ih t ht (hk t ht));rw[bytes,bytesO_getD];omega
end Tr
theorem Zn(t:Tr):t.av.wide=some 7:=by
 obtain⟨o,h,m,s,k⟩:=t;cases k<;>rfl
theorem Yu(l:List Tr):Qy 7 (l.map Tr.av)=true:=by
 induction l with
 | nil=>rfl
 | cons t l ih=>rw[jC,Qy,List.all_cons,Zn];exact Bool.and_eq_true_iff.2 ⟨rfl,ih⟩
theorem Zb(t:Tr):Qs t.av true 0 7=some t.av:=by
 obtain⟨o,h,m,s,k⟩:=t;cases k<;>rfl
theorem Z1(t:Tr):Yi t.av=some t.av:=by
 obtain⟨o,h,m,s,k⟩:=t;cases k<;>rfl
theorem Qg(y:AV)(t:Tr):(Q7 7 y 0 7 t.av).bind Yi=some t.av:=by
 simp only[Q7,Zn,if_true,and_self,oS,Z1]
theorem Z9(b:Nat)(st:St)(t:Tr):ZI Zs b st t.av=some (t.av,st):=by
 obtain⟨o,h,m,s,k⟩:=t;cases k<;>rfl
theorem ZH(t:Tr):weak t.av=t.av:=by
 obtain⟨o,h,m,s,k⟩:=t;cases k<;>rfl
theorem Fq(b:Nat)(st:St)(l:List Tr):mapSt (ZI Zs b) st (l.map Tr.av)=some (l.map Tr.av,st):=by
 induction l with
 | nil=>rfl
 | cons t l ih=>rw[jC,mapSt,Z9,oS,ih,oS,Y3]
set_option maxHeartbeats 4000000 in
theorem B7(t:Tr):t.Pos->t.bytes<4611686018427387904->∀st,S Tb Qj [t.av] st=some (.int .i64 t.bytes,st):=by
 induction t using Tr.ind with
 | step o h m s k ih =>
  intro hp hb st;cases hp with
  | mk h0 h4 hk =>
  refine Zv Y (fun A hA=>?_);have hn:=Tr.bytesL_nonneg (l:=k.getD []) (fun t ht=>(hk t ht).nonneg);have hbb:(Tr.mk o h m s k).bytes=m.b+s.length+Tr.bytesL (k.getD []):=by rw[Tr.bytes,Tr.bytesO_getD]
  rw[hbb]at hb ⊢;rw[Tr.av,Tr.avO_sl];cases k with
  | none =>
   simp only[slV,Option.getD]at *;repeat'(first|refine ruS Y ?_|refine isS Y ?_|refine ZE Y Y Y Y ?_|refine rkS Y ?_|refine JQ Y ?_|refine J2 Y ?_|refine cm0 Y Y Y ?_ ?_|(intro _;try omega)|refine ZV Y Y (by omega) ?_|refine ZX Y Y Y ?_|refine YL ?_)
   refine ZQ hA (by simp) Y Y Y Y ?_;simp[Tr.bytesL]
  | some l =>
   simp only[slV,Option.getD]at *;repeat'(first|refine ruS Y ?_|refine isS Y ?_|refine ZE Y Y Y Y ?_|refine ZO ?_|refine JQ Y ?_|refine Z5 Y ?_|refine ZV Y Y (by omega) ?_|refine ZX Y Y Y ?_)
   refine Ze (α:=Nat × List Blk) (fun p=>[(3,.int .i64 (m.b+s.length+Tr.bytesL (l.take p.1))),(14,.lit (l.map Tr.av)),(15,.int .i64 l.length),(16,.int .i64 p.1)]) (fun p=>⟨A,false,p.2⟩) (fun p=>p.1<=l.length) (fun p=>l.length-p.1) (0,_) ?_ Y (by simp) ?_
   ·simp[Tr.bytesL]
   rintro⟨i,G⟩ hi;simp only at hi ⊢;repeat'(first|refine ruS Y ?_|refine isS Y ?_|refine rkS Y ?_|refine cm0 Y Y Y ?_ ?_|(intro _;try omega)|refine Zi Y Y Y ?_|refine Jy Y Y (by omega) Zn (fun _ _=>?_)|refine Zx Y (Zb _) ?_|refine QU Y Y (Zb _) ?_|refine Jr Y Y Y (Z9 _ _ _) (Qg _ _) Y ?_)
   ·rename_i t ht
    have ht2:l[i]?=some t:=ht;have hm:=jM ht2;have h1:=(hk t hm).nonneg;have h2:0<=Tr.bytesL (l.take i):=Tr.bytesL_nonneg (fun u hu=>(hk u (List.mem_of_mem_take hu)).nonneg);have h3:Tr.bytesL l=Tr.bytesL (l.take i)+(t.bytes+Tr.bytesL (l.drop (i+1))):=by
     conv=>lhs;rw[<- List.take_append_drop (i+1) l,ZF ht2,Tr.bytesL_append,Tr.bytesL_append]
     simp[Tr.bytesL];omega
    have h4:0<=Tr.bytesL (l.drop (i+1)):=Tr.bytesL_nonneg (fun u hu=>(hk u (List.mem_of_mem_drop hu)).nonneg);have h5:=ih t hm (hk t hm) (by omega);repeat'(first|refine Qv ?_|refine isS Y ?_|refine rkS Y ?_|refine ZV Y Y (by omega) ?_|refine zA0 Y Y (h5 _) ?_)
    refine⟨(i+1,_),⟨?_,rfl⟩,by simp only;omega,by simp only;omega⟩;simp only[ZF ht2,Tr.bytesL_append,Tr.bytesL];rw[show m.b+↑s.length+(Tr.bytesL (List.take i l)+(t.bytes+0))=m.b+↑s.length+Tr.bytesL (List.take i l)+t.bytes by omega];rfl
   ·refine ZQ hA (by simp) Y Y Y Y ?_
    rw[List.take_of_length_le (by omega)]
theorem eqv0(m:Mea):eqV [(0,0),(1,0),(2,0)] 0 (.agg [.int .i64 m.b,.int .i64 m.r,.int .i64 m.l]) (.agg [.int .i64 0,.int .i64 0,.int .i64 0])=some (decide (m=.zero)):=by
 rw[Hu]
 congr 1
 have:(m.b=0/\m.r=0/\m.l=0)↔m=.zero:=by
  cases m;simp[Mea.zero]
 simp only[this]
structure IsEmpty(t:Tr):Prop where
 old:t.old=0
 h:t.h=0
 m:t.m=.zero
 text:t.text=[]
 ks:t.ks=[]
structure IsKept(t:Tr):Prop where
 old:t.old≠0
 text:t.text=[]
 ks:t.ks=[]
structure IsLeaf(t:Tr):Prop where
 old:t.old=0
 h:t.h=0
 m:t.m=.zero
 lo:1<=t.text.length
 hi:t.text.length<=16
 ks:t.ks=[]
structure IsInner(t:Tr):Prop where
 old:t.old=0
 m:t.m=.zero
 text:t.text=[]
 h1:1<=t.h
 h2:t.h<=16
 lo:2<=t.ks.length
 hi:t.ks.length<=4
set_option maxHeartbeats 4000000 in
theorem Fs(t:Tr)(ht:IsEmpty t)(st:St):S Tb QW [t.av] st=some (.int .i64 1,st):=by
 obtain⟨o,h,m,s,k⟩:=t;obtain⟨h1,h2,h3,h4,h5⟩:=ht;simp only[Tr.old,Tr.h,Tr.m,Tr.text,Tr.ks]at h1 h2 h3 h4 h5;subst h1 h2 h3 h4;refine Zv Y (fun A hA=>?_);cases k with
 | none =>
  repeat'(first|refine ruS Y ?_|refine isS Y ?_|refine ZE Y Y Y Y ?_|refine rkS Y ?_|refine J2 Y ?_|refine cm0 Y Y Y ?_ ?_|(intro _;try omega)|(refine BI Y Y (fun _=>?_) (fun _=>?_)<;>try contradiction)|refine Zf Y Y Y ?_|refine Qc Y Y Y Y ?_|refine ZX Y Y Y ?_)
  refine ZQ hA (by simp) Y Y Y Y ?_;rfl
 | some l =>
  have:l=[]:=h5;subst this;repeat'(first|refine ruS Y ?_|refine isS Y ?_|refine ZE Y Y Y Y ?_|refine rkS Y ?_|refine DL Y Y ?_|refine cm0 Y Y Y ?_ ?_|(intro _;try omega)|(refine BI Y Y (fun _=>?_) (fun _=>?_)<;>try contradiction)|refine Zf Y Y Y ?_|refine Qc Y Y Y Y ?_|refine ZX Y Y Y ?_)
  refine ZQ hA (by simp) Y Y Y Y ?_;rfl
set_option maxHeartbeats 4000000 in
theorem Hx(t:Tr)(ht:IsKept t)(st:St):S Tb QW [t.av] st=some (.int .i64 2,st):=by
 obtain⟨o,h,m,s,k⟩:=t;obtain⟨h1,h4,h5⟩:=ht;simp only[Tr.old,Tr.h,Tr.m,Tr.text,Tr.ks]at h1 h4 h5;subst h4;refine Zv Y (fun A hA=>?_);cases k with
 | none =>
  repeat'(first|refine ruS Y ?_|refine isS Y ?_|refine ZE Y Y Y Y ?_|refine rkS Y ?_|refine J2 Y ?_|refine cm0 Y Y Y ?_ ?_|(intro _;try omega)|(refine BI Y Y (fun _=>?_) (fun _=>?_)<;>try contradiction)|refine Zf Y Y Y ?_|refine ZX Y Y Y ?_|(refine EM Y Y (eqv0 _) (fun _=>?_) (fun _=>?_)))
  all_goals refine ZQ hA (by simp) Y Y Y Y ?_
  all_goals rfl
 | some l =>
  have:l=[]:=h5;subst this;repeat'(first|refine ruS Y ?_|refine isS Y ?_|refine ZE Y Y Y Y ?_|refine rkS Y ?_|refine DL Y Y ?_|refine cm0 Y Y Y ?_ ?_|(intro _;try omega)|(refine BI Y Y (fun _=>?_) (fun _=>?_)<;>try contradiction)|refine Zf Y Y Y ?_|refine ZX Y Y Y ?_|(refine EM Y Y (eqv0 _) (fun _=>?_) (fun _=>?_)))
  all_goals refine ZQ hA (by simp) Y Y Y Y ?_
  all_goals rfl
set_option maxHeartbeats 4000000 in
theorem Hy(t:Tr)(ht:IsLeaf t)(st:St):S Tb QW [t.av] st=some (.int .i64 3,st):=by
 obtain⟨o,h,m,s,k⟩:=t;obtain⟨h1,h2,h3,h4,h4',h5⟩:=ht;simp only[Tr.old,Tr.h,Tr.m,Tr.text,Tr.ks]at h1 h2 h3 h4 h4' h5;subst h1 h2 h3;have hs:s≠[]:=fun q=>by rw[q]at h4;simp at h4
 refine Zv Y (fun A hA=>?_);cases k with
 | none =>
  repeat'(first|refine ruS Y ?_|refine isS Y ?_|refine ZE Y Y Y Y ?_|refine rkS Y ?_|refine JQ Y ?_|refine J2 Y ?_|refine cm0 Y Y Y ?_ ?_|(intro _;try omega)|(refine BI Y Y (fun _=>?_) (fun _=>?_)<;>try contradiction)|refine Zf Y Y Y ?_|refine Qc Y Y Y Y ?_|refine ZX Y Y Y ?_)
  all_goals try contradiction
  all_goals refine ZQ hA (by simp) Y Y Y Y ?_
  all_goals rfl
 | some l =>
  have:l=[]:=h5;subst this;repeat'(first|refine ruS Y ?_|refine isS Y ?_|refine ZE Y Y Y Y ?_|refine rkS Y ?_|refine JQ Y ?_|refine DL Y Y ?_|refine cm0 Y Y Y ?_ ?_|(intro _;try omega)|(refine BI Y Y (fun _=>?_) (fun _=>?_)<;>try contradiction)|refine Zf Y Y Y ?_|refine Qc Y Y Y Y ?_|refine ZX Y Y Y ?_)
  all_goals try contradiction
  all_goals refine ZQ hA (by simp) Y Y Y Y ?_
  all_goals rfl
set_option maxHeartbeats 4000000 in
theorem Hz(t:Tr)(ht:IsInner t)(st:St):S Tb QW [t.av] st=some (.int .i64 4,st):=by
 obtain⟨o,h,m,s,k⟩:=t;obtain⟨h1,h2,h3,h4,h4',h5,h5'⟩:=ht;simp only[Tr.old,Tr.h,Tr.m,Tr.text,Tr.ks]at h1 h2 h3 h4 h4' h5 h5';subst h1 h2 h3;refine Zv Y (fun A hA=>?_);cases k with
 | none=>simp at h5
 | some l =>
  simp only[Option.getD]at *;rw[Tr.av,Tr.avO_sl];simp only[slV];repeat'(first|refine ruS Y ?_|refine isS Y ?_|refine ZE Y Y Y Y ?_|refine rkS Y ?_|refine Z5 Y ?_|refine cm0 Y Y Y ?_ ?_|(intro _;try omega)|(refine BI Y Y (fun _=>?_) (fun _=>?_)<;>try contradiction)|refine Zf Y Y Y ?_|refine Qc Y Y Y Y ?_|refine ZX Y Y Y ?_)
  all_goals try contradiction
  all_goals refine ZQ hA (by simp) Y Y Y Y ?_
  all_goals rfl
inductive Val (N:ZC):Tr->Prop
 | kept {o h m k x} (h0:o≠0) (hx:lk N o=some x) (hok:NdOk x) (hh:x.h=h) (hm:x.mea=m) (hk:k.getD []=[]):Val N (.mk o h m [] k)
 | leaf {s k} (h1:1<=s.length) (h2:s.length<=16) (hk:k.getD []=[]):Val N (.mk 0 0 .zero s k)
 | inner {h l} (hh:h+1<=16) (h2:2<=l.length) (h4:l.length<=4) (hl:∀t∈l,t.h=h) (hb:∀t∈l,h=0->8<=t.bytes) (hv:∀t∈l,Val N t):Val N (.mk 0 (h+1) .zero [] (some l))
theorem NdOk.mea_pos{x:Nd}(h:NdOk x):1<=x.mea.b/\x.mea.b<=65536:=by
 rcases h with h|⟨n,ks,h⟩
 ·have h1:=h.lo
  have h2:=h.hi;unfold Nd.mea;rw[if_pos h.h];simp only[YZ];omega
 ·have e:=h.eq
  subst e;have hk:=h.kid;have hs:=h.sum;have hlo:=h.lo;have:Nd.mea ⟨n+1,[],some ks⟩=Zy (ks.map Kid.m):=rfl;rw[this];refine⟨?_,hs⟩
  match ks,hlo,hk with
  | k1::k2::l,_,hk =>
   have h1:=(hk k1 (by simp)).lo;have h2:=(Fo (l:=(k2::l).map Kid.m) (fun m hm=>by obtain⟨k,hk1,rfl⟩:=List.mem_map.1 hm;exact (hk k (by simp[List.mem_cons.1 hk1])).fit)).b0;have hn:=(Fm (h:=n) (by have:=h.n15;omega)).1;simp only[jC,Zy,Mea.add]at h2 ⊢;omega
theorem Val.pos{N:ZC}{t:Tr}(h:Val N t):t.Pos/\1<=t.bytes:=by
 induction h with
 | kept h0 hx hok hh hm hk =>
  have:=hok.mea_pos;refine⟨⟨by rw[<- hm];omega,by rw[hk];decide,by rw[hk];intro t ht;simp at ht⟩,?_⟩;rw[Tr.bytes,Tr.bytesO_getD,hk,<- hm];simp[Tr.bytesL];omega
 | leaf h1 h2 hk =>
  refine⟨⟨by decide,by rw[hk];decide,by rw[hk];intro t ht;simp at ht⟩,?_⟩;rw[Tr.bytes,Tr.bytesO_getD,hk];simp[Tr.bytesL,Mea.zero];omega
 | inner hh h2 h4 hl hb hv ih =>
  rename_i h l;refine⟨⟨by decide,h4,fun t ht=>(ih t ht).1⟩,?_⟩;rw[Tr.bytes,Tr.bytesO]
  match l,h2,ih with
  | t1::l,_,ih =>
   have h1:=(ih t1 (by simp)).2;have h2:=Tr.bytesL_nonneg (l:=l) (fun t ht=>by have:=(ih t (by simp[ht])).2;omega);simp[Tr.bytesL,Mea.zero];omega
namespace Tr
mutual
def own:Tr->Tr
 | .mk o h m s k=>.mk o h m s (ownO k)
def ownO:Option (List Tr)->Option (List Tr)
 | none=>some []
 | some l=>some (H0 l)
def H0:List Tr->List Tr
 | []=>[]
 | t::l=>t.own::H0 l
end
theorem ownL_map:∀l,H0 l=l.map own
 | []=>rfl
 | t::l=>by rw[H0,ownL_map l];rfl
end Tr
theorem H1(n b:Nat)(st:St)(t:Tr):ZI (n+2) b st t.av=some (t.av,st):=by
 obtain⟨o,h,m,s,k⟩:=t;cases k<;>rfl
theorem ZnX(n b:Nat)(st:St)(l:List Tr):mapSt (ZI (n+2) b) st (l.map Tr.av)=some (l.map Tr.av,st):=by
 induction l with
 | nil=>rfl
 | cons t l ih=>rw[jC,mapSt,H1,oS,ih,oS,Y3]
theorem TQ{A:List (Bool × List Blk)}{L:List Blk}{ix ver n:Nat}{l:List Tr}{o h b r c:Int}{s:B8}(hg:L[ix]?=some (.arr 7 ver (l.map Tr.av)))(hn:n=l.length):
 ZI Zs A.length ⟨A,false,L⟩ (.agg [.int .u64 o,.int .i64 h,.int .i64 b,.int .i64 r,.int .i64 c,.str s,.ref A.length ix ver 0 n])=some (.agg [.int .u64 o,.int .i64 h,.int .i64 b,.int .i64 r,.int .i64 c,.str s,.lit (l.map Tr.av)],⟨A,false,L.set ix .dead⟩):=by
 subst hn;have h1:=HX (n:=4) (A:=A) (s:=0) (m:=l.length) hg (by simp) (es':=l.map Tr.av) (by rw[List.drop_zero,List.take_of_length_le (by simp)];exact ZnX 2 0 _ l);show (mapSt (keepN (ZI 5 A.length)) _ _).bind Ae=_
 simp only[mapSt,keepN,Al,jB,if_false,ZI,oS]at h1 ⊢;rw[h1];simp only[oS,Y3,Ae]
theorem Ni{b lv ix ver q n:Nat}{o h b1 r c:Int}{s:B8}(st:St)(hl:lv<b):
 ZI Zs b st (.agg [.int .u64 o,.int .i64 h,.int .i64 b1,.int .i64 r,.int .i64 c,.str s,.ref lv ix ver q n])=some (.agg [.int .u64 o,.int .i64 h,.int .i64 b1,.int .i64 r,.int .i64 c,.str s,.ref lv ix ver q n],st):=by
 show (mapSt (keepN (ZI 5 b)) _ _).bind Ae=_
 simp only[mapSt,keepN,Al,jB,if_false,ZI,oS,if_pos hl,Y3,Ae]
theorem Zst{α:Type}{l:List α}{x z:α}{i n:Nat}(hi:i=l.length)(hn:i<n):(l++List.replicate (n-i) z).set i x=l++[x]++List.replicate (n-(i+1)) z:=by
 subst hi;obtain⟨m,hm⟩:∃m,n-l.length=m+1:=⟨n-l.length-1,by omega⟩
 rw[hm,show n-(l.length+1)=m by omega,List.replicate_succ,List.set_append_right _ _ (Nat.le_refl _)];simp
theorem TR(t:Tr):t.Pos->∀st,S Tb Fg [t.av] st=some (t.own.av,st):=by
 induction t using Tr.ind with
 | step o h m s k ih =>
  intro hp st;cases hp with
  | mk h0 h4 hk =>
  refine Zv Y (fun A hA=>?_);rw[Tr.av,Tr.avO_sl];cases k with
  | none =>
   simp only[slV,Option.getD]at *;repeat'(first|refine ruS Y ?_|refine isS Y ?_|refine ZE Y Y Y Y ?_|refine rkS Y ?_|refine J2 Y ?_|refine cm0 Y Y Y ?_ ?_|(intro _;try omega)|refine ZX Y Y Y ?_|refine Zg Y Y Y Y Y Y ?_|refine Sm Y Y Y Y Y ?_)
   refine Xu hA (by simp) Y Y Y Y Y ?_;rfl
  | some l =>
   by_cases hz:l=[]
   ·subst hz
    simp only[slV,List.map_nil];repeat'(first|refine ruS Y ?_|refine isS Y ?_|refine ZE Y Y Y Y ?_|refine rkS Y ?_|refine DL Y Y ?_|refine cm0 Y Y Y ?_ ?_|(intro _;try omega)|refine ZX Y Y Y ?_|refine Zg Y Y Y Y Y Y ?_|refine Sm Y Y Y Y Y ?_)
    refine Xu hA (by simp) Y Y Y Y Y ?_;rfl
   ·have hl : 1 <= l.length := by
     cases l
     ·exact absurd Y hz
     ·simp
    have he:Tr.own (.mk o h m s (some l))=.mk o h m s (some (l.map Tr.own)):=by
     rw[Tr.own,Tr.ownO,Tr.ownL_map]
    rw[he];simp only[slV,Option.getD]at *;repeat'(first|refine ruS Y ?_|refine isS Y ?_|refine ZE Y Y Y Y ?_|refine ZO ?_|refine Z5 Y ?_|refine cm0 Y Y Y ?_ ?_|(intro _;try omega)|refine ZX Y Y Y ?_|refine K3 Y Y (by omega) (by decide) Y ?_)
    refine Ze (α:=Nat × List Blk) (fun p=>[(1,.ptr A.length 0 0 0 0),(2,.ptr A.length 1 0 0 0),(3,.ref A.length 2 0 0 l.length),(17,.lit (l.map Tr.av)),(18,.int .i64 l.length),(19,.int .i64 p.1)])
     (fun p=>⟨A,false,.arr 7 0 [.agg [.int .u64 o,.int .i64 h,.int .i64 m.b,.int .i64 m.r,.int .i64 m.l,.str s,.lit (l.map Tr.av)]]::.arr 7 0 [.agg [.int .u64 0,.int .i64 0,.int .i64 0,.int .i64 0,.int .i64 0,.str [],.nils]]::.arr 7 0 (((l.take p.1).map fun t=>t.own.av)++List.replicate (l.length-p.1) (.agg [.int .u64 0,.int .i64 0,.int .i64 0,.int .i64 0,.int .i64 0,.str [],.nils]))::p.2⟩) (fun p=>p.1<=l.length) (fun p=>l.length-p.1) (0,[]) rfl ?_ (by simp) ?_
    ·simp
    rintro⟨i,G⟩ hi;simp only at hi ⊢;repeat'(first|refine ruS Y ?_|refine isS Y ?_|refine ZE Y Y Y Y ?_|refine rkS Y ?_|refine cm0 Y Y Y ?_ ?_|(intro _;try omega)|refine Zi Y Y Y ?_|refine Qn Y Y Y Y (Q2 _ (Nat.lt_succ_self _)) Y ?_|refine Qn Y Y Y Y (Ni _ (Nat.lt_succ_self _)) Y ?_|refine Jy Y Y (by omega) Zn (fun _ _=>?_)|refine Zx Y (Zb _) ?_|refine QU Y Y (Zb _) ?_|refine Jr Y Y Y (Z9 _ _ _) (Qg _ _) Y ?_)
    ·rename_i t ht
     have ht2:l[i]?=some t:=ht;have h5:=ih t (jM ht2) (hk t (jM ht2));have hlen:((l.take i).map fun t=>t.own.av).length=i:=by simp;omega
     repeat'(first|refine Xl Y Y (by omega) Y ?_|refine zA0 Y Y (h5 _) ?_)
     refine Qn (y:=.agg [.int .u64 0,.int .i64 0,.int .i64 0,.int .i64 0,.int .i64 0,.str [],.nils]) Y Y Y ?_ (Z9 _ _ _) (Qg _ _) ?_
     ·rw[show 0+(i:Int).toNat=i by omega,List.getElem?_append_right (by omega),hlen,Nat.sub_self,List.getElem?_replicate,if_pos (by omega)]
     repeat'(first|refine Qv ?_|refine isS Y ?_|refine rkS Y ?_|refine ZV Y Y (by omega) ?_)
     refine⟨(i+1,G++[.arr 7 0 [t.av]]),⟨rfl,?_⟩,by simp only;omega,by simp only;omega⟩;have hs:=Zst (l:=(l.take i).map fun t=>t.own.av) (x:=t.own.av) (z:=AV.agg [.int .u64 0,.int .i64 0,.int .i64 0,.int .i64 0,.int .i64 0,.str [],.nils]) (i:=i) (n:=l.length) hlen.symm (by omega);simp only[ZF ht2,List.map_append,jC,List.map_nil];rw[<- hs];rw[show 0+(i:Int).toNat=i by omega];rfl
    ·have hi':i=l.length:=by omega
     subst hi';simp only[Nat.sub_self,List.replicate_zero,lN,List.take_length];skip
     refine Xu hA (.inr Y) Y Y Y (TQ (l:=l.map Tr.own) (by rw[List.map_map];rfl) (by simp)) rfl ?_;rw[Tr.av,Tr.avO,Tr.avL_map]
theorem NdOk.copy{x:Nd}(h:NdOk x):NdOk x.copy:=by
 rcases h with h|⟨n,ks,h⟩
 ·exact .inl ⟨h.h,h.lo,h.hi,by have:=h.ks;simpa [Nd.copy,Nd.ks] using this⟩
 ·refine .inr ⟨n,ks,⟨?_,h.n15,h.lo,h.hi,h.kid,h.sum⟩⟩
  have:=h.eq;subst this;rfl
theorem Nd.copy_mea(x:Nd):x.copy.mea=x.mea:=rfl
theorem Nd.copy_h(x:Nd):x.copy.h=x.h:=rfl
theorem TS{lv:Nat}{N:ZC}(hr:Rd st lv ix N){o:Nat}{x:Nd}(hx:lk N o=some x)(hok:NdOk x)(h:Int)(hh:(x.h:Int)=h)(m:Mea)(hm:x.mea=m):
 S Tb Hf [.ptr lv ix 0 0 0,.int .u64 o,.int .i64 h,.agg [.int .i64 m.b,.int .i64 m.r,.int .i64 m.l]] st=some (.int .i64 0,st):=by
 subst hh hm;refine Zv Y (fun A hA=>?_);have hG:=fun L=>Fp (hr.push hA (ro:=false) (L:=L)) hx hok.len
 have hM:=fun st=>Ng x.copy hok.copy st
 rw[Nd.copy_mea]at hM;have hc:=Nd.copy_h x;generalize hy:x.copy=y at *;generalize hz:x.mea=z at *;obtain⟨yh,yt,yk⟩:=y;simp only at hc;subst hc;obtain⟨zb,zr,zl⟩:=z;cases yk;all_goals simp only[Nd.av,slV,Mea.av]at *
 all_goals repeat'(first|refine ruS Y ?_|refine isS Y ?_|refine ZE Y Y Y Y ?_|refine rkS Y ?_|refine cm0 Y Y Y ?_ ?_|(intro _;try omega)|refine ZX Y Y Y ?_|refine Zg Y Y Y Y Y Y ?_|refine ZA Y Y Y (hG _) ?_|refine ZA Y Y Y (hM _) ?_|(refine EM Y Y (Hu _ _ _ _ _ _) (fun _=>?_) (fun _=>?_)))
 all_goals try omega
 all_goals try contradiction
 all_goals first|(refine ZQ hA (by simp) Y Y Y Y ?_;rfl)|skip
theorem Val.kept_kind{N:ZC}{o h:Nat}{m:Mea}{k:Option (List Tr)}(h0:o≠0)(hk:k.getD []=[]):IsKept (.mk o h m [] k):=⟨h0,rfl,hk⟩
theorem Val.bytes_h0{N:ZC}{t:Tr}(hv:Val N t)(h:t.h=0):t.bytes<=65536:=by
 cases hv with
 | kept h0 hx hok hh hm hk =>
  rw[Tr.bytes,Tr.bytesO_getD,hk,<- hm];have:=hok.mea_pos;simp[Tr.bytesL];omega
 | leaf h1 h2 hk=>rw[Tr.bytes,Tr.bytesO_getD,hk];simp[Tr.bytesL,Mea.zero];omega
 | inner hh h2 h4 hl hb hv=>simp[Tr.h]at h
theorem Zsu{N:ZC}{t:Tr}(hv:Val N t):∀ {st:St} {lv ix:Nat} (hr:Rd st lv ix N) (kid:Bool) (hgt:Int) (hk:kid=true->(t.h:Int)=hgt/\(t.h=0->8<=t.bytes)),
 S Tb Hg [.ptr lv ix 0 0 0,t.av,.bool kid,.int .i64 hgt] st=some (.int .i64 0,st):=by
 induction hv with
 | kept h0 hx hok hh hm hk =>
  intro st lv ix hr kid hgt hkid;rename_i o h m k x;have hv:Val N (.mk o h m [] k):=.kept h0 hx hok hh hm hk;have hK:=fun st=>Hx _ (Val.kept_kind (N:=N) (h:=h) (m:=m) h0 hk) st
  have hbb:(Tr.mk o h m [] k).h=0->(Tr.mk o h m [] k).bytes<4611686018427387904:=fun q=>by have:=hv.bytes_h0 q;omega
  have hB:=fun q st=>B7 _ hv.pos.1 (hbb q) st
  generalize hbt:(Tr.mk o h m [] k).bytes=b at *;simp only[Tr.h]at hkid hbb hB;refine Zv Y (fun A hA=>?_);have hS:=fun L=>TS (hr.push hA (ro:=false) (L:=L)) hx hok h (by rw[hh]) m hm
  have hw:(k.getD []).length=0:=by rw[hk];rfl
  cases kid with
  | false =>
   cases k;all_goals simp only[Tr.av,Tr.avO,Tr.avL_map,Option.getD]at *
   all_goals repeat'(first|refine ruS Y ?_|refine isS Y ?_|refine ZE Y Y Y Y ?_|refine rkS Y ?_|refine Z5 Y ?_|refine J2 Y ?_|refine cm0 Y Y Y ?_ ?_|(intro _;try omega)|refine ZX Y Y Y ?_|refine zA0 Y Y (hK _) ?_|refine zA0 Y Y (hS _) ?_|refine YL ?_)
   all_goals refine ZQ hA (by simp) Y Y Y Y ?_
   all_goals rfl
  | true =>
   obtain⟨ha,hb8⟩:=hkid rfl;by_cases hz:h=0
   ·have hb8':=hb8 hz
    have hB':=hB hz;cases k;all_goals simp only[Tr.av,Tr.avO,Tr.avL_map,Option.getD]at *
    all_goals repeat'(first|refine ruS Y ?_|refine isS Y ?_|refine ZE Y Y Y Y ?_|refine rkS Y ?_|refine Z5 Y ?_|refine J2 Y ?_|refine cm0 Y Y Y ?_ ?_|(intro _;try omega)|refine ZX Y Y Y ?_|refine zA0 Y Y (hK _) ?_|refine zA0 Y Y (hS _) ?_|refine zA0 Y Y (hB' _) ?_|refine YL ?_)
    all_goals try omega
    all_goals refine ZQ hA (by simp) Y Y Y Y ?_
    all_goals rfl
   ·cases k
    all_goals simp only[Tr.av,Tr.avO,Tr.avL_map,Option.getD]at *
    all_goals repeat'(first|refine ruS Y ?_|refine isS Y ?_|refine ZE Y Y Y Y ?_|refine rkS Y ?_|refine Z5 Y ?_|refine J2 Y ?_|refine cm0 Y Y Y ?_ ?_|(intro _;try omega)|refine ZX Y Y Y ?_|refine zA0 Y Y (hK _) ?_|refine zA0 Y Y (hS _) ?_|refine YL ?_)
    all_goals try omega
    all_goals refine ZQ hA (by simp) Y Y Y Y ?_
    all_goals rfl
 | leaf h1 h2 hk =>
  intro st lv ix hr kid hgt hkid;rename_i s k;have hv:Val N (.mk 0 0 .zero s k):=.leaf h1 h2 hk;have hK:=fun st=>Hy (.mk 0 0 .zero s k) ⟨rfl,rfl,rfl,h1,h2,hk⟩ st
  have hB:=fun st=>B7 _ hv.pos.1 (by have:=hv.bytes_h0 rfl;omega) st
  generalize hbt:(Tr.mk 0 0 .zero s k).bytes=b at *;simp only[Tr.h]at hkid;refine Zv Y (fun A hA=>?_);have hw:(k.getD []).length=0:=by rw[hk];rfl
  cases kid with
  | false =>
   cases k;all_goals simp only[Tr.av,Tr.avO,Tr.avL_map,Option.getD]at *
   all_goals repeat'(first|refine ruS Y ?_|refine isS Y ?_|refine ZE Y Y Y Y ?_|refine rkS Y ?_|refine Z5 Y ?_|refine J2 Y ?_|refine cm0 Y Y Y ?_ ?_|(intro _;try omega)|refine ZX Y Y Y ?_|refine zA0 Y Y (hK _) ?_|refine YL ?_)
   all_goals refine ZQ hA (by simp) Y Y Y Y ?_
   all_goals rfl
  | true =>
   obtain⟨ha,hb8⟩:=hkid rfl;have hb8':=hb8 trivial;cases k;all_goals simp only[Tr.av,Tr.avO,Tr.avL_map,Option.getD]at *
   all_goals repeat'(first|refine ruS Y ?_|refine isS Y ?_|refine ZE Y Y Y Y ?_|refine rkS Y ?_|refine Z5 Y ?_|refine J2 Y ?_|refine cm0 Y Y Y ?_ ?_|(intro _;try omega)|refine ZX Y Y Y ?_|refine zA0 Y Y (hK _) ?_|refine zA0 Y Y (hB _) ?_|refine YL ?_)
   all_goals try omega
   all_goals refine ZQ hA (by simp) Y Y Y Y ?_
   all_goals rfl
 | inner hh h2 h4 hl hb hv ih =>
  intro st lv ix hr kid hgt hkid;rename_i h l;have hK:=fun st=>Hz (.mk 0 (h+1) .zero [] (some l)) ⟨rfl,rfl,rfl,by simp[Tr.h],hh,h2,h4⟩ st
  simp only[Tr.h]at hkid;refine Zv Y (fun A hA=>?_);have hkid':kid=true->((h+1:Nat):Int)=hgt:=fun q=>(hkid q).1
  simp only[Tr.av,Tr.avO,Tr.avL_map]at *
  have key:∀k Q (B:Blk) (hb0:B=.arr 7 0 [.agg [.int .u64 (0:Nat),.int .i64 ((h+1:Nat):Int),.int .i64 Mea.zero.b,.int .i64 Mea.zero.r,.int .i64 Mea.zero.l,.str [],.lit (l.map Tr.av)]]),
   (∀G,Rk (S Tb) k Q (.ex 0) [(0,.ptr lv ix 0 0 0),(5,.ptr A.length 0 0 0 0),(56,.lit (l.map Tr.av)),(57,.int .i64 l.length),(58,.int .i64 l.length),(59,.bool false)] ⟨A,false,B::G⟩) ->
   Ru (S Tb) (.loop Ss) k Q [(0,.ptr lv ix 0 0 0),(5,.ptr A.length 0 0 0 0),(56,.lit (l.map Tr.av)),(57,.int .i64 l.length),(58,.int .i64 0)] ⟨A,false,[B]⟩:=by
   rintro k Q B rfl hex
   refine Ze (α:=Nat × List Blk) (fun p=>[(0,.ptr lv ix 0 0 0),(5,.ptr A.length 0 0 0 0),(56,.lit (l.map Tr.av)),(57,.int .i64 l.length),(58,.int .i64 p.1)])
    (fun p=>⟨A,false,.arr 7 0 [.agg [.int .u64 (0:Nat),.int .i64 ((h+1:Nat):Int),.int .i64 Mea.zero.b,.int .i64 Mea.zero.r,.int .i64 Mea.zero.l,.str [],.lit (l.map Tr.av)]]::p.2⟩) (fun p=>p.1<=l.length) (fun p=>l.length-p.1) (0,[]) rfl rfl (by simp) ?_
   rintro⟨i,G⟩ hi;simp only at hi ⊢;repeat'(first|refine ruS Y ?_|refine isS Y ?_|refine ZE Y Y Y Y ?_|refine rkS Y ?_|refine cm0 Y Y Y ?_ ?_|(intro _;try omega)|refine YH Y Y (by omega) ?_|refine Zi Y Y Y ?_|refine Jy Y Y (by omega) Zn (fun _ _=>?_)|refine Zx Y (Zb _) ?_|refine QU Y Y (Zb _) ?_|refine Jr Y Y Y (Z9 _ _ _) (Qg _ _) Y ?_)
   ·rename_i t ht
    have ht2:l[i]?=some t:=ht;have htm:=jM ht2;have hth:=hl t htm;have h5:=fun L=>ih t htm (hr.push hA (ro:=false) (L:=L)) true (((h+1:Nat):Int)-1) (fun _=>⟨by rw[hth];omega,fun q=>hb t htm (by omega)⟩)
    repeat'(first|refine ruS Y ?_|refine isS Y ?_|refine rkS Y ?_|refine cm0 Y Y Y ?_ ?_|(intro _;try omega)|refine ZV Y Y (by omega) ?_|refine zA0 Y Y (h5 _) ?_)
    exact⟨(i+1,G++[.arr 7 0 [t.av]]),⟨rfl,rfl⟩,by simp only;omega,by simp only;omega⟩
   ·have:i=l.length:=by omega
    subst this;exact hex G
  cases kid with
  | false =>
   repeat'(first|refine ruS Y ?_|refine isS Y ?_|refine ZE Y Y Y Y ?_|refine ZO ?_|refine Z5 Y ?_|refine cm0 Y Y Y ?_ ?_|(intro _;try omega)|refine ZX Y Y Y ?_|refine ZA Y Y Y (hK _) ?_)
   refine key _ _ _ Y (fun G=>?_);repeat'(first|refine ruS Y ?_|refine isS Y ?_|refine rkS Y ?_)
   refine ZQ hA (by simp) Y Y Y Y ?_;rfl
  | true =>
   have ha:=hkid' rfl;repeat'(first|refine ruS Y ?_|refine isS Y ?_|refine ZE Y Y Y Y ?_|refine ZO ?_|refine Z5 Y ?_|refine cm0 Y Y Y ?_ ?_|(intro _;try omega)|refine ZX Y Y Y ?_|refine ZA Y Y Y (hK _) ?_)
   all_goals try omega
   refine key _ _ _ Y (fun G=>?_);repeat'(first|refine ruS Y ?_|refine isS Y ?_|refine rkS Y ?_)
   refine ZQ hA (by simp) Y Y Y Y ?_;rfl
theorem Val.kind{N:ZC}{t:Tr}(hv:Val N t):IsKept t\/IsLeaf t\/IsInner t:=by
 cases hv with
 | kept h0 hx hok hh hm hk=>exact .inl ⟨h0,rfl,hk⟩
 | leaf h1 h2 hk=>exact .inr (.inl ⟨rfl,rfl,rfl,h1,h2,hk⟩)
 | inner hh h2 h4 hl hb hv=>exact .inr (.inr ⟨rfl,rfl,rfl,Nat.succ_le_succ (Nat.zero_le _),hh,h2,h4⟩)
theorem Nj{lv:Nat}{N:ZC}(hr:Rd st lv ix N){t:Tr}(hv:Val N t)(hb:t.bytes<=65536):S Tb J6 [.ptr lv ix 0 0 0,t.av] st=some (.int .i64 0,st):=by
 have hB:=fun st=>B7 t hv.pos.1 (by omega) st
 have hK:∃k:Int,k≠1/\∀st,S Tb QW [t.av] st=some (.int .i64 k,st):=by
  rcases hv.kind with h|h|h
  ·exact⟨2,by decide,fun st=>Hx _ h st⟩
  ·exact⟨3,by decide,fun st=>Hy _ h st⟩
  ·exact⟨4,by decide,fun st=>Hz _ h st⟩
 obtain⟨k,hk1,hK⟩:=hK;refine Zv Y (fun A hA=>?_);have hC:=fun L=>Zsu hv (hr.push hA (ro:=false) (L:=L)) false 0 (fun q=>by cases q)
 repeat'(first|refine ruS Y ?_|refine isS Y ?_|refine rkS Y ?_|refine cm0 Y Y Y ?_ ?_|(intro _;try omega)|refine Qc Y Y Y Y ?_|refine QU Y Y (Zb _) ?_|refine Zi Y (Zn _) (Z1 _) ?_|refine zA0 Y Y (hK _) ?_|refine zA0 Y Y (hC _) ?_|refine zA0 Y Y (hB _) ?_)
 all_goals try omega
 refine ZQ hA (by simp) Y Y Y Y ?_;rfl
theorem TT{lv:Nat}{t:Tr}(ht:IsEmpty t):S Tb J6 [.ptr lv ix 0 0 0,t.av] st=some (.int .i64 0,st):=by
 have hK:=fun st=>Fs t ht st
 refine Zv Y (fun A hA=>?_);repeat'(first|refine ruS Y ?_|refine isS Y ?_|refine rkS Y ?_|refine cm0 Y Y Y ?_ ?_|(intro _;try omega)|refine Qc Y Y Y Y ?_|refine QU Y Y (Zb _) ?_|refine Zi Y (Zn _) (Z1 _) ?_|refine zA0 Y Y (hK _) ?_)
 refine ZQ hA (by simp) Y Y Y Y ?_;rfl
structure Ro where
 at_:Nat
 h:Nat
 m:Mea
deriving DecidableEq
def Ro.zero:Ro:=⟨0,0,.zero⟩
def Ro.av(r:Ro):AV:=.agg [.int .u64 r.at_,.int .i64 r.h,.int .i64 r.m.b,.int .i64 r.m.r,.int .i64 r.m.l]
def Tr.zero:Tr:=.mk 0 0 .zero [] none
def Tr.keep(r:Ro):Tr:=.mk r.at_ r.h r.m [] none
theorem eqv5(r:Ro):eqV [(0,0),(1,0),(2,0),(3,0),(4,0)] 0 r.av (.agg [.int .u64 0,.int .i64 0,.int .i64 0,.int .i64 0,.int .i64 0])=some (decide (r=.zero)):=by
 show (if decide ((r.at_:Int)=0)=true then (if decide ((r.h:Int)=0)=true then (if decide (r.m.b=0)=true then (if decide (r.m.r=0)=true then (if decide (r.m.l=0)=true then some true else some false) else some false) else some false) else some false) else some false)=_
 have:r=.zero↔((r.at_:Int)=0/\(r.h:Int)=0/\r.m.b=0/\r.m.r=0/\r.m.l=0):=by
  obtain⟨a,h,⟨b,c,d⟩⟩:=r;simp[Ro.zero,Mea.zero]
 by_cases h1:(r.at_:Int)=0<;>by_cases h2:(r.h:Int)=0<;>by_cases h3:r.m.b=0<;>by_cases h4:r.m.r=0<;>by_cases h5:r.m.l=0<;>simp only[this,h1,h2,h3,h4,h5,decide_true,decide_false,if_true,if_false,and_true,and_false,jB]
theorem ZuR{lv:Nat}{N:ZC}(hr:Rd st lv ix N){r:Ro}{x:Nd}(hx:lk N r.at_=some x)(hok:NdOk x)(h0:r.at_≠0)(hh:x.h=r.h)(hm:x.mea=r.m):
 S Tb Yd [.ptr lv ix 0 0 0,r.av] st=some (.tup [(Tr.keep r).av,.int .i64 0],st):=by
 refine Zv Y (fun A hA=>?_);have hS:=fun L=>TS (hr.push hA (ro:=false) (L:=L)) hx hok r.h (by rw[hh]) r.m hm
 have hq:=eqv5 r;unfold Ro.av at *;repeat'(first|refine ruS Y ?_|refine isS Y ?_|refine ZE Y Y Y Y ?_|refine rkS Y ?_|refine cm0 Y Y Y ?_ ?_|(intro _;try omega)|refine Zf Y Y Y ?_|refine Qc Y Y Y Y ?_|refine ZX Y Y Y ?_|refine Zg Y Y Y Y Y Y ?_|(refine EM Y Y hq (fun _=>?_) (fun _=>?_))|refine ZA Y Y Y (hS _) ?_)
 ·rename_i h
  rw[h]at h0;exact absurd Y h0
 ·refine Xu hA (by simp) Y Y Y Y Y ?_
  rfl
theorem ZnY{lv:Nat}:S Tb Yd [.ptr lv ix 0 0 0,Ro.zero.av] st=some (.tup [Tr.zero.av,.int .i64 0],st):=by
 refine Zv Y (fun A hA=>?_);have hq:=eqv5 .zero;unfold Ro.av at *;repeat'(first|refine ruS Y ?_|refine isS Y ?_|refine ZE Y Y Y Y ?_|refine rkS Y ?_|refine Zf Y Y Y ?_|refine Qc Y Y Y Y ?_|refine ZX Y Y Y ?_|refine Zg Y Y Y Y Y Y ?_)
 refine Xu hA (by simp) Y Y Y Y Y ?_;rfl
inductive Sl (st:St):AV->List Tr->Prop
 | lit (l:List Tr):Sl st (.lit (l.map Tr.av)) l
 | ref {lv ix ver s n:Nat} {l:List Tr} {es:LV} (hg:st.get lv ix=some (.arr 7 ver es)) (hn:n=l.length) (hl:s+n<=es.length) (he:(es.drop s).take n=l.map Tr.av):Sl st (.ref lv ix ver s n) l
theorem Sl.push{L:List Blk}{l:List Tr}(hA:A=st.A++[(st.ro,st.L)])(h:Sl st v l):Sl ⟨A,ro,L⟩ v l:=by
 cases h with
 | lit l=>exact .lit l
 | ref hg hn hl he=>exact .ref (ZD hA hg) hn hl he
theorem Sl.elems{l:List Tr}(h:Sl st v l):elems st v=some (l.map Tr.av):=by
 cases h with
 | lit l=>rfl
 | ref hg hn hl he=>simp only[QAbs.elems,hg,AG,true_and,if_pos hl,he]
theorem Sl.get{s:Nat}{l:List Tr}(hn:n=l.length)(he:(es.drop s).take n=l.map Tr.av){t:Tr}(ht:l[i]?=some t):es[s+i]?=some t.av:=by
 have hlt:i<l.length:=(List.getElem?_eq_some_iff.1 ht).1;have h1:((es.drop s).take n)[i]?=some t.av:=by rw[he,jG,ht];rfl
 rw[List.getElem?_take,if_pos (by omega),List.getElem?_drop]at h1;exact h1
theorem Sl.weak{l:List Tr}(h:Sl st v l):QAbs.weak v=v:=by cases h<;>rfl
def Tr.hs(l:List Tr):Nat:=match l with
 | []=>0
 | t::_=>t.h
def grp:List Tr->Tr
 | []=>.zero
 | [t]=>t
 | t::l=>.mk 0 (t.h+1) .zero [] (some (t::l))
theorem Ea{l:List Tr}(h:2<=l.length):grp l=.mk 0 (Tr.hs l+1) .zero [] (some l):=by
 match l,h with
 | a::b::r,_=>rfl
theorem H2{L:List Blk}{b:Nat}{t:Tr}(ht:JZ e b=some (.ptr A.length ix ver 0 0))(hg:L[ix]?=some (.arr w ver [t.av])):AH ⟨A,false,L⟩ e (.c b true 7)=some t.av:=by
 simp only[AH,Z0 ht,loadP,St.get_cur,hg,vis,Ax,if_true,List.getElem?_cons_zero,oS,Zb]
theorem TU{L:List Blk}{x:Ex}{b:Nat}{t:Tr}{u:AV}(hA:A=st.A++[(st.ro,st.L)])(hx:x=.norm\/x=.ret)(ht:JZ e b=some (.ptr A.length ix ver 0 0))(hg:L[ix]?=some (.arr w ver [t.av]))(hu:t.av=u):QT false [.c b true 7] (x,e,⟨A,false,L⟩)=some (u,st):=by
 subst hu;refine Bi hA hx ?_ (Z9 _ _ _) Y;simp only[QE,AM,H2 ht hg,oS,Option.map_some,BE]
theorem Cf{L:List Blk}{x:Ex}{b c:Nat}{t:Tr}{k:IntKind}{n:Int}{u:AV}(hA:A=st.A++[(st.ro,st.L)])(hx:x=.norm\/x=.ret)(ht:JZ e b=some (.ptr A.length ix ver 0 0))(hg:L[ix]?=some (.arr w ver [t.av]))(hc:JZ e c=some (.int k n))(hu:.tup [t.av,.int k n]=u):QT false [.c b true 7,.s c] (x,e,⟨A,false,L⟩)=some (u,st):=by
 subst hu;refine Bi (v:=.tup [t.av,.int k n]) (ro:=false) (L':=L) hA hx ?_ ?_ Y
 ·simp only[QE,AM,H2 ht hg,oS]
  simp only[AH,Z0 hc,oS,Option.map_some,BE]
 ·show (mapSt (ZI 5 A.length) _ _).bind Br=_
  rw[mapSt,H1 3];rfl
theorem Ta{l:List Tr}(h:(l.length:Int)=1){t:Tr}(ht:l[0]?=some t):grp l=t:=by
 match l,h with
 | [a],_=>simpa [grp] using ht
theorem ZuS{l:List Tr}{t:Tr}(ht:l[0]?=some t):Tr.hs l=t.h:=by
 match l with
 | a::r=>simp at ht;subst ht;rfl
theorem Xe(t:Tr):Qs t.av false 1 1=some (.int .i64 t.h):=by
 obtain⟨o,h,m,s,k⟩:=t;cases k<;>rfl
section
variable {O:Orc}{k:List Fr}{Q:JD}{e:Env}{A:List (Bool × List Blk)}{L:List Blk}{keep:List Nat}{is:List PI}{d:Nat}
theorem DO{st':St}{K:WK}{o:PO}(hv:Zt e st o K=some (v,st'))(h:Is O is keep k Q ((d,v)::e) st'):Is O (⟨some d,none,false,.w K o⟩::is) keep k Q e st :=
 Zm (v:=v) (st':=st') (by simp only[ZW];exact hv) h
theorem Tc{s x:Opd}{l:List Tr}(hs:ZL e s=some .nils)(hx:ZL e x=some v)(hv:Sl ⟨A,false,L⟩ v l)(hl:l.length<4294967296):
 evalPO e ⟨A,false,L⟩ (.app 7 80 s x)=some (.ref A.length L.length 0 0 l.length,⟨A,false,L++[.arr 7 0 (l.map Tr.av)]⟩):=by
 have hw:=Yu l;simp only[evalPO,ZB hs,ZB hx,hv.elems,oS,Q8,List.length_map,hw,and_true,if_pos (show l.length<4294967296/\80<=4096 by omega),St.new_cur,Jd]
theorem Td{s x:Opd}{l:List Tr}(hs:ZL e s=some .nils)(hx:ZL e x=some v)(hv:Sl ⟨A,false,L⟩ v l)(hl:l.length<4294967296)(h:Is O is keep k Q ((d,.ref A.length L.length 0 0 l.length)::e) ⟨A,false,L++[.arr 7 0 (l.map Tr.av)]⟩):
 Is O (⟨some d,none,false,.app 7 80 s x⟩::is) keep k Q e ⟨A,false,L⟩ :=
 Zm (v:=.ref A.length L.length 0 0 l.length) (st':=⟨A,false,L++[Blk.arr 7 0 (l.map Tr.av)]⟩) (by simp only[ZW];exact Tc hs hx hv hl) h
theorem Nl{s x:Opd}{l:List Tr}(hs:ZL e s=some .nils)(hx:ZL e x=some v)(hv:Sl ⟨A,false,L⟩ v l)(hl:l.length<4294967296)(h:Is O is keep k Q ((d,.ref A.length L.length 0 0 l.length)::e) ⟨A,false,L++[.arr 7 0 (l.map Tr.av)]⟩):
 Is O (⟨some d,none,false,.w .app0 (.app 7 80 s x)⟩::is) keep k Q e ⟨A,false,L⟩ :=
 DO (by simp only[Zt,Do,ZB hs,Al,if_true];exact Tc hs hx hv hl) h
theorem H3{s x:Opd}{l m:List Tr}(hs:ZL e s=some (.ref A.length ix ver 0 n))(hg:L[ix]?=some (.arr 7 ver (m.map Tr.av)))(hn:n=m.length)(hx:ZL e x=some v)(hv:Sl ⟨A,false,L⟩ v l)(hl:m.length+l.length<4294967296)
 (h:Is O is keep k Q ((d,.ref A.length ix (ver+1) 0 (m++l).length)::e) ⟨A,false,L.set ix (.arr 7 (ver+1) ((m++l).map Tr.av))⟩):Is O (⟨some d,none,false,.app 7 80 s x⟩::is) keep k Q e ⟨A,false,L⟩:=by
 have hlt:ix<L.length:=by
  rw[List.getElem?_eq_some_iff]at hg;exact hg.1
 subst hn;refine Zm (v:=.ref A.length ix (ver+1) 0 (m++l).length) (st':=⟨A,false,L.set ix (.arr 7 (ver+1) ((m++l).map Tr.av))⟩) ?_ h;simp only[ZW,evalPO,ZB hs,ZB hx,hv.elems,oS,Q8,Yu,if_true,Fq,BX,St.get_cur,hg,vis,Ag,true_and,List.length_map,if_pos (show 0+m.length<=m.length/\m.length+l.length<4294967296/\80<=4096 by omega),St.put,if_false,jB,if_pos hlt,List.drop_zero];rw[List.take_of_length_le (by simp),List.map_append,lL]
end
theorem BK{l:List Tr}(hl:l.length<=65536)(hh:∀t∈l,t.h<=65536)(hv:Sl st v l):S Tb QC [v] st=some ((grp l).av,st):=by
 refine Zv Y (fun A hA=>?_);have hv2:=fun L=>hv.push hA (ro:=false) (L:=L)
 have fin:∀ {L:List Blk} {e:Env} {h:Int} {u:Tr},l[0]?=some u->2<=l.length->h=u.h+1->JZ e 2=some (.ptr A.length 0 0 0 0)->L=[.arr 7 0 [.agg [.int .u64 0,.int .i64 h,.int .i64 0,.int .i64 0,.int .i64 0,.str [],.ref A.length 1 0 0 l.length]],.arr 7 0 (l.map Tr.av)] ->
  QT false [.c 2 true 7] (.ret,e,⟨A,false,L⟩)=some ((grp l).av,st):=by
  intro L e h u hu h2 hhu he hL;subst hL hhu;have hval:=Bi (e:=e) (res:=[.c 2 true 7]) (x:=.ret) (v:=.agg [.int .u64 0,.int .i64 ((u.h:Int)+1),.int .i64 0,.int .i64 0,.int .i64 0,.str [],.ref A.length 1 0 0 l.length]) hA (.inr rfl) (by
   simp only[QE,AM,AH,Z0 he,loadP,St.get_cur,List.getElem?_cons_zero,vis,Ax,if_true,oS];rfl) (TQ (l:=l) (ix:=1) (L:=[.arr 7 0 [.agg [.int .u64 0,.int .i64 ((u.h:Int)+1),.int .i64 0,.int .i64 0,.int .i64 0,.str [],.ref A.length 1 0 0 l.length]],.arr 7 0 (l.map Tr.av)]) rfl rfl) rfl
  rw[hval,Ea h2,ZuS hu,Tr.av,Tr.avO,Tr.avL_map];rfl
 cases hv with
 | lit =>
  have hvs:=fun L=>Sl.lit (st:=⟨A,false,L⟩) l
  repeat'(first|refine ruS Y ?_|refine isS Y ?_|refine rkS Y ?_|refine Z5 Y ?_|refine cm0 Y Y Y ?_ ?_|(intro _;try omega)|refine Zf Y Y Y ?_|refine ZX Y Y Y ?_|refine Zg Y Y Y Y Y Y ?_|refine Jy Y Y (by omega) Zn (fun _ _=>?_)|refine Zx Y (Zb _) ?_|refine Zg Y Y Y (Z9 _ _ _) (Qg _ _) Y ?_)
  ·rename_i h
   have:l=[]:=List.length_eq_zero_iff.1 (by omega);subst this;refine Xu hA (by simp) Y Y Y Y Y ?_;rfl
  ·rename_i h1 t ht
   exact TU hA (.inr Y) Y Y (by rw[Ta h1 ht])
  ·rename_i h0 h1 t ht
   have hth:=hh t (jM ht);refine Zx Y (Xe _) ?_;repeat'(first|refine isS Y ?_|refine rkS Y ?_|refine ZV Y Y (by omega) ?_|refine Zf Y Y Y ?_|refine Zg Y Y Y (Ni _ (Nat.lt_succ_self _)) Y Y ?_|refine DO Y ?_|refine Nl Y Y (hvs _) (by omega) ?_|refine Xz ?_)
   exact fin ht (by omega) Y Y Y
 | @ref lv ix ver s n _ es hg hn hlen he =>
  have hvs:=fun L=>hv2 L
  have hg2:=fun L=>ZD hA (ro:=false) (L:=L) hg
  have hget:=fun {i} {t}=>Sl.get (i:=i) (t:=t) hn he
  have hwi:∀L,wIs 7 ver (St.get ⟨A,false,L⟩ lv ix)=true:=fun L=>by rw[hg2];simp[wIs]
  repeat'(first|refine ruS Y ?_|refine isS Y ?_|refine rkS Y ?_|refine Z6 Y ?_|refine cm0 Y Y Y ?_ ?_|(intro _;try omega)|refine Zf Y Y Y ?_|refine ZX Y Y Y ?_|refine Zg Y Y Y Y Y Y ?_|refine JH Y Y (by omega) (hwi _) ?_)
  ·rename_i h
   have:l=[]:=List.length_eq_zero_iff.1 (by omega);subst this;refine Xu hA (by simp) Y Y Y Y Y ?_;rfl
  ·rename_i h1
   obtain⟨t,ht⟩:∃t,l[0]?=some t:=⟨l[0]'(by omega),by simp⟩
   refine Zk Y (hg2 _) (hget ht) (Zb t) ?_;repeat'(first|refine Jg Y ?_|refine rkS Y ?_|refine Zg Y Y Y (Z9 _ _ _) (Qg _ _) Y ?_|refine Xz ?_)
   exact TU hA (.inr Y) Y Y (by rw[Ta (by omega) ht])
  ·rename_i h0 h1
   have hnz:l.length≠0:=by omega
   obtain⟨t,ht⟩:∃t,l[0]?=some t:=⟨l[0]'(by omega),by simp⟩
   have hth:=hh t (jM ht);skip
   refine Zk Y (hg2 _) (hget ht) (Xe t) ?_;repeat'(first|refine isS Y ?_|refine rkS Y ?_|refine ZV Y Y (by omega) ?_|refine Zf Y Y Y ?_|refine Zg Y Y Y (Ni _ (Nat.lt_succ_self _)) Y Y ?_|refine DO Y ?_|refine Nl Y Y (hvs _) (by omega) ?_|refine Xz ?_)
   exact fin ht (by omega) Y Y Y
def XK(n g:Int)(i:Nat):Int:=n / g+if (i:Int)<n % g then 1 else 0
theorem ZnZ(st:St)(lv ix jx:Nat)(i:Nat)(n g:Int)(hn:st.get lv ix=some (.arr 1 0 [.int .i64 n]))(hg:st.get lv jx=some (.arr 1 0 [.int .i64 g]))(h0:0<=n/\n<4294967296)(h1:0<g):
 S Tb J0 [.int .i64 i,.ptr lv ix 0 0 0,.ptr lv jx 0 0 0] st=some (.int .i64 (XK n g i),st):=by
 have q1:n / g<=n:=Int.ediv_le_self g h0.1;have q2:0<=n / g:=Int.ediv_nonneg h0.1 (by omega);refine Zv Y (fun A hA=>?_);repeat'(first|refine ruS Y ?_|refine isS Y ?_|refine rkS Y ?_|refine cm0 Y Y Y ?_ ?_|(intro _;try omega)|refine ZV Y Y (by omega) ?_|refine FZ Y Y (by omega) ?_|refine SX Y Y (by omega) ?_|refine Zk Y (ZD hA hn) Y Y ?_|refine Zk Y (ZD hA hg) Y Y ?_)
 ·refine ZQ hA (by simp) Y Y Y Y ?_
  unfold XK;rw[if_pos (by assumption)]
 ·refine ZQ hA (by simp) Y Y Y Y ?_
  unfold XK;rw[if_neg (by omega),Int.add_zero]
theorem Te(A)(k Q)(n g:Int)(h0:0<=n/\n<4294967296)(h1:0<g/\g<4294967296)
 (hk:Rk (S Tb) k Q (.ex 0) [(6,.func (.func J0) [] [.ptr A.length 0 0 0 0,.ptr A.length 1 0 0 0]),(7,.ref A.length 2 0 0 g.toNat),(23,.int .i64 g),(24,.int .i64 g),(25,.bool false)]
  ⟨A,false,[.arr 1 0 [.int .i64 n],.arr 1 0 [.int .i64 g],.arr 1 0 ((List.range g.toNat).map fun (i:Nat)=>.int .i64 (XK n g i))]⟩) :
 Ru (S Tb) (.loop Sy) k Q [(6,.func (.func J0) [] [.ptr A.length 0 0 0 0,.ptr A.length 1 0 0 0]),(7,.ref A.length 2 0 0 g.toNat),(23,.int .i64 g),(24,.int .i64 0)]
  ⟨A,false,[.arr 1 0 [.int .i64 n],.arr 1 0 [.int .i64 g],.arr 1 0 (List.replicate g.toNat (.int .i64 0))]⟩:=by
 refine Ze (α:=Nat) (fun i=>[(6,.func (.func J0) [] [.ptr A.length 0 0 0 0,.ptr A.length 1 0 0 0]),(7,.ref A.length 2 0 0 g.toNat),(23,.int .i64 g),(24,.int .i64 i)])
  (fun i=>⟨A,false,[.arr 1 0 [.int .i64 n],.arr 1 0 [.int .i64 g],.arr 1 0 ((List.range g.toNat).map fun (j:Nat)=>.int .i64 (if j<i then XK n g j else 0))]⟩)
  (fun i=>i<=g.toNat) (fun i=>g.toNat-i) 0 rfl ?_ (Nat.zero_le _) ?_
 ·simp only[Nat.not_lt_zero,if_false,List.map_const',List.length_range]
 intro i hi;repeat'(first|refine ruS Y ?_|refine isS Y ?_|refine rkS Y ?_|refine cm0 Y Y Y ?_ ?_|(intro _;try omega))
 ·have hl:=ZnZ ⟨A,false,[.arr 1 0 [.int .i64 n],.arr 1 0 [.int .i64 g],.arr 1 0 ((List.range g.toNat).map fun (j:Nat)=>.int .i64 (if j<i then XK n g j else 0))]⟩ A.length 0 1 i n g (by rw[St.get_cur];rfl) (by rw[St.get_cur];rfl) h0 h1.1
  refine ZA Y Y Y hl ?_;refine Xl Y Y (by omega) Y ?_;refine Sd (y:=.int .i64 0) Y Y Y ?_ Y Y Y ?_
  ·rw[jG,List.getElem?_range (by omega)];simp
  repeat'(first|refine Qv ?_|refine isS Y ?_|refine rkS Y ?_|refine ZV Y Y (by omega) ?_)
  refine⟨i+1,⟨rfl,?_⟩,by omega,by omega⟩
  congr 1
  congr 1
  congr 1
  congr 1
  congr 1
  apply List.ext_getElem
  ·simp
  ·intro j hj hj'
   simp only[List.getElem_set,List.getElem_map,List.getElem_range];simp only[Nat.zero_add,Int.toNat_natCast];by_cases q:i=j
   ·subst q;simp
   ·rw[if_neg q]
    have:j<i+1↔j<i:=by omega
    simp only[this]
 ·have e1:(i:Int)=g:=by omega
  have e2:i=g.toNat:=by omega
  have e3:((List.range g.toNat).map fun (j:Nat)=>AV.int .i64 (if j<i then XK n g j else 0))=(List.range g.toNat).map fun (j:Nat)=>.int .i64 (XK n g j):=by
   apply List.map_congr_left;intro j hj;rw[List.mem_range]at hj;rw[if_pos (by omega)]
  rw[e3,e1];exact hk
def ZZ(n most:Int):Int:=(n-1) / most+1
def A7(n most:Int):List Int:=if n=0 then [] else (List.range (ZZ n most).toNat).map fun i=>XK n (ZZ n most) i
def Cg(l:List Int):AV:=.lit (l.map (.int .i64))
theorem Xf{n:Int}(h:1<=n)(h1:1<=most):1<=ZZ n most/\ZZ n most<=n:=by
 have q1:(n-1) / most<=n-1:=Int.ediv_le_self most (by omega);have q2:0<=(n-1) / most:=Int.ediv_nonneg (by omega) (by omega);unfold ZZ;omega
theorem Zk6{n:Int}(h1:1<=most)(hr:0<n % most):n / most+1=ZZ n most:=by
 unfold ZZ;have e1:most*(n / most)+n % most=n:=Int.mul_ediv_add_emod n most;have e2:n % most<most:=Int.emod_lt_of_pos n (by omega);have:(n-1) / most=n / most:=by
  rw[show n-1=(n % most-1)+most*(n / most) by omega,Int.add_mul_ediv_left _ _ (by omega),Int.ediv_eq_zero_of_lt (by omega) (by omega)];omega
 omega
theorem Zk7{n:Int}(h1:1<=most)(hr:n % most<=0):n / most=ZZ n most:=by
 unfold ZZ;have e1:most*(n / most)+n % most=n:=Int.mul_ediv_add_emod n most;have e2:0<=n % most:=Int.emod_nonneg n (by omega);have:(n-1) / most=n / most-1:=by
  rw[show n-1=(most-1)+most*(n / most-1) by rw[Int.mul_sub];omega,Int.add_mul_ediv_left _ _ (by omega),Int.ediv_eq_zero_of_lt (by omega) (by omega)];omega
 omega
theorem Tf(n most:Int)(st:St)(h0:0<=n/\n<2147483648)(h1:1<=most):S Tb Hi [.int .i64 n,.int .i64 most] st=some (Cg (A7 n most),st):=by
 have q1:n / most<=n:=Int.ediv_le_self most h0.1;have q2:0<=n / most:=Int.ediv_nonneg h0.1 (by omega);refine Zv Y (fun A hA=>?_);repeat'(first|refine ruS Y ?_|refine isS Y ?_|refine ZE Y Y Y Y ?_|refine rkS Y ?_|refine cm0 Y Y Y ?_ ?_|(intro _;try omega)|refine ZV Y Y (by omega) ?_|refine FZ Y Y (by omega) ?_|refine SX Y Y (by omega) ?_|refine X3 Y Y ?_|refine ZX Y Y Y ?_|refine Zg Y Y Y Y Y Y ?_|refine K3 Y Y (by omega) (by decide) Y ?_)
 ·refine ZQ hA (by simp) Y Y Y Y ?_
  rename_i hz;simp[A7,hz,Cg]
 ·rename_i hz hr
  have hp:=Xf (show 1<=n by omega) h1;rw[Zk6 h1 hr];refine Te A _ _ n (ZZ n most) (by omega) (by omega) ?_;repeat'(first|refine ruS Y ?_|refine isS Y ?_|refine rkS Y ?_)
  refine B5 hA (by simp) Y Y (by simp) (by first|(simp[imm];done)|exact fun _ h=>absurd h (by simp)) ?_;unfold Cg A7;rw[if_neg (by omega)];simp[Function.comp_def]
 ·rename_i hz hr
  have hp:=Xf (show 1<=n by omega) h1;rw[Zk7 h1 hr];refine Te A _ _ n (ZZ n most) (by omega) (by omega) ?_;repeat'(first|refine ruS Y ?_|refine isS Y ?_|refine rkS Y ?_)
  refine B5 hA (by simp) Y Y (by simp) (by first|(simp[imm];done)|exact fun _ h=>absurd h (by simp)) ?_;unfold Cg A7;rw[if_neg (by omega)];simp[Function.comp_def]
theorem Zsv(n most:Int)(st:St)(h:0<=n/\n<=65536/\1<=most):S Tb LM [.int .i64 n,.int .i64 most] st=some (.tup [Cg (A7 n most),.int .i64 0],st):=by
 refine Zv Y (fun A hA=>?_);repeat'(first|refine ruS Y ?_|refine isS Y ?_|refine rkS Y ?_|refine cm0 Y Y Y ?_ ?_|(intro _;try omega)|refine ZA Y Y Y (Tf n most _ (by omega) (by omega)) ?_)
 all_goals refine ZQ hA (by simp) Y Y Y Y ?_
 all_goals rfl
def Ft(l:List B8):AV:=.lit (l.map .str)
abbrev Ai(s:B8):Prop:=1<=s.length/\s.length<=16
theorem Nm(s:B8)(st:St):S Tb Fj [.str s] st=some (.bool (decide (Ai s)),st):=by
 refine Zv Y (fun A hA=>?_);repeat'(first|refine ruS Y ?_|refine isS Y ?_|refine rkS Y ?_|refine JQ Y ?_|refine cm0 Y Y Y ?_ ?_|(intro _;try omega))
 all_goals refine Bj hA (by simp) Y Y ?_
 all_goals (simp;omega)
noncomputable def DP(s:B8)(k:Int):AV :=
 open Classical in
 if Ai s then if k<0\/s.length<k then .tup [.str [],.str [],.int .i64 3] else .tup [.str (s.take k.toNat),.str (s.drop k.toNat),.int .i64 0]
 else .tup [.str [],.str [],.int .i64 2]
theorem Tg{s:B8}{k:Int}(h:Ai s)(h1:0<=k/\k<=s.length):.tup [.str (s.take k.toNat),.str (s.drop k.toNat),.int .i64 0]=DP s k:=by
 unfold DP;rw[if_pos h,if_neg (by omega)]
theorem ZlA{s:B8}{k:Int}(h:Ai s)(h1:k<0\/s.length<k):.tup [.str [],.str [],.int .i64 3]=DP s k:=by
 unfold DP;rw[if_pos h,if_pos h1]
theorem ZpY{s:B8}{k:Int}(h:¬ Ai s):.tup [.str [],.str [],.int .i64 2]=DP s k:=by
 unfold DP;rw[if_neg h]
theorem Zvj(s:B8)(k:Int)(st:St):S Tb LP [.str s,.int .i64 k] st=some (DP s k,st):=by
 refine Zv Y (fun A hA=>?_);repeat'(first|refine ruS Y ?_|refine isS Y ?_|refine rkS Y ?_|refine JQ Y ?_|refine cm0 Y Y Y ?_ ?_|(intro _;try omega)|refine HL Y Y (by omega) ?_|refine HM Y Y (by omega) ?_|(refine K6 Y Y Y (Nm s _) (fun _=>?_) (fun _=>?_)))
 all_goals refine ZQ hA (by simp) Y Y Y Y ?_
 all_goals first|(exact Tg (by assumption) (by omega))|(exact ZlA (by assumption) (by omega))|(exact ZpY (by assumption))
noncomputable def AN(a b:B8):List B8 :=
 if a.length+b.length<=16 then [a++b]
 else if 8<=a.length/\8<=b.length then [a,b]
 else [(a++b).take ((a.length+b.length+1) / 2),(a++b).drop ((a.length+b.length+1) / 2)]
theorem Zna{a b:B8}(h:a.length+b.length<=16):AN a b=[a++b]:=by unfold AN;rw[if_pos h]
theorem Znb{a b:B8}(h:¬ a.length+b.length<=16)(h1:8<=a.length/\8<=b.length):AN a b=[a,b]:=by unfold AN;rw[if_neg h,if_pos h1]
theorem ZlB{a b:B8}(h:¬ a.length+b.length<=16)(h1:¬ (8<=a.length/\8<=b.length)):AN a b=[(a++b).take ((a.length+b.length+1) / 2),(a++b).drop ((a.length+b.length+1) / 2)]:=by unfold AN;rw[if_neg h,if_neg h1]
theorem Zsw(a b:B8):((((a++b).length:Int)+1) / 2).toNat=(a.length+b.length+1) / 2:=by
 rw[lL];omega
theorem Zsx(a b:B8)(st:St)(ha:Ai a)(hb:Ai b):S Tb LT [.str a,.str b] st=some (.tup [Ft (AN a b),.int .i64 0],st):=by
 have hab:((a++b).length:Int)=a.length+b.length:=by rw[lL];omega
 refine Zv Y (fun A hA=>?_);repeat'(first|refine ruS Y ?_|refine isS Y ?_|refine rkS Y ?_|refine JQ Y ?_|refine cm0 Y Y Y ?_ ?_|(intro _;try omega)|refine ZV Y Y (by omega) ?_|refine FZ Y Y (by omega) ?_|refine SY Y Y (by omega) ?_|refine HL Y Y (by omega) ?_|refine HM Y Y (by omega) ?_|refine Z7 Y Y Y Y ?_|(refine K6 Y Y Y (Nm a _) (fun _=>?_) (fun _=>?_))|(refine K6 Y Y Y (Nm b _) (fun _=>?_) (fun _=>?_)))
 all_goals try contradiction
 all_goals refine ZQ hA (by simp) Y Y Y Y ?_
 ·rw[Zna (by omega)];rfl
 ·rw[Znb (by omega) (by omega)];rfl
 all_goals rw[ZlB (by omega) (by omega),Zsw];rfl
def AL(n g:Int)(i:Nat):Int:=(i:Int)*(n / g)+min (i:Int) (n % g)
theorem Fu(n g:Int)(i:Nat):AL n g (i+1)=AL n g i+XK n g i:=by
 unfold AL XK;have e:((i+1:Nat):Int)*(n / g)=(i:Int)*(n / g)+n / g:=by rw[Int.natCast_add,Int.add_mul];simp
 rw[e];split<;>omega
theorem H4(n g:Int)(h:0<g):AL n g 0=0:=by
 have:=Int.emod_nonneg n (show g≠0 by omega);unfold AL;simp;omega
theorem Th(n:Int)(g:Int)(h:0<g):AL n g g.toNat=n:=by
 have h1:=Int.emod_lt_of_pos n h;have h2:=Int.mul_ediv_add_emod n g;unfold AL;rw[Int.toNat_of_nonneg (by omega)];omega
theorem Fv{n:Int}(h:0<=n)(h1:0<g)(i:Nat):0<=XK n g i:=by
 have:=Int.ediv_nonneg h (show 0<=g by omega);unfold XK;split<;>omega
theorem Ti{n:Int}(h:0<=n)(h1:0<g)(hij:i<=j):AL n g i<=AL n g j:=by
 induction j with
 | zero=>rw[Nat.le_zero.1 hij];exact Int.le_refl _
 | succ j ih =>
  rcases Nat.lt_or_ge i (j+1) with q|q
  ·have:=ih (by omega)
   have:=Fv (n:=n) (g:=g) h h1 j;rw[Fu];omega
  ·rw[show i=j+1 by omega];exact Int.le_refl _
theorem Fw{n:Int}(h:0<=n)(h1:0<g)(hi:i<=g.toNat):0<=AL n g i/\AL n g i<=n:=by
 have a:=Ti h h1 (Nat.zero_le i);have b:=Ti h h1 hi;rw[H4 n g h1]at a;rw[Th n g h1]at b;exact⟨a,b⟩
def Eb(s:B8)(g:Int)(i:Nat):B8:=(s.drop (AL s.length g i).toNat).take (XK s.length g i).toNat
def Yo(s:B8):List B8:=if s.length=0 then [] else (List.range (ZZ s.length 16).toNat).map (Eb s (ZZ s.length 16))
theorem Tj{n m:Int}(hn:n≠0)(hi:i<(ZZ n m).toNat):(A7 n m)[i]?=some (XK n (ZZ n m) i):=by
 unfold A7;rw[if_neg hn,jG,List.getElem?_range hi];rfl
theorem Tk{n m:Int}(hn:n≠0):(A7 n m).length=(ZZ n m).toNat:=by
 unfold A7;rw[if_neg hn];simp
theorem ZjS(m:Int):A7 0 m=[]:=by unfold A7;simp
theorem ZpZ(s:B8)(st:St)(hs:s.length<2147483648):S Tb LL [.str s] st=some (Ft (Yo s),st):=by
 refine Zv Y (fun A hA=>?_);repeat'(first|refine ruS Y ?_|refine isS Y ?_|refine ZO ?_|refine JQ Y ?_|refine Z5 Y ?_|refine Xk Y ?_|refine ZA Y Y Y (Tf s.length 16 _ (by omega) (by omega)) ?_)
 by_cases hz:s.length=0
 ·rw[show ((s.length:Int))=0 by omega]
  refine SV (fun _ e st=>e=[(0,.str s),(3,.ref A.length 0 0 0 0),(8,Cg []),(9,.int .i64 0),(10,.int .i64 0)]/\st=⟨A,false,[.arr 1 0 []]⟩) 0 ?_ ?_
  ·rw[ZjS];exact⟨rfl,rfl⟩
  rintro n e st' ⟨rfl,rfl⟩;repeat'(first|refine ruS Y ?_|refine isS Y ?_|refine rkS Y ?_|refine cm0 Y Y Y ?_ ?_|(intro _;try omega))
  refine B5 hA (by simp) Y Y (by simp) (by first|(simp[imm];done)|exact fun _ h=>absurd h (by simp)) ?_;unfold Yo;rw[if_pos hz];rfl
 have hp:=Xf (n:=s.length) (most:=16) (by omega) (by omega);have hlen:=Tk (n:=s.length) (m:=16) (by omega);have hget:=fun i hi=>Tj (n:=s.length) (m:=16) (by omega) (i:=i) hi
 have hpb:=fun (i:Nat) hi=>Fw (n:=s.length) (g:=ZZ s.length 16) (by omega) (by omega) (i:=i) hi
 have hps:=Fu s.length (ZZ s.length 16);have hsn:=Fv (n:=s.length) (g:=ZZ s.length 16) (by omega) (by omega);have hp0:=H4 s.length (ZZ s.length 16) (by omega);have hL:Yo s=(List.range (ZZ s.length 16).toNat).map (Eb s (ZZ s.length 16)):=by unfold Yo;rw[if_neg hz]
 have hG:∀i,(s.drop (AL s.length (ZZ s.length 16) i).toNat).take (XK s.length (ZZ s.length 16) i).toNat=Eb s (ZZ s.length 16) i:=fun _=>rfl
 rw[hlen,hL];generalize A7 (s.length:Int) 16=l at *;generalize ZZ (s.length:Int) 16=g at *
 refine Ze (α:=Nat) (fun i=>[(0,.str (s.drop (AL s.length g i).toNat)),(3,.ref A.length 0 i 0 i),(8,Cg l),(9,.int .i64 g.toNat),(10,.int .i64 i)])
  (fun i=>⟨A,false,[.arr 1 i ((List.range i).map fun j=>.str (Eb s g j))]⟩)
  (fun i=>i<=g.toNat) (fun i=>g.toNat-i) 0 ?_ rfl (Nat.zero_le _) ?_
 ·rw[hp0];rfl
 intro i hi;have hb:=hpb i hi;have hdl:(s.drop (AL s.length g i).toNat).length=s.length-(AL s.length g i).toNat:=List.length_drop ..
 repeat'(first|refine ruS Y ?_|refine isS Y ?_|refine rkS Y ?_|refine Zx Y Y ?_|refine Jy Y Y (by omega) (fun _=>rfl) (fun _ _=>?_)|refine cm0 Y Y Y ?_ ?_|(intro _;try omega))
 ·rename_i hlt x hx
  rw[Int.toNat_natCast,hget i (by omega)]at hx;have hx':=Option.some.inj hx;subst hx';have hb1:=hpb (i+1) (by omega);have hsi:=hsn i;rw[hps i]at hb1;repeat'(first|refine Qv ?_|refine isS Y ?_|refine rkS Y ?_|refine ZV Y Y (by omega) ?_|refine HL Y Y (by omega) ?_|refine HM Y Y (by omega) ?_|refine Z7 Y Y Y Y ?_|refine K4 Y Y Y (by first|rfl|(simp;done)|(simp;omega)) (by first|omega|(simp<;>omega)) (by decide) rfl rfl rfl ?_)
  refine⟨i+1,⟨?_,?_⟩,by omega,by omega⟩
  ·rw[hps i,Int.toNat_add hb.1 hsi,<- List.drop_drop];rfl
  ·rw[List.range_succ,List.map_append,hG];rfl
 ·have hi':i=g.toNat:=by omega
  rw[hi'];refine B5 hA (by simp) Y Y (by simp) (by first|(simp[imm];done)|exact fun _ h=>absurd h (by simp)) ?_;unfold Ft;rw[List.map_map];rfl
theorem Nn(n:Nat)(t:Tr):imm (n+2) t.av=true:=by
 obtain⟨o,h,m,s,k⟩:=t;cases k<;>rfl
theorem Tl(l:List Tr):∀v,v∈l.map Tr.av->imm (n+2) v=true:=by
 intro v hv;obtain⟨t,_,rfl⟩:=List.mem_map.1 hv;exact Nn n t
def QN(N:ZC):Tr->B8
 | .mk o _ _ s _=>if o=0 then s else ((lk N o).map Nd.text).getD []
def XL(h:Nat)(k:Kid):Tr:=.mk k.at_ h k.m [] none
def childs(N:ZC):Tr->List Tr
 | .mk o _ _ _ k=>if o=0 then k.getD [] else match lk N o with
  | some x=>x.ks.map (XL (x.h-1))
  | none=>[]
theorem H5{lv:Nat}{N:ZC}(hr:Rd st lv ix N){t:Tr}(hv:Val N t):S Tb ET [.ptr lv ix 0 0 0,t.av] st=some (.tup [.str (QN N t),.int .i64 0],st):=by
 refine Zv Y (fun A hA=>?_);cases hv with
 | kept h0 hx hok hh hm hk =>
  rename_i o h m k x;have hG:=fun L=>Fp (hr.push hA (ro:=false) (L:=L)) hx hok.len
  have hl:QN N (.mk o h m [] k)=x.text:=by simp only[QN,if_neg h0,hx,Option.map_some,Option.getD_some]
  rw[hl];have hc:x.copy.text=x.text:=rfl;rw[<- hc];generalize x.copy=y at *;obtain⟨yh,yt,yk⟩:=y;cases k;all_goals cases yk
  all_goals simp only[Tr.av,Tr.avO,Tr.avL_map,Nd.av,slV]at *
  all_goals repeat'(first|refine ruS Y ?_|refine isS Y ?_|refine ZE Y Y Y Y ?_|refine rkS Y ?_|refine cm0 Y Y Y ?_ ?_|(intro _;try omega)|refine ZX Y Y Y ?_|refine Zg Y Y Y Y Y Y ?_|refine zA0 Y Y (hG _) ?_)
  all_goals try omega
  all_goals refine ZQ hA (by simp) Y Y Y Y ?_
  all_goals rfl
 | leaf h1 h2 hk =>
  rename_i s k;have hl:QN N (.mk 0 0 .zero s k)=s:=rfl;rw[hl];cases k;all_goals simp only[Tr.av,Tr.avO,Tr.avL_map]at *
  all_goals repeat'(first|refine ruS Y ?_|refine isS Y ?_|refine ZE Y Y Y Y ?_|refine rkS Y ?_|refine cm0 Y Y Y ?_ ?_|(intro _;try omega)|refine ZX Y Y Y ?_)
  all_goals try omega
  all_goals refine ZQ hA (by simp) Y Y Y Y ?_
  all_goals rfl
 | inner hh h2 h4 hl hb hv =>
  rename_i h l;have hl:QN N (.mk 0 (h+1) .zero [] (some l))=[]:=rfl;rw[hl];simp only[Tr.av,Tr.avO,Tr.avL_map]at *;repeat'(first|refine ruS Y ?_|refine isS Y ?_|refine ZE Y Y Y Y ?_|refine rkS Y ?_|refine cm0 Y Y Y ?_ ?_|(intro _;try omega)|refine ZX Y Y Y ?_)
  all_goals try omega
  all_goals refine ZQ hA (by simp) Y Y Y Y ?_
  all_goals rfl
theorem Ec{lv:Nat}{N:ZC}(hr:Rd st lv ix N){t:Tr}(hv:Val N t)(hge:1<=t.h):S Tb Jz [.ptr lv ix 0 0 0,t.av] st=some (.tup [.lit ((childs N t).map Tr.av),.int .i64 0],st):=by
 refine Zv Y (fun A hA=>?_);cases hv with
 | kept h0 hx hok hh hm hk =>
  rename_i o h m k x;have hin:∃n ks,InnerOk x n ks:=by
   rcases hok with q|q
   ·have:=q.h
    simp only[Tr.h]at hge;omega
   ·exact q
  obtain⟨n,ks,hin⟩:=hin;have hx0:=hin.eq;subst hx0;have hG:=fun L=>Fp (hr.push hA (ro:=false) (L:=L)) hx hok.len
  have hl:childs N (.mk o h m [] k)=ks.map (XL n):=by simp only[childs,if_neg h0,hx];rfl
  have hks:=hin.hi;have hks2:=hin.lo;have hn:=hin.n15;rw[hl];simp only[Nd.copy,Nd.ks,Option.getD,Nd.av,slV]at hG
  have key:∀k Q (B0 B1:Blk) (hb1:B1=.arr 3 0 [.agg [.int .i64 ((n+1:Nat):Int),.str [],.lit (ks.map Kid.av)]]),
   (∀G,Rk (S Tb) k Q (.ex 0) [(6,.ptr A.length 1 0 0 0),(8,.ref A.length 2 ks.length 0 ks.length),(27,.lit (ks.map Kid.av)),(28,.int .i64 ks.length),(29,.int .i64 ks.length),(30,.bool false)] ⟨A,false,B0::B1::.arr 7 ks.length ((ks.map (XL n)).map Tr.av)::G⟩) ->
   Ru (S Tb) (.loop Sq) k Q [(6,.ptr A.length 1 0 0 0),(8,.ref A.length 2 0 0 0),(27,.lit (ks.map Kid.av)),(28,.int .i64 ks.length),(29,.int .i64 0)] ⟨A,false,[B0,B1,.arr 7 0 []]⟩:=by
   rintro k Q B0 B1 rfl hex
   refine Ze (α:=Nat × List Blk) (fun p=>[(6,.ptr A.length 1 0 0 0),(8,.ref A.length 2 p.1 0 p.1),(27,.lit (ks.map Kid.av)),(28,.int .i64 ks.length),(29,.int .i64 p.1)])
    (fun p=>⟨A,false,B0::.arr 3 0 [.agg [.int .i64 ((n+1:Nat):Int),.str [],.lit (ks.map Kid.av)]]::.arr 7 p.1 ((ks.take p.1).map fun k=>(XL n k).av)::p.2⟩) (fun p=>p.1<=ks.length) (fun p=>ks.length-p.1) (0,[]) rfl rfl (by simp) ?_
   rintro⟨i,G⟩ hi;simp only at hi ⊢;repeat'(first|refine ruS Y ?_|refine isS Y ?_|refine ZE Y Y Y Y ?_|refine rkS Y ?_|refine QU Y Y Y ?_|refine Zx Y Y ?_|refine Jy Y Y (by omega) (fun _=>rfl) (fun _ _=>?_)|refine cm0 Y Y Y ?_ ?_|(intro _;try omega)|refine ZV Y Y (by omega) ?_|refine YH Y Y (by omega) ?_|refine Zf Y Y Y ?_|refine Zi Y Y Y ?_|refine Jr Y Y Y Y Y Y ?_|refine Z7 Y Y Y Y ?_|refine K8 Y Y Y (by first|rfl|(simp;done)|(simp;omega)) (by first|omega|(simp<;>omega)) (by decide) rfl rfl ?_)
   ·rename_i kd hkd
    have hk2:ks[i]?=some kd:=hkd;refine⟨(i+1,G++[.arr 4 0 [kd.av]]),⟨rfl,?_⟩,by simp only;omega,by simp only;omega⟩;simp only[ZF hk2,List.map_append,jC,List.map_nil];rw[show ((n+1:Nat):Int)-1=(n:Int) by omega];rfl
   ·have hi':i=ks.length:=by omega
    subst hi';have:=hex G;rw[List.map_map]at this;rw[List.take_length];exact this
  cases k;all_goals simp only[Tr.av,Tr.avO,Tr.avL_map]at *
  all_goals repeat'(first|refine ruS Y ?_|refine isS Y ?_|refine ZE Y Y Y Y ?_|refine ZO ?_|refine Z5 Y ?_|refine cm0 Y Y Y ?_ ?_|(intro _;try omega)|refine ZX Y Y Y ?_|refine Zg Y Y Y Y Y Y ?_|refine Xk Y ?_|refine zA0 Y Y (hG _) ?_)
  all_goals try omega
  all_goals refine key _ _ _ _ Y (fun G=>?_)
  all_goals repeat'(first|refine ruS Y ?_|refine isS Y ?_|refine rkS Y ?_|refine Z6 Y ?_|refine cm0 Y Y Y ?_ ?_|(intro _;try omega))
  all_goals refine ES hA (.inr Y) Y Y (by simp) (Tl _) Y Y
 | leaf h1 h2 hk=>simp[Tr.h]at hge
 | inner hh h2 h4 hl hb hv =>
  rename_i h l;have hl:childs N (.mk 0 (h+1) .zero [] (some l))=l:=rfl;rw[hl];simp only[Tr.av,Tr.avO,Tr.avL_map]at *;repeat'(first|refine ruS Y ?_|refine isS Y ?_|refine ZE Y Y Y Y ?_|refine rkS Y ?_|refine cm0 Y Y Y ?_ ?_|(intro _;try omega)|refine ZX Y Y Y ?_)
  all_goals try omega
  all_goals refine ZQ hA (by simp) Y Y Y Y ?_
  all_goals rfl
def Jj(s:B8):Tr:=.mk 0 0 .zero s none
noncomputable def leavesM(N:ZC)(x y:Tr):List Tr :=
 if 16<x.bytes+y.bytes/\8<=x.bytes/\8<=y.bytes then [x,y] else (AN (QN N x) (QN N y)).map Jj
theorem Val.line{N:ZC}{t:Tr}(hv:Val N t)(h:t.h=0):((QN N t).length:Int)=t.bytes/\Ai (QN N t):=by
 cases hv with
 | kept h0 hx hok hh hm hk =>
  rename_i o h m k x;simp only[Tr.h]at h;subst h;rcases hok with q|⟨n,ks,q⟩
  ·have hl:QN N (.mk o 0 m [] k)=x.text:=by simp only[QN,if_neg h0,hx,Option.map_some,Option.getD_some]
   have h1:=q.lo;have h2:=q.hi;rw[hl,Tr.bytes,Tr.bytesO_getD,hk,<- hm];unfold Nd.mea;rw[if_pos hh];refine⟨?_,h1,h2⟩;simp[YZ,Tr.bytesL]
  ·have:=q.eq
   subst this;simp at hh
 | leaf h1 h2 hk =>
  refine⟨?_,h1,h2⟩;rw[Tr.bytes,Tr.bytesO_getD,hk];simp[QN,Tr.bytesL,Mea.zero]
 | inner hh h2 h4 hl hb hv=>simp[Tr.h]at h
theorem Znc(a b:B8):(AN a b).length<=2:=by
 unfold AN;split<;>(try split)<;>simp
section
variable {O:Orc}{k:List Fr}{Q:JD}{e:Env}{A:List (Bool × List Blk)}{L:List Blk}{keep:List Nat}{is:List PI}{d:Nat}
abbrev trZ:AV:=.agg [.int .u64 0,.int .i64 0,.int .i64 0,.int .i64 0,.int .i64 0,.str [],.nils]
theorem Ee{a:Opd}{x:Tr}(ha:ZL e a=some x.av)(h:Is O is keep k Q ((d,.lit ([x].map Tr.av))::e) st):Is O (⟨some d,none,false,.bslice false 7 [trZ] [(0,a)]⟩::is) keep k Q e st:=by
 refine K2 (r:=(.lit ([x].map Tr.av),st)) (qs:=[(0,x.av)]) (es:=[x].map Tr.av) ?_ ?_ ?_ h
 ·simp only[JU,ZB ha]
 ·simp only[fillE,Zn,List.length_singleton,Nat.lt_succ_self,and_self,if_true,List.set_cons_zero,jC,List.map_nil]
 ·show (mapSt (ZI Zs 0) st ([x].map Tr.av)).bind Bq=_
  rw[Fq];rfl
theorem H6{a b:Opd}{x y:Tr}(ha:ZL e a=some x.av)(hb:ZL e b=some y.av)(h:Is O is keep k Q ((d,.lit ([x,y].map Tr.av))::e) st):Is O (⟨some d,none,false,.bslice false 7 [trZ,trZ] [(0,a),(1,b)]⟩::is) keep k Q e st:=by
 refine K2 (r:=(.lit ([x,y].map Tr.av),st)) (qs:=[(0,x.av),(1,y.av)]) (es:=[x,y].map Tr.av) ?_ ?_ ?_ h
 ·simp only[JU,ZB ha,ZB hb]
 ·simp only[fillE,Zn,List.length_cons,List.length_nil,List.length_set,true_and]
  rfl
 ·show (mapSt (ZI Zs 0) st ([x,y].map Tr.av)).bind Bq=_
  rw[Fq];rfl
end
theorem wk1(t:Tr):ZG (ZS ([]++[t.av]++[]))=some [t.av]:=by
 simp only[lE,lN,ZS,ZH,ZG]
theorem Zpa{lv:Nat}{N:ZC}(hr:Rd st lv ix N){x y:Tr}(hx:Val N x)(hy:Val N y)(h1:x.h=0)(h2:y.h=0):
 S Tb LQ [.ptr lv ix 0 0 0,x.av,y.av] st=some (.tup [.lit ((leavesM N x y).map Tr.av),.int .i64 0],st):=by
 refine Zv Y (fun A hA=>?_);have hbx:=hx.bytes_h0 h1;have hby:=hy.bytes_h0 h2;have hpx:=hx.pos.2;have hpy:=hy.pos.2;have hB1:=fun st=>B7 x hx.pos.1 (by omega) st
 have hB2:=fun st=>B7 y hy.pos.1 (by omega) st
 have hL1:=fun L=>H5 (hr.push hA (ro:=false) (L:=L)) hx
 have hL2:=fun L=>H5 (hr.push hA (ro:=false) (L:=L)) hy
 have hj:=fun st=>Zsx (QN N x) (QN N y) st (hx.line h1).2 (hy.line h2).2
 have hjl:=Znc (QN N x) (QN N y);have hm:leavesM N x y=if 16<x.bytes+y.bytes/\8<=x.bytes/\8<=y.bytes then [x,y] else (AN (QN N x) (QN N y)).map Jj:=rfl
 generalize leavesM N x y=r at *;generalize AN (QN N x) (QN N y)=j at *;unfold Ft at hj
 have key:∀k Q (B0 B1:Blk),
  (∀G,Rk (S Tb) k Q (.ex 0) [(14,.ref A.length 2 j.length 0 j.length),(63,.lit (j.map .str)),(64,.int .i64 j.length),(65,.int .i64 j.length),(66,.bool false)] ⟨A,false,B0::B1::.arr 7 j.length ((j.map Jj).map Tr.av)::G⟩) ->
  Ru (S Tb) (.loop Sz) k Q [(14,.ref A.length 2 0 0 0),(63,.lit (j.map .str)),(64,.int .i64 j.length),(65,.int .i64 0)] ⟨A,false,[B0,B1,.arr 7 0 []]⟩:=by
  rintro k Q B0 B1 hex
  refine Ze (α:=Nat) (fun i=>[(14,.ref A.length 2 i 0 i),(63,.lit (j.map .str)),(64,.int .i64 j.length),(65,.int .i64 i)])
   (fun i=>⟨A,false,[B0,B1,.arr 7 i ((j.take i).map fun s=>(Jj s).av)]⟩) (fun i=>i<=j.length) (fun i=>j.length-i) 0 rfl rfl (by simp) ?_
  rintro i hi;repeat'(first|refine ruS Y ?_|refine isS Y ?_|refine rkS Y ?_|refine Zx Y Y ?_|refine Jy Y Y (by omega) (fun _=>rfl) (fun _ _=>?_)|refine cm0 Y Y Y ?_ ?_|(intro _;try omega)|refine ZV Y Y (by omega) ?_|refine Zf Y Y Y ?_|refine Z7 Y Y Y Y ?_|refine K4 Y Y Y (by first|rfl|(simp;done)|(simp;omega)) (by first|omega|(simp<;>omega)) (by decide) rfl rfl rfl ?_)
  ·rename_i s hs
   have hs2:j[i]?=some s:=hs;refine⟨i+1,⟨rfl,?_⟩,by omega,by omega⟩;simp only[ZF hs2,List.map_append,jC,List.map_nil];rfl
  ·have hi':i=j.length:=by omega
   subst hi';have:=hex [];rw[List.map_map]at this;rw[List.take_length];exact this
 repeat'(first|refine ruS Y ?_|refine isS Y ?_|refine rkS Y ?_|refine Z5 Y ?_|refine cm0 Y Y Y ?_ ?_|(intro _;try omega)|refine ZV Y Y (by omega) ?_|refine Xk Y ?_|refine QU Y Y (Zb _) ?_|refine ZE Y Y Y (Zb _) ?_|refine Zi Y (Zn _) (Z1 _) ?_|refine XV Y Y (wk1 _) (hB1 _) ?_|refine zA0 Y Y (hB2 _) ?_|refine zA0 Y Y (hL1 _) ?_|refine zA0 Y Y (hL2 _) ?_|refine zA0 Y Y (hj _) ?_|refine H6 Y Y ?_)
 ·refine ZQ hA (by simp) Y Y Y Y ?_
  rw[hm,if_pos ⟨by omega,by omega,by omega⟩]
 all_goals refine key _ _ _ _ (fun G=>?_)
 all_goals repeat'(first|refine ruS Y ?_|refine isS Y ?_|refine rkS Y ?_)
 all_goals refine ES hA (.inr Y) Y Y (by simp) (Tl _) Y ?_
 all_goals rw[hm,if_neg (by omega)]
def foldM(l:List Tr):List Tr :=
 if l.length<=4 then [grp l] else [grp (l.take ((l.length+1) / 2)),grp (l.drop ((l.length+1) / 2))]
theorem Sl.allRo{l:List Tr}(h:Sl st v l):Sl st.allRo v l:=by
 cases h with
 | lit l=>exact .lit l
 | ref hg hn hl he =>
  refine .ref ?_ hn hl he;rename_i lv ix ver s n es;rw[<- hg];unfold St.allRo St.get;simp only[List.length_map];split
  ·rfl
  ·rw[jG]
   cases st.A[lv]?<;>rfl
theorem Tm{l:List Tr}(hl:l.length<=8)(hh:∀t∈l,t.h<=65536)(hv:Sl st v l):S Tb Hl [v] st=some (.lit ((foldM l).map Tr.av),st):=by
 refine Zv Y (fun A hA=>?_);have hv2:=fun L=>hv.push hA (ro:=false) (L:=L)
 have hwv:=hv.weak;have hG:=fun L=>BK (by omega) hh (hv2 L)
 have hk:(((l.length:Int)+1) / 2).toNat=(l.length+1) / 2:=by omega
 have h1:∀t∈l.take ((l.length+1) / 2),t.h<=65536:=fun t ht=>hh t (List.mem_of_mem_take ht)
 have h2:∀t∈l.drop ((l.length+1) / 2),t.h<=65536:=fun t ht=>hh t (List.mem_of_mem_drop ht)
 have hr:foldM l=if l.length<=4 then [grp l] else [grp (l.take ((l.length+1) / 2)),grp (l.drop ((l.length+1) / 2))]:=rfl
 generalize foldM l=r at *;cases hv with
 | lit =>
  have hGa:=fun (L:List Blk)=>BK (l:=l.take ((l.length+1) / 2)) (v:=.lit ((l.map Tr.av).take (((l.length:Int)+1) / 2).toNat)) (by rw[List.length_take];omega) h1 (st:=St.allRo ⟨A,false,L⟩) (by rw[hk,<- List.map_take];exact .lit _)
  have hGb:=fun (L:List Blk)=>BK (l:=l.drop ((l.length+1) / 2)) (v:=.lit ((l.map Tr.av).drop (((l.length:Int)+1) / 2).toNat)) (by rw[List.length_drop];omega) h2 (st:=⟨A,false,L⟩) (by rw[hk,<- List.map_drop];exact .lit _)
  have hlm:(l.map Tr.av).length=l.length:=by simp
  repeat'(first|refine ruS Y ?_|refine isS Y ?_|refine rkS Y ?_|refine Z5 Y ?_|refine cm0 Y Y Y ?_ ?_|(intro _;try omega)|refine ZV Y Y (by omega) ?_|refine FZ Y Y (by omega) ?_|refine zA0 Y Y (hG _) ?_|refine Ee Y ?_)
  ·refine ZQ hA (by simp) Y Y Y Y ?_
   rw[hr,if_pos (by omega)]
  ·refine HN Y Y (by omega) (Yu _) ?_
   refine XV Y Y Y (hGa _) ?_;repeat'(refine A6 Y ?_)
   refine Kz Y Y (by omega) (Yu _) ?_;repeat'(first|refine isS Y ?_|refine rkS Y ?_|refine ZA Y Y Y (hGb _) ?_|refine H6 Y Y ?_|refine Xz ?_)
   refine ZQ hA (by simp) Y Y Y Y ?_;rw[hr,if_neg (by omega)]
 | @ref lv ix ver s n _ es hg hn hlen he =>
  subst hn;have hg2:=fun L=>ZD hA (ro:=false) (L:=L) hg
  have hwi:∀L,wIs 7 ver (St.get ⟨A,false,L⟩ lv ix)=true:=fun L=>by rw[hg2];simp[wIs]
  have hSa:∀L,Sl ⟨A,false,L⟩ (.ref lv ix ver s (((l.length:Int)+1) / 2).toNat) (l.take ((l.length+1) / 2)):=by
   intro L;refine .ref (hg2 L) ?_ (by omega) ?_
   ·rw[hk,List.length_take];omega
   ·rw[hk,List.map_take,<- he,List.take_take]
    congr 1;omega
  have hSb:∀L,Sl ⟨A,false,L⟩ (.ref lv ix ver (s+(((l.length:Int)+1) / 2).toNat) (l.length-(((l.length:Int)+1) / 2).toNat)) (l.drop ((l.length+1) / 2)):=by
   intro L;refine .ref (hg2 L) ?_ (by omega) ?_
   ·rw[hk,List.length_drop]
   ·rw[hk,List.map_drop,<- he,<- List.drop_drop,List.drop_take]
  have hGa:=fun (L:List Blk)=>BK (by rw[List.length_take];omega) h1 (hSa L).allRo
  have hGb:=fun (L:List Blk)=>BK (by rw[List.length_drop];omega) h2 (hSb L)
  repeat'(first|refine ruS Y ?_|refine isS Y ?_|refine rkS Y ?_|refine Z6 Y ?_|refine cm0 Y Y Y ?_ ?_|(intro _;try omega)|refine ZV Y Y (by omega) ?_|refine FZ Y Y (by omega) ?_|refine zA0 Y Y (hG _) ?_|refine Ee Y ?_)
  ·refine ZQ hA (by simp) Y Y Y Y ?_
   rw[hr,if_pos (by omega)]
  ·refine K0 Y Y (by omega) (hwi _) ?_
   refine XV Y Y Y (hGa _) ?_;repeat'(refine A6 Y ?_)
   refine K1 Y Y (by omega) (hwi _) ?_;repeat'(first|refine isS Y ?_|refine rkS Y ?_|refine ZA Y Y Y (hGb _) ?_|refine H6 Y Y ?_|refine Xz ?_)
   refine ZQ hA (by simp) Y Y Y Y ?_;rw[hr,if_neg (by omega)]
def GoodN(N:ZC):Prop:=∀o x,lk N o=some x->NdOk x/\∀k∈x.ks,k.at_≠0/\∃y,lk N k.at_=some y/\y.h+1=x.h/\y.mea=k.m
def Big(t:Tr):Prop:=t.h=0->8<=t.bytes
theorem Q4{N:ZC}(hN:GoodN N){t:Tr}(hv:Val N t)(hh:1<=t.h):
 (∀c∈childs N t,Val N c/\c.h+1=t.h/\Big c)/\2<=(childs N t).length/\(childs N t).length<=4/\Tr.bytesL (childs N t)=t.bytes:=by
 cases hv with
 | kept h0 hx hok hh2 hm hk =>
  rename_i o h m k x;simp only[Tr.h]at hh;have hin:∃n ks,InnerOk x n ks:=by
   rcases hok with q|q
   ·have:=q.h;omega
   ·exact q
  obtain⟨n,ks,hin⟩:=hin;have hx0:=hin.eq;subst hx0;have hl:childs N (.mk o h m [] k)=ks.map (XL n):=by simp only[childs,if_neg h0,hx];rfl
  have hg:=(hN o _ hx).2;rw[hl];have hb:∀l:List Kid,Tr.bytesL (l.map (XL n))=(Zy (l.map Kid.m)).b:=by
   intro l;induction l with
   | nil=>rfl
   | cons a l ih =>
    rw[jC,Tr.bytesL,ih,jC,Zy];simp[XL,Tr.bytes,Tr.bytesO,Mea.add]
  refine⟨?_,by rw[List.length_map];exact hin.lo,by rw[List.length_map];exact hin.hi,?_⟩
  ·intro c hc
   obtain⟨kd,hkd,rfl⟩:=List.mem_map.1 hc;obtain⟨g1,y,g2,g3,g4⟩:=hg kd hkd;have hy:=(hN kd.at_ y g2).1;refine⟨.kept g1 g2 hy (by simp only at g3;omega) g4 rfl,by simp only at hh2;simp only[XL,Tr.h];omega,?_⟩;intro q;have:=(hin.kid kd hkd).lo;have h8:=(Fm (h:=n) (by have:=hin.n15;omega)).1;simp[XL,Tr.bytes,Tr.bytesO];omega
  ·rw[hb,Tr.bytes,Tr.bytesO_getD,hk,<- hm]
   simp[Tr.bytesL,Nd.mea,Nd.ks]
 | leaf h1 h2 hk=>simp[Tr.h]at hh
 | inner hh1 h2 h4 hl hb hv =>
  rename_i h l;have he:childs N (.mk 0 (h+1) .zero [] (some l))=l:=rfl;rw[he];refine⟨fun c hc=>⟨hv c hc,by rw[hl c hc];rfl,fun q=>hb c hc (by rw[<- hl c hc];exact q)⟩,h2,h4,?_⟩;rw[Tr.bytes,Tr.bytesO];simp[Mea.zero]
theorem Val.size{N:ZC}(hN:GoodN N){t:Tr}(hv:Val N t):Big t->(leastB t.h:Int)<=t.bytes:=by
 induction hv with
 | kept h0 hx hok hh hm hk =>
  rename_i o h m k x;intro hb;rcases Nat.eq_zero_or_pos h with q|q
  ·have:=hb q
   simp only[Tr.h,q];exact this
  ·have hv:Val N (.mk o h m [] k):=.kept h0 hx hok hh hm hk
   rcases hok with w|⟨n,ks,w⟩
   ·have:=w.h;omega
   ·have:=w.eq
    subst this;rw[Tr.bytes,Tr.bytesO_getD,hk,<- hm];simp only[Tr.h];simp only at hh;subst hh;have hms:Nd.mea ⟨n+1,[],some ks⟩=Zy (ks.map Kid.m):=rfl;rw[hms,Nc];have hkid:=w.kid
    match ks,w.lo,hkid with
    | k1::k2::l,_,hkid =>
     have a1:=(hkid k1 (by simp)).lo;have a2:=(hkid k2 (by simp)).lo;have a3:=(Fo (l:=l.map Kid.m) (fun m hm=>by obtain⟨k,hk1,rfl⟩:=List.mem_map.1 hm;exact (hkid k (by simp[hk1])).fit)).b0;simp only[jC,Zy,Mea.add,Tr.bytesL,List.length_nil];omega
 | leaf h1 h2 hk=>intro hb;exact hb Y
 | inner hh h2 h4 hl hb hv ih =>
  rename_i h l;intro _;rw[Tr.bytes,Tr.bytesO];simp only[Tr.h];rw[Nc]
  match l,h2,hl,hb,hv,ih with
  | t1::t2::r,_,hl,hb,hv,ih =>
   have a1:=ih t1 (by simp) (fun q=>hb t1 (by simp) (by rw[<- hl t1 (by simp)];exact q));have a2:=ih t2 (by simp) (fun q=>hb t2 (by simp) (by rw[<- hl t2 (by simp)];exact q));rw[hl t1 (by simp)]at a1;rw[hl t2 (by simp)]at a2;have a3:=Tr.bytesL_nonneg (l:=r) (fun u hu=>(hv u (by simp[hu])).pos.1.nonneg);simp only[Tr.bytesL,Mea.zero,List.length_nil];omega
theorem Val.height{N:ZC}(hN:GoodN N){t:Tr}(hv:Val N t)(hb:t.bytes<=65536):t.h<=13:=by
 rcases Nat.lt_or_ge 13 t.h with q|q
 ·have h1:=hv.size hN (fun w=>by omega)
  have h2:leastB 14<=leastB t.h:=by
   unfold leastB;exact Nat.mul_le_mul_left 8 (Nat.pow_le_pow_right (by decide) q)
  have h3:leastB 14=131072:=by decide
  omega
 ·exact q
theorem Val.h16{N:ZC}{t:Tr}(hv:Val N t):t.h<=16:=by
 cases hv with
 | kept h0 hx hok hh hm hk =>
  rcases hok with q|⟨n,ks,q⟩
  ·have:=q.h;simp only[Tr.h];omega
  ·have:=q.eq;subst this;have:=q.n15;simp only[Tr.h];simp only at hh;omega
 | leaf h1 h2 hk=>simp[Tr.h]
 | inner hh h2 h4 hl hb hv=>exact hh
theorem B9{N:ZC}{l:List Tr}{h:Nat}(h1:2<=l.length)(h2:l.length<=4)(hh:h+1<=16)(hl:∀t∈l,Val N t/\t.h=h/\Big t):Val N (grp l)/\(grp l).h=h+1/\(grp l).bytes=Tr.bytesL l:=by
 have he:Tr.hs l=h:=by
  match l,h1 with
  | a::r,_=>exact (hl a (by simp)).2.1
 rw[Ea h1,he];refine⟨.inner hh h1 h2 (fun t ht=>(hl t ht).2.1) (fun t ht q=>(hl t ht).2.2 ((hl t ht).2.1.trans q)) (fun t ht=>(hl t ht).1),rfl,?_⟩;rw[Tr.bytes,Tr.bytesO];simp[Mea.zero]
def QK(N:ZC):Nat->Nat->B8
 | 0,o=>((lk N o).map Nd.text).getD []
 | n+1,o=>(((lk N o).map Nd.ks).getD []).flatMap fun k=>QK N n k.at_
namespace Tr
mutual
def txt(N:ZC):Tr->B8
 | .mk o h _ s k=>(if o=0 then s else QK N h o)++txtO N k
def txtO(N:ZC):Option (List Tr)->B8
 | none=>[]
 | some l=>txtL N l
def txtL(N:ZC):List Tr->B8
 | []=>[]
 | t::l=>t.txt N++txtL N l
end
theorem txtL_append(N:ZC):∀a b,txtL N (a++b)=txtL N a++txtL N b
 | [],b=>rfl
 | t::a,b=>by rw[lC,txtL,txtL,txtL_append N a b,List.append_assoc]
theorem txtO_getD(N:ZC)(k:Option (List Tr)):txtO N k=txtL N (k.getD []):=by cases k<;>rfl
end Tr
theorem Fy{N:ZC}{t:Tr}(hv:Val N t)(h:t.h=0):t.txt N=QN N t:=by
 cases hv with
 | kept h0 hx hok hh hm hk =>
  rename_i o h m k x;simp only[Tr.h]at h;subst h;rw[Tr.txt,Tr.txtO_getD,hk,if_neg h0];simp only[Tr.txtL,lN,QK,QN,if_neg h0]
 | leaf h1 h2 hk=>rw[Tr.txt,Tr.txtO_getD,hk];simp[Tr.txtL,QN]
 | inner hh h2 h4 hl hb hv=>simp[Tr.h]at h
theorem Ef{N:ZC}(hN:GoodN N){t:Tr}(hv:Val N t)(h:1<=t.h):t.txt N=Tr.txtL N (childs N t):=by
 cases hv with
 | kept h0 hx hok hh hm hk =>
  rename_i o h' m k x;simp only[Tr.h]at h;obtain⟨n,rfl⟩:∃n,h'=n+1:=⟨h'-1,by omega⟩
  have hl:childs N (.mk o (n+1) m [] k)=x.ks.map (XL n):=by simp only[childs,if_neg h0,hx];rw[hh];rfl
  have hg:=fun k hk=>((hN o x hx).2 k hk).1
  rw[hl,Tr.txt,Tr.txtO_getD,hk,if_neg h0];simp only[Tr.txtL,lN,QK,hx,Option.map_some,Option.getD_some];generalize x.ks=l at hg;induction l with
  | nil=>rfl
  | cons a l ih =>
   rw[List.flatMap_cons,jC,Tr.txtL,<- ih (fun k hk=>hg k (by simp[hk]))]
   congr 1
   rw[XL,Tr.txt,Tr.txtO,if_neg (hg a (by simp)),lN]
 | leaf h1 h2 hk=>simp[Tr.h]at h
 | inner hh h2 h4 hl hb hv =>
  rename_i h' l;show _=Tr.txtL N l
  rw[Tr.txt,Tr.txtO];rfl
theorem Np{N:ZC}(hN:GoodN N):∀n o x,lk N o=some x->x.h=n->YZ (QK N n o)=x.mea
 | 0,o,x,hx,hh=>by
  unfold Nd.mea;rw[if_pos hh,QK,hx];rfl
 | n+1,o,x,hx,hh=>by
  have hg:=(hN o x hx).2;unfold Nd.mea;rw[if_neg (by omega),QK,hx];simp only[Option.map_some,Option.getD_some];generalize x.ks=l at hg;induction l with
  | nil=>rfl
  | cons a l ih =>
   obtain⟨g1,y,g2,g3,g4⟩:=hg a (by simp);rw[List.flatMap_cons,ZUG,Np hN n a.at_ y g2 (by omega),ih (fun k hk=>hg k (by simp[hk])),jC,Zy,g4]
theorem Eg{N:ZC}(hN:GoodN N){t:Tr}(hv:Val N t):((t.txt N).length:Int)=t.bytes:=by
 induction hv with
 | kept h0 hx hok hh hm hk =>
  rename_i o h m k x;have h1:=Np hN h o x hx hh;have h2:(YZ (QK N h o)).b=((QK N h o).length:Int):=rfl;rw[Tr.txt,Tr.txtO_getD,hk,if_neg h0,Tr.bytes,Tr.bytesO_getD,hk,<- hm,<- h1];simp only[Tr.txtL,lN,Tr.bytesL,List.length_nil,h2];omega
 | leaf h1 h2 hk=>rw[Tr.txt,Tr.txtO_getD,hk,Tr.bytes,Tr.bytesO_getD,hk];simp[Tr.txtL,Tr.bytesL,Mea.zero]
 | inner hh h2 h4 hl hb hv ih =>
  rename_i h l;rw[Tr.txt,Tr.txtO,Tr.bytes,Tr.bytesO];simp only[if_true,lE,Mea.zero,List.length_nil];have:∀l:List Tr,(∀t∈l,((t.txt N).length:Int)=t.bytes)->((Tr.txtL N l).length:Int)=Tr.bytesL l:=by
   intro l;induction l with
   | nil=>intro _;rfl
   | cons a l ih2 =>
    intro h;have h1:=h a (by simp);have h2:=ih2 (fun t ht=>h t (by simp[ht]));rw[Tr.txtL,Tr.bytesL,lL];omega
  have:=this l ih;omega
theorem H7{N:ZC}{s:B8}(h:Ai s):Val N (Jj s):=.leaf h.1 h.2 rfl
theorem Eh(s:B8):(Jj s).bytes=s.length:=by simp[Jj,Tr.bytes,Tr.bytesO,Mea.zero]
theorem H8(N:ZC)(s:B8):(Jj s).txt N=s:=by simp[Jj,Tr.txt,Tr.txtO]
structure MergeOk(N:ZC)(x y:Tr)(r:List Tr):Prop where
 val:∀t∈r,Val N t
 h:∀t∈r,t.h=max x.h y.h
 len:r.length=1\/r.length=2
 bytes:Tr.bytesL r=x.bytes+y.bytes
 txt:Tr.txtL N r=x.txt N++y.txt N
 two:r.length=2->∀t∈r,Big t
 big:Big x\/Big y->∀t∈r,Big t
theorem Zpc{a b:B8}(ha:Ai a)(hb:Ai b):(∀s∈AN a b,Ai s)/\((AN a b).length=1\/(AN a b).length=2)/\(AN a b).flatten=a++b /\
 ((AN a b).length=2->∀s∈AN a b,8<=s.length)/\(8<=a.length\/8<=b.length->∀s∈AN a b,8<=s.length):=by
 unfold AN Ai at *;split
 ·rename_i h
  refine⟨fun s hs=>?_,.inl Y,by simp,fun h=>by simp at h,fun q s hs=>?_⟩
  ·simp only[List.mem_singleton]at hs;subst hs;rw[lL];omega
  ·simp only[List.mem_singleton]at hs;subst hs;rw[lL];omega
 ·rename_i h
  split
  ·rename_i h2
   refine⟨fun s hs=>?_,.inr Y,by simp,fun _ s hs=>?_,fun q s hs=>?_⟩
   all_goals
    simp only[List.mem_cons,List.not_mem_nil,or_false]at hs;rcases hs with rfl|rfl<;>omega
  ·rename_i h2
   refine⟨fun s hs=>?_,.inr Y,by simp,fun _ s hs=>?_,fun q s hs=>?_⟩
   all_goals
    simp only[List.mem_cons,List.not_mem_nil,or_false]at hs;rcases hs with rfl|rfl
    ·rw[List.length_take,lL];omega
    ·rw[List.length_drop,lL];omega
theorem ZlD{N:ZC}{x y:Tr}(hx:Val N x)(hy:Val N y)(h1:x.h=0)(h2:y.h=0):MergeOk N x y (leavesM N x y):=by
 have hlx:=hx.line h1;have hly:=hy.line h2;unfold leavesM;split
 ·rename_i h
  refine⟨?_,?_,.inr Y,by simp[Tr.bytesL],by simp[Tr.txtL],fun _=>?_,fun _=>?_⟩
  all_goals
   intro t ht;simp only[List.mem_cons,List.not_mem_nil,or_false]at ht
  ·rcases ht with rfl|rfl<;>assumption
  ·rcases ht with rfl|rfl<;>omega
  ·rcases ht with rfl|rfl<;>(intro _;omega)
  ·rcases ht with rfl|rfl<;>(intro _;omega)
 ·obtain⟨j1,j2,j3,j4,j5⟩:=Zpc hlx.2 hly.2
  generalize AN (QN N x) (QN N y)=j at *;have hf:∀l:List B8,Tr.bytesL (l.map Jj)=(l.flatten.length:Int)/\Tr.txtL N (l.map Jj)=l.flatten:=by
   intro l;induction l with
   | nil=>exact⟨rfl,rfl⟩
   | cons a l ih =>
    rw[jC,Tr.bytesL,Tr.txtL,ih.1,ih.2,Eh,H8,List.flatten_cons,lL];exact⟨by omega,rfl⟩
  refine⟨?_,?_,by simpa using j2,?_,?_,?_,?_⟩
  ·intro t ht
   obtain⟨s,hs,rfl⟩:=List.mem_map.1 ht;exact H7 (j1 s hs)
  ·intro t ht
   obtain⟨s,hs,rfl⟩:=List.mem_map.1 ht;rw[h1,h2];rfl
  ·rw[(hf j).1,j3,lL];omega
  ·rw[(hf j).2,j3,Fy hx h1,Fy hy h2]
  ·intro hl t ht
   obtain⟨s,hs,rfl⟩:=List.mem_map.1 ht;have:=j4 (by simpa using hl) s hs;intro _;rw[Eh];omega
  ·intro hb t ht
   obtain⟨s,hs,rfl⟩:=List.mem_map.1 ht
   have := j5 (by rcases hb with hb | hb
                  ·have:=hb h1;omega
                  ·have:=hb h2;omega) s hs
   intro _;rw[Eh];omega
noncomputable def mergeF(N:ZC):Nat->Tr->Tr->List Tr
 | 0,x,y=>leavesM N x y
 | n+1,x,y =>
  if x.h=y.h then (if (childs N x).length+(childs N y).length<=4 then [grp (childs N x++childs N y)] else [x,y])
  else if y.h<x.h then foldM ((childs N x).take ((childs N x).length-1)++mergeF N n ((childs N x)[(childs N x).length-1]?.getD .zero) y)
  else foldM (mergeF N n x ((childs N y)[0]?.getD .zero)++(childs N y).drop 1)
theorem DQ(N:ZC){l:List Tr}(h:2<=l.length):(grp l).txt N=Tr.txtL N l:=by
 rw[Ea h,Tr.txt,Tr.txtO];rfl
theorem Tn{N:ZC}{l:List Tr}{h:Nat}(h1:2<=l.length)(h2:l.length<=8)(hh:h+1<=16)(hl:∀t∈l,Val N t/\t.h=h/\Big t):
 (∀t∈foldM l,Val N t/\t.h=h+1)/\((foldM l).length=1\/(foldM l).length=2)/\Tr.bytesL (foldM l)=Tr.bytesL l/\Tr.txtL N (foldM l)=Tr.txtL N l:=by
 unfold foldM;split
 ·rename_i h4
  obtain⟨a,b,c⟩:=B9 h1 h4 hh hl;refine⟨?_,.inl Y,by simp[Tr.bytesL,c],by simp[Tr.txtL,DQ N h1]⟩;intro t ht;simp only[List.mem_singleton]at ht;subst ht;exact⟨a,b⟩
 ·rename_i h4
  have e1:(l.take ((l.length+1) / 2)).length=(l.length+1) / 2:=by rw[List.length_take];omega
  have e2:(l.drop ((l.length+1) / 2)).length=l.length-(l.length+1) / 2:=by rw[List.length_drop]
  obtain⟨a1,b1,c1⟩:=B9 (l:=l.take ((l.length+1) / 2)) (by omega) (by omega) hh (fun t ht=>hl t (List.mem_of_mem_take ht));obtain⟨a2,b2,c2⟩:=B9 (l:=l.drop ((l.length+1) / 2)) (by omega) (by omega) hh (fun t ht=>hl t (List.mem_of_mem_drop ht));refine⟨?_,.inr Y,?_,?_⟩
  ·intro t ht
   simp only[List.mem_cons,List.not_mem_nil,or_false]at ht;rcases ht with rfl|rfl
   ·exact⟨a1,b1⟩
   ·exact⟨a2,b2⟩
  ·conv=>rhs;rw[<- List.take_append_drop ((l.length+1) / 2) l,Tr.bytesL_append]
   simp only[Tr.bytesL,c1,c2];omega
  ·conv=>rhs;rw[<- List.take_append_drop ((l.length+1) / 2) l,Tr.txtL_append]
   simp only[Tr.txtL,DQ N (show 2<=(l.take ((l.length+1) / 2)).length by omega),DQ N (show 2<=(l.drop ((l.length+1) / 2)).length by omega),lN]
theorem Nq{α:Type}{l:List α}{z:α}(h:1<=l.length):l=l.take (l.length-1)++[l[l.length-1]?.getD z]:=by
 have hlt:l.length-1<l.length:=by omega
 have e:l[l.length-1]?.getD z=l[l.length-1]:=by rw[jE hlt];rfl
 rw[e]
 conv=>lhs;rw[<- List.take_append_drop (l.length-1) l]
 congr 1
 rw[List.drop_eq_getElem_cons hlt,List.drop_of_length_le (by omega)]
theorem ZlE{α:Type}{l:List α}{z:α}(h:1<=l.length):l=[l[0]?.getD z]++l.drop 1:=by
 match l,h with
 | a::r,_=>rfl
theorem DR{t:Tr}(h:1<=t.h):Big t:=fun q=>by omega
theorem Xr{N:ZC}(hN:GoodN N):∀n x y,Val N x->Val N y->n=x.h+y.h->MergeOk N x y (mergeF N n x y)
 | 0,x,y,hx,hy,hn=>ZlD hx hy (by omega) (by omega)
 | n+1,x,y,hx,hy,hn=>by
  have hx16:=hx.h16;have hy16:=hy.h16;rw[mergeF];split
  ·rename_i hxy
   obtain⟨cx1,cx2,cx3,cx4⟩:=Q4 hN hx (by omega);obtain⟨cy1,cy2,cy3,cy4⟩:=Q4 hN hy (by omega);split
   ·rename_i h4
    have hl:∀t∈childs N x++childs N y,Val N t/\t.h=x.h-1/\Big t:=by
     intro t ht;rcases List.mem_append.1 ht with q|q
     ·obtain⟨a,b,c⟩:=cx1 t q;exact⟨a,by omega,c⟩
     ·obtain⟨a,b,c⟩:=cy1 t q;exact⟨a,by omega,c⟩
    obtain⟨a,b,c⟩:=B9 (l:=childs N x++childs N y) (by rw[lL];omega) (by rw[lL];omega) (show x.h-1+1<=16 by omega) hl;refine⟨?_,?_,.inl Y,?_,?_,fun q=>by simp at q,?_⟩
    ·intro t ht;simp only[List.mem_singleton]at ht;subst ht;exact a
    ·intro t ht;simp only[List.mem_singleton]at ht;subst ht;omega
    ·simp only[Tr.bytesL,c,Tr.bytesL_append,cx4,cy4];omega
    ·simp only[Tr.txtL,lN]
     rw[DQ N (by rw[lL];omega),Tr.txtL_append,<- Ef hN hx (by omega),<- Ef hN hy (by omega)]
    ·intro _ t ht;simp only[List.mem_singleton]at ht;subst ht;exact DR (by omega)
   ·refine⟨?_,?_,.inr Y,by simp[Tr.bytesL],by simp[Tr.txtL],?_,?_⟩
    ·intro t ht
     simp only[List.mem_cons,List.not_mem_nil,or_false]at ht;rcases ht with rfl|rfl<;>assumption
    ·intro t ht
     simp only[List.mem_cons,List.not_mem_nil,or_false]at ht;rcases ht with rfl|rfl<;>omega
    ·intro _ t ht
     simp only[List.mem_cons,List.not_mem_nil,or_false]at ht;rcases ht with rfl|rfl<;>exact DR (by omega)
    ·intro _ t ht
     simp only[List.mem_cons,List.not_mem_nil,or_false]at ht;rcases ht with rfl|rfl<;>exact DR (by omega)
  ·split
   ·rename_i hxy hlt
    obtain⟨c1,c2,c3,c4⟩:=Q4 hN hx (by omega);have ht:=Ef hN hx (by omega);generalize childs N x=l at *;have hs:=Nq (l:=l) (z:=Tr.zero) (by omega);generalize hu:l[l.length-1]?.getD Tr.zero=u at *;have hum:u∈l:=by rw[hs];simp
    have hlt':(l.take (l.length-1)).length=l.length-1:=by rw[List.length_take];omega
    generalize hq:l.take (l.length-1)=q at *;obtain⟨u1,u2,u3⟩:=c1 u hum;have ih:=Xr hN n u y u1 hy (by omega);generalize mergeF N n u y=r at *;have hr:r.length<=2/\1<=r.length:=by rcases ih.len with w|w<;>omega
    have hall:∀t∈q++r,Val N t/\t.h=x.h-1/\Big t:=by
     intro t ht;rcases List.mem_append.1 ht with w|w
     ·obtain⟨a,b,c⟩:=c1 t (by rw[hs];simp[w]);exact⟨a,by omega,c⟩
     ·exact⟨ih.val t w,by rw[ih.h t w];omega,ih.big (.inl u3) t w⟩
    obtain⟨f1,f2,f3,f4⟩:=Tn (l:=q++r) (by rw[lL];omega) (by rw[lL];omega) (show x.h-1+1<=16 by omega) hall;refine⟨fun t ht=>(f1 t ht).1,fun t ht=>by rw[(f1 t ht).2];omega,f2,?_,?_,fun _ t ht=>DR (by rw[(f1 t ht).2];omega),fun _ t ht=>DR (by rw[(f1 t ht).2];omega)⟩
    ·rw[f3,Tr.bytesL_append,ih.bytes,<- c4]
     conv=>rhs;rw[hs,Tr.bytesL_append]
     simp only[Tr.bytesL];omega
    ·rw[f4,Tr.txtL_append,ih.txt,ht]
     conv=>rhs;rw[hs,Tr.txtL_append]
     simp only[Tr.txtL,lN,List.append_assoc]
   ·rename_i hxy hlt
    obtain⟨c1,c2,c3,c4⟩:=Q4 hN hy (by omega);have ht:=Ef hN hy (by omega);generalize childs N y=l at *;have hs:=ZlE (l:=l) (z:=Tr.zero) (by omega);generalize hu:l[0]?.getD Tr.zero=u at *;have hum:u∈l:=by rw[hs];simp
    have hlt':(l.drop 1).length=l.length-1:=by rw[List.length_drop]
    generalize hq:l.drop 1=q at *;obtain⟨u1,u2,u3⟩:=c1 u hum;have ih:=Xr hN n x u hx u1 (by omega);generalize mergeF N n x u=r at *;have hr:r.length<=2/\1<=r.length:=by rcases ih.len with w|w<;>omega
    have hall:∀t∈r++q,Val N t/\t.h=y.h-1/\Big t:=by
     intro t ht;rcases List.mem_append.1 ht with w|w
     ·exact⟨ih.val t w,by rw[ih.h t w];omega,ih.big (.inr u3) t w⟩
     ·obtain⟨a,b,c⟩:=c1 t (by rw[hs];simp[w]);exact⟨a,by omega,c⟩
    obtain⟨f1,f2,f3,f4⟩:=Tn (l:=r++q) (by rw[lL];omega) (by rw[lL];omega) (show y.h-1+1<=16 by omega) hall;refine⟨fun t ht=>(f1 t ht).1,fun t ht=>by rw[(f1 t ht).2];omega,f2,?_,?_,fun _ t ht=>DR (by rw[(f1 t ht).2];omega),fun _ t ht=>DR (by rw[(f1 t ht).2];omega)⟩
    ·rw[f3,Tr.bytesL_append,ih.bytes,<- c4]
     conv=>rhs;rw[hs,Tr.bytesL_append]
     simp only[Tr.bytesL];omega
    ·rw[f4,Tr.txtL_append,ih.txt,ht]
     conv=>rhs;rw[hs,Tr.txtL_append]
     simp only[Tr.txtL,lN,List.append_assoc]
theorem Sl.cur{L:List Blk}{l:List Tr}(hg:L[ix]?=some (.arr 7 ver (l.map Tr.av)))(hn:n=l.length):Sl ⟨A,ro,L⟩ (.ref A.length ix ver 0 n) l:=by
 refine .ref (es:=l.map Tr.av) (by rw[St.get_cur,hg];rfl) hn (by simp;omega) ?_;rw[List.drop_zero,List.take_of_length_le (by simp;omega)]
section
variable {O:Orc}{k:List Fr}{Q:JD}{e:Env}{A:List (Bool × List Blk)}{L:List Blk}{keep:List Nat}{is:List PI}{d:Nat}
theorem Zpd{x:Opd}{l:List Tr}(hx:ZL e x=some (.lit (l.map Tr.av)))(hl:1<=l.length)(h:Is O is keep k Q ((d,.lit ((l.drop 1).map Tr.av))::e) st):
 Is O (⟨some d,none,false,.w .blind (.slc 7 x (some (.v (.int .i64 1))) none)⟩::is) keep k Q e st:=by
 refine DO ?_ h;have hlt:((1:Int)<=((l.map Tr.av).length:Nat)):=by simp;omega
 have ho:AK e (some (Opd.v (.int .i64 1)))=some (.int .i64 1):=rfl;have hn:AK e none=none:=rfl;simp only[Zt,PO.reads,if_true,evalPO,ZB hx,ho,hn,slcV,JT,oS,if_pos (show (0:Int)<=1/\(1:Int)<=((l.map Tr.av).length:Nat) from ⟨by decide,hlt⟩),Yu,QL,QF,Int.toNat_one,List.map_drop];rw[List.take_of_length_le (by simp)]
end
theorem Zsy{N:ZC}(hN:GoodN N):∀(n:Nat) {st:St} {lv ix:Nat} (hr:Rd st lv ix N) {x y:Tr} (hx:Val N x) (hy:Val N y) (hn:n=x.h+y.h),
 S Tb Fh [.ptr lv ix 0 0 0,x.av,y.av] st=some (.tup [.lit ((mergeF N n x y).map Tr.av),.int .i64 0],st):=by
 intro n;induction n with
 | zero =>
  intro st lv ix hr x y hx hy hn;have h1:x.h=0:=by omega
  have h2:y.h=0:=by omega
  refine Zv Y (fun A hA=>?_);have hLv:=fun L=>Zpa (hr.push hA (ro:=false) (L:=L)) hx hy h1 h2
  rw[mergeF];generalize leavesM N x y=r at *;repeat'(first|refine ruS Y ?_|refine isS Y ?_|refine rkS Y ?_|refine cm0 Y Y Y ?_ ?_|(intro _;try omega)|refine QU Y Y (Zb _) ?_|refine ZE Y Y Y (Zb _) ?_|refine Zi Y (Zn _) (Z1 _) ?_|refine ZE Y Y Y (Xe _) ?_|refine zA0 Y Y (hLv _) ?_)
  all_goals try omega
  all_goals refine ZQ hA (by simp) Y Y Y Y ?_
  all_goals rfl
 | succ n ih =>
  intro st lv ix hr x y hx hy hn;have hx16:=hx.h16;have hy16:=hy.h16;refine Zv Y (fun A hA=>?_);rw[mergeF];have hrp:=fun L=>hr.push hA (ro:=false) (L:=L)
  rcases Nat.lt_trichotomy x.h y.h with hlt|heq|hgt
  ·rw[if_neg (by omega),if_neg (by omega)]
   obtain⟨c1,c2,c3,c4⟩:=Q4 hN hy (by omega);have hC:=fun L=>Ec (hrp L) hy (by omega)
   generalize childs N y=l at *;have hlt':(l.drop 1).length=l.length-1:=by rw[List.length_drop]
   have hlm:(l.map Tr.av).length=l.length:=by simp
   repeat'(first|refine ruS Y ?_|refine isS Y ?_|refine rkS Y ?_|refine cm0 Y Y Y ?_ ?_|(intro _;try omega)|refine Jy Y Y (by omega) Zn (fun _ _=>?_)|refine Zx Y (Zb _) ?_|refine QU Y Y (Zb _) ?_|refine ZE Y Y Y (Zb _) ?_|refine Zi Y (Zn _) (Z1 _) ?_|refine ZE Y Y Y (Xe _) ?_|refine zA0 Y Y (hC _) ?_)
   all_goals try omega
   all_goals
    rename_i u hu;have hu2:l[0]?=some u:=hu;rw[hu2];obtain⟨u1,u2,u3⟩:=c1 u (jM hu2);have hM:=fun L=>ih (hrp L) hx u1 (show n=x.h+u.h by omega)
    have hMo:=Xr hN n x u hx u1 (by omega);simp only[Option.getD_some]at hMo ⊢;generalize mergeF N n x u=r at *;have hr2:r.length<=2:=by rcases hMo.len with w|w<;>omega
    have hh:∀t∈r++l.drop 1,t.h<=65536:=by
     intro t ht;rcases List.mem_append.1 ht with q|q
     ·have:=hMo.h t q;omega
     ·have:=(c1 t (List.mem_of_mem_drop q)).2.1;omega
    have hF:=fun {v:AV} {st:St} (hv:Sl st v (r++l.drop 1))=>Tm (by rw[lL];omega) hh hv
    repeat'(first|refine ruS Y ?_|refine isS Y ?_|refine rkS Y ?_|refine cm0 Y Y Y ?_ ?_|(intro _;try omega)|refine zA0 Y Y (hM _) ?_|refine Zpd Y (by omega) ?_|refine DO Y ?_|refine Nl Y Y (.lit _) (by omega) ?_|refine H3 Y Y Y Y (.lit _) (by omega) ?_|refine zA0 Y Y (hF (Sl.cur rfl rfl)) ?_)
    all_goals try omega
    all_goals refine ZQ hA (by simp) Y Y Y Y ?_
    all_goals rfl
  ·rw[if_pos heq]
   obtain⟨cx1,cx2,cx3,cx4⟩:=Q4 hN hx (by omega);obtain⟨cy1,cy2,cy3,cy4⟩:=Q4 hN hy (by omega);have hCx:=fun L=>Ec (hrp L) hx (by omega)
   have hCy:=fun L=>Ec (hrp L) hy (by omega)
   have hhx:∀t∈childs N x++childs N y,t.h<=65536:=by
    intro t ht;rcases List.mem_append.1 ht with q|q
    ·have:=(cx1 t q).2.1;omega
    ·have:=(cy1 t q).2.1;omega
   generalize childs N x=kx at *;generalize childs N y=ky at *;have hGr:=fun {v:AV} {st:St} (hv:Sl st v (kx++ky))=>BK (by rw[lL];omega) hhx hv
   repeat'(first|refine ruS Y ?_|refine isS Y ?_|refine rkS Y ?_|refine Z5 Y ?_|refine cm0 Y Y Y ?_ ?_|(intro _;try omega)|refine ZV Y Y (by omega) ?_|refine Z7 Y Y Y Y ?_|refine QU Y Y (Zb _) ?_|refine ZE Y Y Y (Zb _) ?_|refine Zi Y (Zn _) (Z1 _) ?_|refine ZE Y Y Y (Xe _) ?_|refine zA0 Y Y (hCx _) ?_|refine zA0 Y Y (hCy _) ?_|refine Td Y Y (.lit _) (by omega) ?_|refine H3 Y Y Y Y (.lit _) (by omega) ?_|refine zA0 Y Y (hGr (Sl.cur rfl rfl)) ?_|refine Ee Y ?_|refine H6 Y Y ?_)
   all_goals try omega
   all_goals refine ZQ hA (by simp) Y Y Y Y ?_
   ·rw[if_pos (by omega)]
   ·rw[if_neg (by omega)]
  ·rw[if_neg (by omega),if_pos hgt]
   obtain⟨c1,c2,c3,c4⟩:=Q4 hN hx (by omega);have hC:=fun L=>Ec (hrp L) hx (by omega)
   generalize childs N x=l at *;have hs:=Nq (l:=l) (z:=Tr.zero) (by omega);have hlt':(l.take (l.length-1)).length=l.length-1:=by rw[List.length_take];omega
   have hSl:∀L,Sl ⟨A,false,L⟩ (.lit ((l.map Tr.av).take (((l.length:Nat):Int)-1).toNat)) (l.take (l.length-1)):=by
    intro L;rw[show (((l.length:Nat):Int)-1).toNat=l.length-1 by omega,<- List.map_take];exact .lit _
   have hlm:(l.map Tr.av).length=l.length:=by simp
   repeat'(first|refine ruS Y ?_|refine isS Y ?_|refine ZO ?_|refine Z5 Y ?_|refine cm0 Y Y Y ?_ ?_|(intro _;try omega)|refine YH Y Y (by omega) ?_|refine Jy Y Y (by omega) Zn (fun _ _=>?_)|refine Zx Y (Zb _) ?_|refine QU Y Y (Zb _) ?_|refine ZE Y Y Y (Zb _) ?_|refine Zi Y (Zn _) (Z1 _) ?_|refine ZE Y Y Y (Xe _) ?_|refine zA0 Y Y (hC _) ?_)
   all_goals try omega
   rename_i u hu;have hu2:l[l.length-1]?=some u:=by rw[show l.length-1=(((l.length:Nat):Int)-1).toNat by omega];exact hu
   rw[hu2];obtain⟨u1,u2,u3⟩:=c1 u (jM hu2);have hM:=fun L=>ih (hrp L) u1 hy (show n=u.h+y.h by omega)
   have hMo:=Xr hN n u y u1 hy (by omega);simp only[Option.getD_some]at hMo ⊢;generalize mergeF N n u y=r at *;have hr2:r.length<=2:=by rcases hMo.len with w|w<;>omega
   have hh:∀t∈l.take (l.length-1)++r,t.h<=65536:=by
    intro t ht;rcases List.mem_append.1 ht with q|q
    ·have:=(c1 t (List.mem_of_mem_take q)).2.1;omega
    ·have:=hMo.h t q;omega
   have hF:=fun {v:AV} {st:St} (hv:Sl st v (l.take (l.length-1)++r))=>Tm (by rw[lL];omega) hh hv
   repeat'(first|refine ruS Y ?_|refine isS Y ?_|refine rkS Y ?_|refine cm0 Y Y Y ?_ ?_|(intro _;try omega)|refine Z7 Y Y Y Y ?_|refine zA0 Y Y (hM _) ?_|refine HN Y Y (by omega) (Yu _) ?_|refine Td Y Y (hSl _) (by omega) ?_|refine H3 Y Y Y Y (.lit _) (by omega) ?_|refine zA0 Y Y (hF (Sl.cur rfl rfl)) ?_)
   all_goals try omega
   all_goals refine ZQ hA (by simp) Y Y Y Y ?_
   all_goals rfl
def VE(N:ZC)(t:Tr):Prop:=IsEmpty t\/Val N t
theorem IsEmpty.bytes{t:Tr}(h:IsEmpty t):t.bytes=0:=by
 obtain⟨o,h',m,s,k⟩:=t;obtain⟨h1,h2,h3,h4,h5⟩:=h;simp only[Tr.old,Tr.h,Tr.m,Tr.text,Tr.ks]at *;subst h3 h4;rw[Tr.bytes,Tr.bytesO_getD,h5];rfl
theorem IsEmpty.txt{t:Tr}(N:ZC)(h:IsEmpty t):t.txt N=[]:=by
 obtain⟨o,h',m,s,k⟩:=t;obtain⟨h1,h2,h3,h4,h5⟩:=h;simp only[Tr.old,Tr.h,Tr.m,Tr.text,Tr.ks]at *;subst h1 h4;rw[Tr.txt,Tr.txtO_getD,h5];rfl
theorem zero_empty:IsEmpty Tr.zero:=⟨rfl,rfl,rfl,rfl,rfl⟩
theorem VE.pos{N:ZC}{t:Tr}(h:VE N t):t.Pos/\0<=t.bytes:=by
 rcases h with h|h
 ·refine⟨?_,by rw[h.bytes];omega⟩
  obtain⟨o,h',m,s,k⟩:=t;obtain⟨h1,h2,h3,h4,h5⟩:=h;simp only[Tr.old,Tr.h,Tr.m,Tr.text,Tr.ks]at *;subst h3;exact⟨by decide,by rw[h5];decide,by rw[h5];intro t ht;simp at ht⟩
 ·exact⟨h.pos.1,by have:=h.pos.2;omega⟩
theorem VE.val{N:ZC}{t:Tr}(h:VE N t)(hb:t.bytes≠0):Val N t:=by
 rcases h with h|h
 ·exact absurd h.bytes hb
 ·exact h
theorem VE.empty{N:ZC}{t:Tr}(h:VE N t)(hb:t.bytes=0):IsEmpty t:=by
 rcases h with h|h
 ·exact h
 ·have:=h.pos.2;omega
theorem VE.len{N:ZC}(hN:GoodN N){t:Tr}(h:VE N t):((t.txt N).length:Int)=t.bytes:=by
 rcases h with h|h
 ·rw[h.txt,h.bytes];rfl
 ·exact Eg hN h
noncomputable def concM(N:ZC)(x y:Tr):Tr :=
 if x.bytes=0 then y else if y.bytes=0 then x else grp (mergeF N (x.h+y.h) x y)
structure ConcOk(N:ZC)(x y t:Tr):Prop where
 ve:VE N t
 bytes:t.bytes=x.bytes+y.bytes
 txt:t.txt N=x.txt N++y.txt N
 h:t.h<=max x.h y.h+1
theorem Ch{N:ZC}(hN:GoodN N){x y:Tr}(hx:VE N x)(hy:VE N y)(hb:x.bytes+y.bytes<=65536):ConcOk N x y (concM N x y):=by
 unfold concM;split
 ·rename_i h
  exact⟨hy,by omega,by rw[(hx.empty h).txt];rfl,by omega⟩
 ·rename_i h
  split
  ·rename_i h2
   exact⟨hx,by omega,by rw[(hy.empty h2).txt,lN],by omega⟩
  ·rename_i h2
   have vx:=hx.val h;have vy:=hy.val h2;have hm:=Xr hN _ x y vx vy rfl;generalize mergeF N (x.h+y.h) x y=r at *;have hx0:=hx.pos.2;have hy0:=hy.pos.2
   match r,hm.len,hm with
   | [t],_,hm =>
    have a:=hm.bytes;have b:=hm.txt;simp only[Tr.bytesL,Tr.txtL,lN,Int.add_zero]at a b;exact⟨.inr (hm.val t (by simp)),a,b,by have:=hm.h t (by simp);simp only[grp];omega⟩
   | [t,u],_,hm =>
    have a:=hm.bytes;have b:=hm.txt;have ht:=hm.h t (by simp);have hu:=hm.h u (by simp);have hpt:=(hm.val t (by simp)).pos.2;have hpu:=(hm.val u (by simp)).pos.2;simp only[Tr.bytesL,Int.add_zero]at a;have h13:=(hm.val t (by simp)).height hN (by omega);obtain⟨g1,g2,g3⟩:=B9 (l:=[t,u]) (h:=max x.h y.h) (by simp) (by simp) (by omega) (fun w hw=>⟨hm.val w hw,hm.h w hw,hm.two rfl w hw⟩);exact⟨.inr g1,by rw[g3];simp only[Tr.bytesL];omega,by rw[DQ N (by simp)];exact b,by omega⟩
   | [],h,_=>simp at h
   | _::_::_::_,h,_=>simp at h
def Qh:List Tr->Int->Nat × Int
 | [],a=>(0,a)
 | [_],a=>(0,a)
 | t::u::l,a=>if t.bytes<=a then ((Qh (u::l) (a-t.bytes)).1+1,(Qh (u::l) (a-t.bytes)).2) else (0,a)
theorem H9:∀(l:List Tr) (a:Int),1<=l.length->(∀t∈l,0<=t.bytes)->0<=a->a<Tr.bytesL l->(Qh l a).1<l.length/\0<=(Qh l a).2/\(Qh l a).2=a-Tr.bytesL (l.take (Qh l a).1)/\∀t,l[(Qh l a).1]?=some t->(Qh l a).2<t.bytes
 | [],a,h,_,_,_=>by simp at h
 | [t],a,_,h,h0,h1=>by
  simp only[Tr.bytesL]at h1;simp only[Qh,List.take_zero,Tr.bytesL,List.length_singleton,List.getElem?_cons_zero,oJ];refine⟨by omega,h0,by omega,fun u hu=>by subst hu;omega⟩
 | t::u::l,a,_,h,h0,h1=>by
  rw[Qh];split
  ·rename_i hle
   rw[Tr.bytesL]at h1;obtain⟨i1,i2,i3,i4⟩:=H9 (u::l) (a-t.bytes) (by simp) (fun w hw=>h w (by simp[List.mem_cons.1 hw])) (by omega) (by omega);refine⟨by simp only[List.length_cons]at *;omega,i2,?_,?_⟩
   ·simp only[List.take_succ_cons,Tr.bytesL];omega
   ·intro w hw;exact i4 w (by simpa using hw)
  ·rename_i hlt
   have:=h t (by simp);refine⟨by simp,h0,by simp[Tr.bytesL],fun w hw=>?_⟩;simp at hw;subst hw;omega
noncomputable def cutF(N:ZC):Nat->Tr->Int->Tr × Tr
 | 0,t,a =>
  if a=0 then (.zero,t) else if a=t.bytes then (t,.zero)
  else (Jj ((QN N t).take a.toNat),Jj ((QN N t).drop a.toNat))
 | n+1,t,a =>
  if a=0 then (.zero,t) else if a=t.bytes then (t,.zero)
  else if (Qh (childs N t) a).2=0 then (grp ((childs N t).take (Qh (childs N t) a).1),grp ((childs N t).drop (Qh (childs N t) a).1))
  else (concM N (grp ((childs N t).take (Qh (childs N t) a).1)) (cutF N n ((childs N t)[(Qh (childs N t) a).1]?.getD .zero) (Qh (childs N t) a).2).1,
   concM N (cutF N n ((childs N t)[(Qh (childs N t) a).1]?.getD .zero) (Qh (childs N t) a).2).2 (grp ((childs N t).drop ((Qh (childs N t) a).1+1))))
theorem B_{N:ZC}{l:List Tr}{h:Nat}(h2:l.length<=4)(hh:h+1<=16)(hl:∀t∈l,Val N t/\t.h=h/\Big t):VE N (grp l)/\(grp l).h<=h+1/\(grp l).bytes=Tr.bytesL l/\(grp l).txt N=Tr.txtL N l/\(l.length<=1->(grp l).h<=h):=by
 match l,h2,hl with
 | [],_,_=>exact⟨.inl zero_empty,by simp[grp,Tr.zero,Tr.h],rfl,rfl,fun _=>by simp[grp,Tr.zero,Tr.h]⟩
 | [t],_,hl=>exact⟨.inr (hl t (by simp)).1,by have:=(hl t (by simp)).2.1;simp only[grp];omega,by simp[grp,Tr.bytesL],by simp[grp,Tr.txtL],fun _=>by have:=(hl t (by simp)).2.1;simp only[grp];omega⟩
 | t::u::r,h2,hl =>
  obtain⟨a,b,c⟩:=B9 (l:=t::u::r) (by simp) h2 hh hl;exact⟨.inr a,by omega,c,DQ N (by simp),fun q=>by simp at q⟩
structure CutOk(N:ZC)(t:Tr)(a:Int)(q:Tr × Tr):Prop where
 l:VE N q.1
 r:VE N q.2
 lb:q.1.bytes=a
 rb:q.2.bytes=t.bytes-a
 lt:q.1.txt N=(t.txt N).take a.toNat
 rt:q.2.txt N=(t.txt N).drop a.toNat
 lh:q.1.h<=t.h
 rh:q.2.h<=t.h
theorem ZjU{N:ZC}(hN:GoodN N){x y:Tr}(hx:Val N x)(hy:Val N y)(h:y.h<x.h)(hc:(childs N x).length<=3):(mergeF N (x.h+y.h) x y).length=1:=by
 obtain⟨n,hn⟩:∃n,x.h+y.h=n+1:=⟨x.h+y.h-1,by omega⟩
 rw[hn,mergeF,if_neg (by omega),if_pos h];obtain⟨c1,c2,c3,c4⟩:=Q4 hN hx (by omega);generalize childs N x=l at *;have hs:=Nq (l:=l) (z:=Tr.zero) (by omega);have hum:l[l.length-1]?.getD Tr.zero∈l:=by rw[jE (by omega)];simp
 generalize l[l.length-1]?.getD Tr.zero=u at *;obtain⟨u1,u2,u3⟩:=c1 u hum;have hm:=Xr hN n u y u1 hy (by omega);generalize mergeF N n u y=r at *;have hr:r.length<=2:=by rcases hm.len with w|w<;>omega
 unfold foldM;rw[if_pos (by rw[lL,List.length_take];omega)];rfl
theorem Zhs{N:ZC}(hN:GoodN N){x y:Tr}(hx:Val N x)(hy:Val N y)(h:x.h<y.h)(hc:(childs N y).length<=3):(mergeF N (x.h+y.h) x y).length=1:=by
 obtain⟨n,hn⟩:∃n,x.h+y.h=n+1:=⟨x.h+y.h-1,by omega⟩
 rw[hn,mergeF,if_neg (by omega),if_neg (by omega)];obtain⟨c1,c2,c3,c4⟩:=Q4 hN hy (by omega);generalize childs N y=l at *;have hum:l[0]?.getD Tr.zero∈l:=by rw[jE (by omega)];simp
 generalize l[0]?.getD Tr.zero=u at *;obtain⟨u1,u2,u3⟩:=c1 u hum;have hm:=Xr hN n x u hx u1 (by omega);generalize mergeF N n x u=r at *;have hr:r.length<=2:=by rcases hm.len with w|w<;>omega
 unfold foldM;rw[if_pos (by rw[lL,List.length_drop];omega)];rfl
theorem To(N:ZC){l:List Tr}(h:2<=l.length):childs N (grp l)=l:=by
 rw[Ea h];rfl
theorem Tp{N:ZC}(hN:GoodN N){x y:Tr}(hx:Val N x)(hy:Val N y)(h:(mergeF N (x.h+y.h) x y).length=1):(grp (mergeF N (x.h+y.h) x y)).h=max x.h y.h:=by
 have hm:=Xr hN _ x y hx hy rfl
 match mergeF N (x.h+y.h) x y,h,hm with
 | [t],_,hm=>exact hm.h t (by simp)
theorem Znd{N:ZC}(hN:GoodN N){l:List Tr}{y:Tr}{h:Nat}(h3:l.length<=3)(hh:h+1<=16)(hl:∀t∈l,Val N t/\t.h=h/\Big t)(hy:VE N y)(hyh:y.h<=h)(hb:(grp l).bytes+y.bytes<=65536):(concM N (grp l) y).h<=h+1:=by
 obtain⟨g1,g2,g3,g4,g5⟩:=B_ (by omega) hh hl;rcases Nat.lt_or_ge 1 l.length with q|q
 ·unfold concM
  split
  ·omega
  ·split
   ·exact g2
   ·rename_i a b
    have vg:=g1.val a;have vy:=hy.val b;have hgh:(grp l).h=h+1:=(B9 (by omega) (by omega) hh hl).2.1;have h1:=ZjU hN vg vy (by omega) (by rw[To N (by omega)];exact h3);rw[Tp hN vg vy h1];omega
 ·have:=g5 q
  have:=(Ch hN g1 hy hb).h;omega
theorem ZlF{N:ZC}(hN:GoodN N){l:List Tr}{x:Tr}{h:Nat}(h3:l.length<=3)(hh:h+1<=16)(hl:∀t∈l,Val N t/\t.h=h/\Big t)(hx:VE N x)(hxh:x.h<=h)(hb:x.bytes+(grp l).bytes<=65536):(concM N x (grp l)).h<=h+1:=by
 obtain⟨g1,g2,g3,g4,g5⟩:=B_ (by omega) hh hl;rcases Nat.lt_or_ge 1 l.length with q|q
 ·unfold concM
  split
  ·exact g2
  ·split
   ·omega
   ·rename_i a b
    have vg:=g1.val b;have vx:=hx.val a;have hgh:(grp l).h=h+1:=(B9 (by omega) (by omega) hh hl).2.1;have h1:=Zhs hN vx vg (by omega) (by rw[To N (by omega)];exact h3);rw[Tp hN vx vg h1];omega
 ·have:=g5 q
  have:=(Ch hN hx g1 hb).h;omega
theorem Nr{N:ZC}(hN:GoodN N):∀ {l:List Tr},(∀t∈l,Val N t)->((Tr.txtL N l).length:Int)=Tr.bytesL l
 | [],_=>rfl
 | t::l,h=>by
  have h1:=Eg hN (h t (by simp));have h2:=Nr hN (l:=l) (fun u hu=>h u (by simp[hu]));rw[Tr.txtL,Tr.bytesL,lL];omega
theorem Ci{N:ZC}(hN:GoodN N):∀n t a,VE N t->t.h=n->0<=a->a<=t.bytes->t.bytes<=65536->CutOk N t a (cutF N n t a):=by
 intro n;induction n with
 | zero =>
  intro t a ht hh h0 h1 hb;have htl:=ht.len hN;rw[cutF];split
  ·rename_i h;subst h
   exact⟨.inl zero_empty,ht,rfl,by simp,rfl,rfl,by simp[Tr.zero,Tr.h],Nat.le_refl _⟩
  ·split
   ·rename_i h;subst h
    refine⟨ht,.inl zero_empty,rfl,by simp[zero_empty.bytes],?_,?_,Nat.le_refl _,by simp[Tr.zero,Tr.h]⟩
    ·rw[List.take_of_length_le (by omega)]
    ·rw[List.drop_of_length_le (by omega)];rfl
   ·rename_i q1 q2
    have vt:=ht.val (by omega);obtain⟨l1,l2⟩:=vt.line hh;have e1:((QN N t).take a.toNat).length=a.toNat:=by rw[List.length_take];omega
    have e2:((QN N t).drop a.toNat).length=(QN N t).length-a.toNat:=by rw[List.length_drop]
    unfold Ai at l2;refine⟨.inr (H7 ⟨by omega,by omega⟩),.inr (H7 ⟨by omega,by omega⟩),?_,?_,?_,?_,by simp[Jj,Tr.h],by simp[Jj,Tr.h]⟩
    ·simp only[Eh];omega
    ·simp only[Eh];omega
    ·simp only[H8,Fy vt hh]
    ·simp only[H8,Fy vt hh]
 | succ n ih =>
  intro t a ht hh h0 h1 hb;have htl:=ht.len hN;rw[cutF];split
  ·rename_i h;subst h
   exact⟨.inl zero_empty,ht,rfl,by simp,rfl,rfl,by simp[Tr.zero,Tr.h],Nat.le_refl _⟩
  ·split
   ·rename_i h;subst h
    refine⟨ht,.inl zero_empty,rfl,by simp[zero_empty.bytes],?_,?_,Nat.le_refl _,by simp[Tr.zero,Tr.h]⟩
    ·rw[List.take_of_length_le (by omega)]
    ·rw[List.drop_of_length_le (by omega)];rfl
   ·rename_i q1 q2
    have vt:=ht.val (by omega);have h16:=vt.h16;obtain⟨c1,c2,c3,c4⟩:=Q4 hN vt (by omega);have htx:=Ef hN vt (by omega);generalize childs N t=l at *;obtain⟨s1,s2,s3,s4⟩:=H9 l a (by omega) (fun u hu=>by have:=(c1 u hu).1.pos.2;omega) h0 (by omega);generalize hk:(Qh l a).1=k at *;generalize hb2:(Qh l a).2=b at *;have hl:∀u∈l,Val N u/\u.h=n/\Big u:=fun u hu=>⟨(c1 u hu).1,by have:=(c1 u hu).2.1;omega,(c1 u hu).2.2⟩
    have ltk:(l.take k).length=k:=by rw[List.length_take];omega
    have ldk:(l.drop k).length=l.length-k:=by rw[List.length_drop]
    obtain⟨a1,a2,a3,a4,a5⟩:=B_ (l:=l.take k) (by omega) (show n+1<=16 by omega) (fun u hu=>hl u (List.mem_of_mem_take hu));obtain⟨b1,b2,b3,b4,b5⟩:=B_ (l:=l.drop k) (by omega) (show n+1<=16 by omega) (fun u hu=>hl u (List.mem_of_mem_drop hu));have hsum:Tr.bytesL l=Tr.bytesL (l.take k)+Tr.bytesL (l.drop k):=by rw[<- Tr.bytesL_append,List.take_append_drop]
    have htt:Tr.txtL N l=Tr.txtL N (l.take k)++Tr.txtL N (l.drop k):=by rw[<- Tr.txtL_append,List.take_append_drop]
    have hlt:=Nr hN (l:=l.take k) (fun u hu=>(hl u (List.mem_of_mem_take hu)).1);split
    ·rename_i hz
     refine⟨a1,b1,by simp only[a3];omega,by simp only[b3];omega,?_,?_,by simp only;omega,by simp only;omega⟩
     ·simp only[a4]
      rw[htx,htt,List.take_append_of_le_length (by omega),List.take_of_length_le (l:=Tr.txtL N (l.take k)) (by omega)]
     ·simp only[b4]
      rw[htx,htt,List.drop_append_of_le_length (by omega),List.drop_of_length_le (l:=Tr.txtL N (l.take k)) (by omega)];rfl
    ·rename_i hz
     obtain⟨u,hu⟩:∃u,l[k]?=some u:=⟨l[k],by simp[s1]⟩
     rw[hu];simp only[Option.getD_some];obtain⟨u1,u2,u3⟩:=hl u (jM hu);have hub:=s4 u hu;have ldk1:(l.drop (k+1)).length=l.length-(k+1):=by rw[List.length_drop]
     have hdk:l.drop k=u::l.drop (k+1):=by
      have hlt:k<l.length:=s1;rw[List.drop_eq_getElem_cons hlt]
      congr 1
      rw[jE hlt]at hu;exact Option.some.inj hu
     rw[hdk]at hsum htt;rw[Tr.bytesL]at hsum;rw[Tr.txtL]at htt;obtain⟨d1,d2,d3,d4,d5⟩:=B_ (l:=l.drop (k+1)) (by omega) (show n+1<=16 by omega) (fun w hw=>hl w (List.mem_of_mem_drop hw));have p1:=Tr.bytesL_nonneg (l:=l.take k) (fun w hw=>by have:=(hl w (List.mem_of_mem_take hw)).1.pos.2;omega);have p2:=Tr.bytesL_nonneg (l:=l.drop (k+1)) (fun w hw=>by have:=(hl w (List.mem_of_mem_drop hw)).1.pos.2;omega);have hc:=ih u b (.inr u1) u2 s2 (by omega) (by omega);generalize cutF N n u b=r at *;have hut:=Eg hN u1;have k1:=Ch hN a1 hc.l (by rw[hc.lb,a3];omega);have k2:=Ch hN hc.r d1 (by rw[hc.rb,d3];omega);refine⟨k1.ve,k2.ve,by rw[k1.bytes,hc.lb,a3];omega,by rw[k2.bytes,hc.rb,d3];omega,?_,?_,?_,?_⟩
     ·rw[k1.txt,a4,hc.lt,htx,htt,List.take_append,List.take_of_length_le (l:=Tr.txtL N (l.take k)) (by omega),List.take_append_of_le_length (by omega)]
      congr 2;omega
     ·rw[k2.txt,d4,hc.rt,htx,htt,List.drop_append,List.drop_of_length_le (l:=Tr.txtL N (l.take k)) (by omega),List.drop_append_of_le_length (by omega)]
      simp only[lE]
      congr 2;omega
     ·have:=Znd hN (l:=l.take k) (by omega) (show n+1<=16 by omega) (fun w hw=>hl w (List.mem_of_mem_take hw)) hc.l (by have:=hc.lh;omega) (by rw[hc.lb,a3];omega)
      simp only;omega
     ·have:=ZlF hN (l:=l.drop (k+1)) (by omega) (show n+1<=16 by omega) (fun w hw=>hl w (List.mem_of_mem_drop hw)) hc.r (by have:=hc.rh;omega) (by rw[hc.rb,d3];omega)
      simp only;omega
theorem Val.kindNe{N:ZC}{t:Tr}(hv:Val N t):∃k:Int,k≠1/\∀st,S Tb QW [t.av] st=some (.int .i64 k,st):=by
 rcases hv.kind with h|h|h
 ·exact⟨2,by decide,fun st=>Hx _ h st⟩
 ·exact⟨3,by decide,fun st=>Hy _ h st⟩
 ·exact⟨4,by decide,fun st=>Hz _ h st⟩
theorem H_{N:ZC}(hN:GoodN N){lv:Nat}(hr:Rd st lv ix N){x y:Tr}(hx:VE N x)(hy:VE N y):
 S Tb Yx [.ptr lv ix 0 0 0,x.av,y.av] st=some (.tup [(concM N x y).av,.int .i64 0],st):=by
 refine Zv Y (fun A hA=>?_);have hrp:=fun L=>hr.push hA (ro:=false) (L:=L)
 unfold concM;rcases hx with hx|hx
 ·rw[if_pos hx.bytes]
  have hK:=fun st=>Fs x hx st
  repeat'(first|refine ruS Y ?_|refine isS Y ?_|refine rkS Y ?_|refine cm0 Y Y Y ?_ ?_|(intro _;try omega)|refine ZX Y Y Y ?_|refine ZE Y Y Y (Zb _) ?_|refine Zg Y Y Y (Z9 _ _ _) (Qg _ _) Y ?_|refine Zi Y (Zn _) (Z1 _) ?_|refine zA0 Y Y (hK _) ?_)
  all_goals try omega
  exact Cf hA (.inr Y) Y Y Y Y
 ·rw[if_neg (by have:=hx.pos.2;omega)]
  obtain⟨k,hk1,hK⟩:=hx.kindNe;rcases hy with hy|hy
  ·rw[if_pos hy.bytes]
   have hK2:=fun st=>Fs y hy st
   repeat'(first|refine ruS Y ?_|refine isS Y ?_|refine rkS Y ?_|refine cm0 Y Y Y ?_ ?_|(intro _;try omega)|refine ZX Y Y Y ?_|refine ZE Y Y Y (Zb _) ?_|refine Zg Y Y Y (Z9 _ _ _) (Qg _ _) Y ?_|refine Zi Y (Zn _) (Z1 _) ?_|refine zA0 Y Y (hK _) ?_|refine zA0 Y Y (hK2 _) ?_)
   all_goals try omega
   exact Cf hA (.inr Y) Y Y Y Y
  ·rw[if_neg (by have:=hy.pos.2;omega)]
   obtain⟨k2,hk2,hK2⟩:=hy.kindNe;have hM:=fun L=>Zsy hN (x.h+y.h) (hrp L) hx hy rfl
   have hMo:=Xr hN _ x y hx hy rfl;generalize mergeF N (x.h+y.h) x y=r at *;have hG:=fun st=>BK (v:=.lit (r.map Tr.av)) (l:=r) (st:=st) (by rcases hMo.len with w|w<;>omega) (fun t ht=>by have:=hMo.h t ht;have:=hx.h16;have:=hy.h16;omega) (.lit _)
   repeat'(first|refine ruS Y ?_|refine isS Y ?_|refine rkS Y ?_|refine cm0 Y Y Y ?_ ?_|(intro _;try omega)|refine ZX Y Y Y ?_|refine ZE Y Y Y (Zb _) ?_|refine Zg Y Y Y (Z9 _ _ _) (Qg _ _) Y ?_|refine Zi Y (Zn _) (Z1 _) ?_|refine zA0 Y Y (hK _) ?_|refine zA0 Y Y (hK2 _) ?_|refine zA0 Y Y (hM _) ?_|refine zA0 Y Y (hG _) ?_)
   all_goals try omega
   exact Cf hA (.inr Y) Y Y Y Y
end Go.Q15
