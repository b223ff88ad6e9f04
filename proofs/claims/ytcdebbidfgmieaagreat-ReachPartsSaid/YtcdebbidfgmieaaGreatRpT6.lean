/- A part of the proof: YM, YN, PSg, W4, M1, M2, M3, M4, M5, M6, M7, M8, CH, M9, PM, M10. No condition. -/
import Derived.Test.YtcdebbidfgmieaaGreatRpT0
import Derived.Maps.RangeRun
import Derived.Test.YtcdebbidfgmieaaGreatRpT5
set_option linter.unusedVariables false
set_option linter.unusedSimpArgs false
set_option maxHeartbeats 4000000
set_option maxRecDepth 100000
namespace Go.QAbs
open Go.RowKit (Below)
open Go.ChangeMaps (setBlock)
variable {v:AV}{a:Act}{ro:Bool}{c:Code}{e:Env}{g most:Int}{A:List (Bool × List Blk)}{es:LV}{bs:List Blk}{clock d i ix j n ver w:Nat}{st:St}
def ZR3:Obj->Bool
 | .mapIter _ _ _ _=>true
 | _=>false
structure Jk(r:Nat)(W W':World):Prop where
 os:W'.os=W.os
 tape:W'.tape=W.tape
 output:W'.output=W.output
 size:W.heap.size<=W'.heap.size
 blk:∀i,i<W.heap.size->i≠r->W'.heap[i]?=W.heap[i]?
 it:W.heap.size<=r\/∃o o',W.heap[r]?=some o/\ZR3 o=true/\W'.heap[r]?=some o'/\ZR3 o'=true
section
variable {P:Program}{W0:World}{B0:Bse}{st st':St}{ρ:Rho}{W W':World}{e:Env}{r:Nat}
theorem Jk.heap(h:Jk r W W'){o:Obj}(ho:W.heap[i]?=some o)(hi:ZR3 o=false):W'.heap[i]?=some o:=by
 have hlt:=QH ho
 by_cases e:i=r
 ·subst e
  rcases h.it with q|⟨o1,o2,q1,q2,_⟩
  ·omega
  ·rw[q1]at ho;simp only[oJ]at ho;subst ho;rw[q2]at hi;simp at hi
 ·rw[h.blk i hlt e];exact ho
theorem Jk.cell(h:Jk r W W'){a:Addr}{v:Value}(hv:W.cell? a=some v):W'.cell? a=some v:=by
 unfold World.cell? at hv ⊢
 cases ho:W.heap[a.block]? with
 | none=>rw[ho]at hv;simp at hv
 | some o =>
  rw[ho]at hv
  cases o<;>simp at hv
  rename_i c t f
  rw[h.heap ho rfl]
  simpa using hv
theorem Jk.frozen(h:Jk r W W'){a:Addr}(hv:(W.cell? a).isSome=true):W'.frozen? a=W.frozen? a:=by
 unfold World.cell? at hv
 cases ho:W.heap[a.block]? with
 | none=>rw[ho]at hv;simp at hv
 | some o =>
  rw[ho]at hv
  cases o<;>simp at hv
  rename_i c t f
  unfold World.frozen?;rw[h.heap ho rfl,ho]
theorem Rel.jk(h:Rel W0 B0 st ρ W)(hj:Jk r W W')(hr:B0.n<=r):Goes W0 B0 st ρ W st ρ W':=by
 have hle:∀m,(cx st ρ W m).le (cx st ρ W' m):=fun m=>⟨fun b o v q=>⟨hj.cell q.1,q.2⟩,fun _ _ _ _ _ _ q=>q,fun _ _ _ _ _ _ q=>q,fun _ _ _ q=>q,fun _ _ _ q=>q⟩
 have hb0:=h.b0
 have hbel:BelowS B0 W0 W':=by
  refine h.below.trans ⟨⟨hj.os,hj.tape,hj.output,hj.size,fun i hi=>hj.blk i (by omega) (by omega)⟩,fun i ob hi hs=>hj.heap hi (by cases ob<;>simp_all [Jg,ZR3])⟩
 refine⟨⟨hbel,Nat.le_trans h.b0 hj.size,h.yl,?_,h.sep,?_,h.msep⟩,⟨rfl,fun m _=>hle m,fun _ r h=>⟨r,h,rfl,fun _=>rfl⟩,rfl,fun _=>rfl,rfl⟩⟩
 ·intro lv ix w ver es hg
  obtain⟨a1,a2,a3⟩:=h.arr lv ix w ver es hg
  refine⟨a1,fun i e he=>?_,fun j hj'=>?_⟩
  ·obtain⟨x,h1,h2,h3⟩:=a2 i e he
   exact⟨x,h1.mono (hle lv),h2,h3.mono fun _ _ _=>hj.cell⟩
  ·obtain⟨m1,m2,m3⟩:=a3 j hj'
   obtain⟨u,hu⟩:=Option.isSome_iff_exists.1 m2
   exact⟨m1,by rw[hj.cell hu];rfl,by rw[hj.frozen m2];exact m3⟩
 ·intro lv ix es hg
  obtain⟨m1,en,clock,m2,m3,m4⟩:=h.map lv ix es hg
  refine⟨m1,en,clock,hj.heap m2 Y,m3,fun i k v hk=>?_⟩
  obtain⟨n1,x,n2,n3,n4⟩:=m4 i k v hk;exact⟨n1,x,n2,n3.mono (hle lv),n4.mono (hle lv)⟩
theorem Jk.trans{W W1 W2:World}{r:Nat}(hr:W.heap.size<=r)(h:Jk r W W1)(k:Jk r W1 W2):Jk r W W2 :=
 ⟨k.os.trans h.os,k.tape.trans h.tape,k.output.trans h.output,Nat.le_trans h.size k.size,fun i hi hne=>(k.blk i (Nat.lt_of_lt_of_le hi h.size) hne).trans (h.blk i hi hne),.inl hr⟩
theorem Jk.step{w1:World}(h1:w1=W\/w1=W.drew){o o':Obj}(ho:W.heap[r]?=some o)(hi:ZR3 o=true)(hi':ZR3 o'=true):Jk r W (setBlock w1 r o'):=by
 have hh:w1.heap=W.heap:=by rcases h1 with rfl|rfl<;>rfl
 have hlt:=QH ho
 refine⟨by rcases h1 with rfl|rfl<;>rfl,by rcases h1 with rfl|rfl<;>rfl,by rcases h1 with rfl|rfl<;>rfl,by simp[setBlock,hh],fun i hi hne=>?_,.inr ⟨o,o',ho,hi,?_,hi'⟩⟩
 ·simp only[setBlock,hh]
  rw[Array.getElem?_setIfInBounds,if_neg (fun q=>hne q.symm)]
 ·simp only[setBlock,hh]
  rw[Array.getElem?_setIfInBounds,if_pos rfl,if_pos hlt]
theorem ZJq{ops:Array Oper}{o:Oper}{Q:Exit->Act->World->Prop}{K:Act->World->Prop}{x:Value}(ho:ops[i]?=some o)(hg:o.guard=none)(hnd:∀c,o.op≠.defer c)
 (hrun:(execOp a.eval o).run P W=.ok (.value x) W') (hK:K (a.put o.dst x) W'):wpOpIn (fen none) 0 P ops Q i K a W:=by
 unfold wpOpIn
 have hw:Region.wanted o (yielded ops a.tmps)=true:=by unfold Region.wanted;rw[hg]
 simp only[ho,hw,if_true]
 refine⟨fun _ _=>trivial,?_⟩
 rw[Oper.semAt_eq _ _ _ hnd,hrun];exact hK
theorem ZSi{o:Oper}{t k el:TypeId}{m:Operand}(hop:o.op=.range t m)(ht:P.underlying t=some (.map k el)){b:Nat}{en:Array MapEntry}(hm:a.eval m=.map (some b))(hb:W.heap[b]?=some (.map en clock)):
 (execOp a.eval o).run P W=.ok (.value (.pointer (some ⟨W.heap.size,0,none⟩))) (W.alloc (.mapIter (some b) clock #[] clock)):=by
 simp only[execOp,hop,Instr.range,hm,Sem.run_bind,Zx ht,Result.andThen_ok,XV hb,Sem.run_pure];rfl
def ZBh(en:Array MapEntry)(seen:Array Nat):List MapEntry:=(leftOf en seen).toList
theorem run_nextOp{o:Oper}{it:Operand}(hop:o.op=.next it false){r bm c0:Nat}{seen:Array Nat}{en:Array MapEntry}(hit:a.eval it=.pointer (some ⟨r,0,none⟩))
 (hr:W.heap[r]?=some (.mapIter (some bm) clock seen c0)) (hb:W.heap[bm]?=some (.map en clock)) (hf:MapFit en clock n) (hc:clock<=c0) :
 (ZBh en seen=[]/\(execOp a.eval o).run P W=.ok (.value (.tuple #[.bool false])) W) \/
 ∃x∈ZBh en seen,∃w1:World,(w1=W\/w1=W.drew)/\(execOp a.eval o).run P W=.ok (.value (.tuple #[.bool true,x.key,x.val])) (setBlock w1 r (.mapIter (some bm) clock (seen.push x.born) clock)):=by
 rcases run_next_at (P:=P) W o.type r bm clock c0 seen en clock hr hb hf.lt hc with⟨h1,h2⟩|⟨x,hx,w1,hw,h2⟩
 ·refine .inl ⟨List.eq_nil_of_length_eq_zero (by simpa [ZBh] using h1),?_⟩
  simp only[execOp,hop,hit];exact Xx h2
 ·refine .inr ⟨x,hx,w1,hw,?_⟩
  simp only[execOp,hop,hit];exact Xx h2
theorem ZJO{o:Oper}{it:Operand}(hop:o.op=.entry it){r bm:Nat}{seen:Array Nat}{en:Array MapEntry}{x:MapEntry}(hit:a.eval it=.pointer (some ⟨r,0,none⟩))
 (hr:W.heap[r]?=some (.mapIter (some bm) clock (seen.push x.born) clock)) (hb:W.heap[bm]?=some (.map en clock)) (hf:MapFit en clock n) (hx:x∈en.toList) :
 (execOp a.eval o).run P W=.ok (.value (.tuple #[x.key,x.val])) W:=by
 simp only[execOp,hop,hit];exact Xx (run_entry_at W r bm clock seen en clock x hr hb hx hf.nd)
theorem ZdW(en:Array MapEntry):ZBh en #[]=en.toList:=by
 simp[ZBh,leftOf]
theorem ZJr{en:Array MapEntry}{seen:Array Nat}{x:MapEntry}(h:x∈ZBh en seen):x∈en.toList:=by
 simp only[ZBh,leftOf,Array.toList_filter,List.mem_filter]at h;exact h.1
theorem ZMI{en:Array MapEntry}(hf:MapFit en clock n){seen:Array Nat}{x:MapEntry}(h:x∈ZBh en seen):(ZBh en seen).Perm (x::ZBh en (seen.push x.born)):=by
 have key:∀(l:List MapEntry),(l.map (·.born)).Nodup->x∈l->(seen.contains x.born=false) ->
  (l.filter fun e=>!seen.contains e.born).Perm (x::l.filter fun e=>!(seen.push x.born).contains e.born):=by
  intro l
  induction l with
  | nil=>intro _ h;simp at h
  | cons y l ih =>
   intro hn hx hs;simp only[jC,List.nodup_cons]at hn
   have hc:∀z:MapEntry,(seen.push x.born).contains z.born=(seen.contains z.born || z.born == x.born):=by
    intro z;rw[Bool.eq_iff_iff];simp[or_comm]
   by_cases hyx:y=x
   ·subst hyx
    simp only[List.filter_cons,hs,Bool.not_false,if_true,hc,beq_self_eq_true,Bool.or_true,Bool.not_true,jB,if_false];refine .cons _ ?_
    have:(l.filter fun e=>!seen.contains e.born)=l.filter fun e=>!(seen.contains e.born || e.born == y.born):=by
     apply List.filter_congr
     intro z hz
     have:z.born≠y.born:=fun q=>hn.1 (List.mem_map.2 ⟨z,hz,q⟩)
     simp[this]
    rw[this]
   ·have hx' : x ∈ l := by
     rcases List.mem_cons.1 hx with q|q
     ·exact absurd q.symm hyx
     ·exact q
    have hb:y.born≠x.born:=fun q=>hn.1 (List.mem_map.2 ⟨x,hx',q.symm⟩)
    have ih':=ih hn.2 hx' hs;simp only[hc]at ih' ⊢;simp only[List.filter_cons]
    have hyb:(y.born == x.born)=false:=by simpa using hb
    rw[hyb,Bool.or_false]
    split
    ·exact (List.Perm.cons _ ih').trans (.swap ..)
    ·exact ih'
 have hm:=h;simp only[ZBh,leftOf,Array.toList_filter,List.mem_filter,Bool.not_eq_true']at hm
 have:=key en.toList hf.nd hm.1 hm.2
 simpa [ZBh,leftOf] using this
end
section
variable {P:Program}{T:Tab}{O:Orc}{nt:Nat}{W0:World}{B0:Bse}{st st':St}{ρ:Rho}{W W':World}{e:Env}{r:Nat}
theorem Act.put_look{x:Value}(h:d<a.tmps.size):(a.put (some d) x).eval (.tmp d)=x:=by
 simp[Act.put,Act.eval,h]
theorem Act.put_other{t:Nat}{x:Value}(h:d≠t):(a.put (some d) x).eval (.tmp t)=a.eval (.tmp t):=by
 simp[Act.put,Act.eval,Array.getElem?_setIfInBounds,h]
theorem ZCf{o:Oper}{t:Operand}{k:Nat}{xs:Array Value}{x:Value}(hop:o.op=.extract t k)(ht:a.eval t=.tuple xs)(hx:xs[k]?=some x):(execOp a.eval o).run P W=.ok (.value x) W:=by
 simp[execOp,hop,ht,Instr.extract,hx,Sem.run]
def Zi1(W:World)(r:Nat):Array Nat:=match W.heap[r]? with|some (.mapIter _ _ s _)=>s|_=>#[]
structure Itr(W:World)(b r clock:Nat)(en:Array MapEntry)(seen:Array Nat):Prop where
 map:W.heap[b]?=some (.map en clock)
 it:∃c0,clock<=c0/\W.heap[r]?=some (.mapIter (some b) clock seen c0)
theorem Itr.seen{b:Nat}{en:Array MapEntry}{seen:Array Nat}(h:Itr W b r clock en seen):Zi1 W r=seen:=by
 obtain⟨c0,_,h2⟩:=h.it
 simp[Zi1,h2]
theorem ZZv{en:Array MapEntry}{b:Nat}(hf:MapFit en clock n){o3 o4:Oper}{it:Operand}{nx ok i6 id:Nat}{body:Code}{Q:Exit->Act->World->Prop}
 (h3:o3.op=.next it false) (g3:o3.guard=none) (d3:o3.dst=some nx) (h4:o4.op=.extract (.tmp nx) 0) (g4:o4.guard=none) (d4:o4.dst=some ok)
 (I:Array Nat->Act->World->Prop)
 (hI:∀seen a W,I seen a W->a.eval it=.pointer (some ⟨r,0,none⟩)/\nx<a.tmps.size/\ok<a.tmps.size/\Itr W b r clock en seen)
 (hdone:∀seen a W,I seen a W->ZBh en seen=[]->Q .normal ((a.put (some nx) (.tuple #[.bool false])).put (some ok) (.bool false)) W)
 (hstep:∀seen a W x w1,I seen a W->x∈ZBh en seen->(w1=W\/w1=W.drew)->Itr (setBlock w1 r (.mapIter (some b) clock (seen.push x.born) clock)) b r clock en (seen.push x.born) ->
  (setBlock w1 r (.mapIter (some b) clock (seen.push x.born) clock)).heap[r]?=some (.mapIter (some b) clock (seen.push x.born) clock)->Jk r W (setBlock w1 r (.mapIter (some b) clock (seen.push x.born) clock)) ->
  body.wpIn (fen none) 0 P (fun ex a2 W2=>ex=.normal/\I (seen.push x.born) a2 W2) ((a.put (some nx) (.tuple #[.bool true,x.key,x.val])).put (some ok) (.bool true)) (setBlock w1 r (.mapIter (some b) clock (seen.push x.born) clock)))
 {a:Act} (h0:I #[] a W):(Code.block id (.loop (.seq (.region i6 #[o3,o4] false) (.seq (.cond (.tmp ok) .skip (.exit id)) body)))).wpIn (fen none) 0 P Q a W:=by
 refine wpIn_block (wpIn_loop (fun a w=>∃seen,I seen a w) (fun _ w=>(ZBh en (Zi1 w r)).length) ⟨_,h0⟩ ?_)
 rintro a W ⟨seen,hi⟩
 obtain⟨e1,e2,e3,e4⟩:=hI _ _ _ hi;obtain⟨c0,hc,hit⟩:=e4.it;refine wpIn_seq (wpIn_region ?_)
 show wpOpsIn (fen none) 0 P #[o3,o4] _ [0,1] a W
 rw[wpOpsIn_cons]
 have nd3:∀c,o3.op≠.defer c:=fun c q=>by rw[h3]at q;simp at q
 have nd4:∀c,o4.op≠.defer c:=fun c q=>by rw[h4]at q;simp at q
 rcases run_nextOp (P:=P) h3 e1 hit e4.map hf hc with⟨k1,k2⟩|⟨x,hx,w1,hw,k2⟩
 ·refine ZJq (o:=o3) Y g3 nd3 k2 ?_
  rw[wpOpsIn_cons,d3];refine ZJq (o:=o4) Y g4 nd4 (ZCf h4 (Act.put_look e2) (x:=.bool false) Y) ?_;rw[d4]
  show Code.wpIn _ _ _ _ _ _ _
  refine wpIn_seq (wpIn_cond_false (Act.put_look (by simpa [Act.put] using e3)) (wpIn_exit ?_))
  show Exit.inBlock id Q (.exit id) _ _
  simp only[Exit.inBlock,if_true];exact hdone _ _ _ hi k1
 ·refine ZJq (o:=o3) Y g3 nd3 k2 ?_
  rw[wpOpsIn_cons,d3];refine ZJq (o:=o4) Y g4 nd4 (ZCf h4 (Act.put_look e2) (x:=.bool true) Y) ?_;rw[d4]
  show Code.wpIn _ _ _ _ _ _ _
  refine wpIn_seq (wpIn_cond_true (Act.put_look (by simpa [Act.put] using e3)) (wpIn_skip ?_))
  show Code.wpIn _ _ _ _ _ _ _
  have hjk:=Jk.step (W:=W) hw hit rfl (o':=.mapIter (some b) clock (seen.push x.born) clock) rfl
  have hnew:(setBlock w1 r (.mapIter (some b) clock (seen.push x.born) clock)).heap[r]?=some (.mapIter (some b) clock (seen.push x.born) clock):=by
   have hlt:=QH hit
   have hh:w1.heap=W.heap:=by rcases hw with rfl|rfl<;>rfl
   simp[setBlock,hh,hlt]
  refine wpIn_mono (hstep seen a W x w1 hi hx hw ⟨hjk.heap e4.map Y,clock,Nat.le_refl _,hnew⟩ hnew hjk) ?_
  rintro ex a2 W2 ⟨rfl,h2⟩
  refine⟨⟨_,h2⟩,?_⟩;rw[(hI _ _ _ h2).2.2.2.seen,e4.seen,(ZMI hf hx).length_eq]
  simp
end
structure OpIs(o:Oper)(op:Op)(d:Nat):Prop where
 op:o.op=op
 gd:o.guard=none
 dst:o.dst=some d
theorem YU{P:Program}{W W':World}{ops:Array Oper}{o:Oper}{op:Op}{Q:Exit->Act->World->Prop}{K:Act->World->Prop}{x:Value}(h:OpIs o op d)(ho:ops[i]?=some o)(hnd:∀c,op≠.defer c)
 (hrun:(execOp a.eval o).run P W=.ok (.value x) W') (hK:K (a.put (some d) x) W'):wpOpIn (fen none) 0 P ops Q i K a W :=
 ZJq ho h.gd (fun c q=>hnd c (h.op.symm.trans q)) hrun (by rw[h.dst];exact hK)
section
variable {P:Program}{W0:World}{B0:Bse}{st st':St}{ρ:Rho}{W W':World}{e:Env}{a:Act}
theorem Jn{o:Oper}{x:Operand}(hop:o.op=.move x\/o.op=.assign x):(execOp a.eval o).run P W=.ok (.value (a.eval x)) W:=by
 rcases hop with h|h<;>simp[execOp,h]
end
section
variable {P:Program}{T:Tab}{O:Orc}{nt:Nat}{W0:World}{B0:Bse}{st st':St}{ρ:Rho}{W W':World}{e:Env}{r:Nat}
theorem CodeOk.seq{d:Code}{F G:Run}(h:CodeOk none P O nt W0 B0 c F)(k:CodeOk none P O nt W0 B0 d G):CodeOk none P O nt W0 B0 (.seq c d) (fun e st=>(F e st).bind (JJ G)):=by
 intro e st ρ W a r Q hx hr he hn hQ;simp only[oB]at hx;obtain⟨⟨xx,e1,st1⟩,hx1,hx2⟩:=hx;refine wpIn_seq (h e st ρ W a (xx,e1,st1) _ hx1 hr he hn ?_);intro a' ρ' W' g he' hs' hd'
 cases xx with
 | norm=>exact k e1 st1 ρ' W' a' r Q hx2 g.rel he' (by omega) (hQ.after g hs' hd')
 | ex id=>simp only[JJ,oJ]at hx2;subst hx2;exact hQ a' ρ' W' g he' hs' hd'
 | ret=>simp only[JJ,oJ]at hx2;subst hx2;exact hQ a' ρ' W' g he' hs' hd'
theorem ZhR(hm:P.follows .mixedOrders=true)(hT:TabOk P T){hs hs':List Hint}{pc:PC}(hc:YK P nt hs c=some (pc,hs'))(hg:KG P W0 B0):CodeOk none P (S T) nt W0 B0 c (exec (S T) itS pc):=by
 intro e st ρ W a r Q hx hr he hn hQ;obtain⟨n,hx⟩:=ZCa hx
 exact exec_ok (ro:=none) (ZAg hm (K:=fun _ _=>True) hT.y n) ⟨trivial,hg⟩ hm n c hs hs' pc hc e st ρ W a r Q hx hr he hn hQ
def fnO(F:Run)(rs:List RV):LV->St->OS:=fun args st=>(F (QO 0 args) st.push).bind (Qj false rs)
theorem Zsa{f:FuncId}{fn:Func}{F:Run}{rs:List RV}(hf:P.funcs[f]?=some fn)(hb:fn.body=some c)(hF:∀W0 B0,KG P W0 B0->CodeOk none P O fn.ntmps W0 B0 c F)(hX:FrX F)
 (hrs:fn.results.toList.mapM (ZBJ P)=some rs):ZKn P f (.base (fnO F rs)):=by
 refine⟨fun args=>Zg0 hX _ rs,?_⟩
 intro args st v st' h W0 B0 ρ W xs hg hr hx;have h:(F (QO 0 args) st.push).bind (Qj false rs)=some (v,st'):=h;simp only[oB]at h;obtain⟨⟨ex,e1,st1⟩,hex,hend⟩:=h;refine (callsIn_wide (n:=0)).1 (callsIn_of_wp_marks (F:=.wide) hf hb trivial ?_)
 have hsz:fn.ntmps<=(xs.toArray++Array.replicate (fn.ntmps-xs.toArray.size) Go.undef).size:=by simp;omega
 have hpl:st.push.A.length=st.A.length+1:=by simp[St.push]
 have hpush:=Sub.push st
 refine hF W B0 (hg.rel hr) (QO 0 args) st.push ρ W { tmps:=xs.toArray++Array.replicate (fn.ntmps-xs.toArray.size) Go.undef,defers:=[] } (ex,e1,st1) _ hex (hpush.rel hr).rebase
  ((ZCv ((hx.mono (hpush.cx (Nat.le_refl _))).mono (ZKm (by omega))) _)) hsz ?_
 intro a' ρ' W' g he' _ hd'
 have key:(QT st1 e1 rs).bind (ZBY st1)=some (v,st')->LeavesInM .wide 0 P fn a'.tmps (fun e W'=>∃x ρ',e=.returned x/\Goes W0 B0 st ρ W st' ρ' W'/\QAbs.R (cx st' ρ' W' st'.A.length) v x) a'.defers .returning W':=by
  intro hend;rw[hd'];simp only[oB,ZBY,Jq,ZMX,oJ,jP]at hend;obtain⟨v0,hv,⟨v1,st2⟩,hseal,⟨A',r0⟩,hpop,rfl,rfl⟩:=hend;obtain⟨x,hx,hxv⟩:=ZEZ hrs hv g.rel he'
  have hl1:st1.A.length=st.A.length+1:=by rw[g.ev.len,hpl]
  obtain⟨g2,hv2⟩:=X9 QD st1.A.length st1 v0 x v1 st2 g.rel (by omega) hxv hseal
  obtain⟨g3,hle⟩:=ZCr g2.rel (g.ev.trans g2.ev) hpop;refine⟨x,hx,x,ρ',rfl,⟨g3.rel.base (hr.below.trans g3.rel.below),g3.ev⟩,?_⟩;rw[hl1]at hv2;have hl3:(⟨A',r0.1,r0.2⟩:St).A.length=st.A.length:=g3.ev.len;rw[hl3]
  exact R.mono (show QAbs.R (cx st2 ρ' W' st.A.length) v1 x from hv2) hle
 cases ex with
 | norm=>exact key (by simpa [Qj] using hend)
 | ret=>exact key (by simpa [Qj] using hend)
 | ex id=>simp[Qj]at hend
end
end Go.QAbs
namespace Go.Q15
open Go Go.QAbs
open Go.ChangeMaps (setBlock)
variable {v:AV}{a:Act}{ro:Bool}{c:Code}{e:Env}{g most:Int}{A:List (Bool × List Blk)}{es:LV}{bs:List Blk}{clock d i ix j n ver w:Nat}{st:St}
def hAV(h:H64):AV:=.int .u64 (h.val:Int)
def ZhS(p:Int->Bool)(x:MapEntry):Option H64:=match x.key,x.val with
 | .int _ h,.int _ n=>if p n=true then some ⟨h.toNat % 18446744073709551616,Nat.mod_lt _ (by decide)⟩ else none
 | _,_=>none
def Zfu(p:Int->Bool):List (AV × AV)->Option (List H64)
 | []=>some []
 | (.int .u64 h,.int .i64 n)::l=>if hh:0<=h/\h<18446744073709551616 then (Zfu p l).map fun r=>if p n=true then ⟨h.toNat,by omega⟩::r else r else none
 | _::_=>none
def EntH(x:MapEntry):Prop:=∃(h:H64) (n:Int),x.key=encH h/\x.val=.int .i64 n
theorem Zj5{p:Int->Bool}{x:MapEntry}{h:H64}{n:Int}(hk:x.key=encH h)(hv:x.val=.int .i64 n):ZhS p x=if p n=true then some h else none:=by
 unfold ZhS;rw[hk,hv]
 show (if p n=true then some (⟨((h.val:Nat):Int).toNat % 18446744073709551616,_⟩:H64) else none)=_
 have:(⟨((h.val:Nat):Int).toNat % 18446744073709551616,Nat.mod_lt _ (by decide)⟩:H64)=h:=by
  apply Fin.ext
  have:=h.isLt
  show ((h.val:Nat):Int).toNat % 18446744073709551616=h.val
  rw[Int.toNat_natCast];omega
 rw[this]
theorem Zj6{C:Cx}{p:Int->Bool}:∀ {es:List (AV × AV)} {l:List MapEntry} {ks:List H64},EntR C es l->Zfu p es=some ks->l.filterMap (ZhS p)=ks/\∀x∈l,EntH x
 | [],l,ks,h,hs=>by
  have:l=[]:=List.eq_nil_of_length_eq_zero h.1.symm
  subst this;simp only[Zfu,oJ]at hs
  exact⟨by simpa using hs,by simp⟩
 | (k,v)::es,[],ks,h,hs=>by have:=h.1;simp at this
 | (k,v)::es,x::l,ks,h,hs=>by
  unfold Zfu at hs
  split at hs
  ·rename_i e;simp at e
  ·rename_i hh n l' e
   simp only[List.cons.injEq,jP]at e;obtain⟨⟨rfl,rfl⟩,rfl⟩:=e
   split at hs
   ·rename_i hb
    simp only[oM]at hs;obtain⟨r,hr,hs⟩:=hs;obtain⟨i1,i2⟩:=Zj6 (C:=C) (es:=es) (l:=l) h.tail hr;obtain⟨_,hk,hv⟩:=h.2 0 _ _ x rfl rfl;have hk:=Jr hk;have hv:=Jr hv
    have hk2:x.key=encH ⟨hh.toNat,by omega⟩:=by rw[hk];show Value.int .u64 hh=Value.int .u64 ((hh.toNat:Nat):Int);rw[Int.toNat_of_nonneg hb.1]
    refine⟨?_,fun y hy=>?_⟩
    ·rw[List.filterMap_cons,Zj5 hk2 hv,i1]
     rw[<- hs]
     by_cases hp:p n=true
     ·rw[if_pos hp,if_pos hp]
     ·rw[if_neg hp,if_neg hp]
    ·rcases List.mem_cons.1 hy with rfl|hy
     ·exact⟨_,_,hk2,hv⟩
     ·exact i2 y hy
   ·simp at hs
  ·simp at hs
theorem ZOq{r:H64->H64->Prop}(anti:∀a b,r a b->r b a->a=b):∀ {l m:List H64},l.Perm m->l.Pairwise r->m.Pairwise r->l=m
 | [],m,h,_,_=>h.nil_eq
 | a::l,[],h,_,_=>by have:=h.length_eq;simp at this
 | a::l,b::m,h,h1,h2=>by
  rw[List.pairwise_cons]at h1 h2
  have e:a=b:=by
   rcases List.mem_cons.1 (h.mem_iff.1 List.mem_cons_self) with e|ha
   ·exact e
   ·rcases List.mem_cons.1 (h.mem_iff.2 List.mem_cons_self) with e|hb
    ·exact e.symm
    ·exact anti a b (h1.1 b hb) (h2.1 a ha)
  subst e;rw[ZOq anti (List.Perm.cons_inv h) h1.2 h2.2]
theorem ZV2{x y:H64}:leH x y=true↔¬ (y.val % 65536<x.val % 65536\/y.val % 65536=x.val % 65536/\y.val<x.val):=by
 unfold leH;rw[ltOfH,<- ltB_no];simp
theorem ZJP(l:List H64):(srtH l).Pairwise fun a b=>leH a b=true:=by
 unfold srtH
 refine List.pairwise_mergeSort (fun a b c h1 h2=>?_) (fun a b=>?_) l
 ·rw[ZV2]at *;omega
 ·simp only[Bool.or_eq_true,ZV2];omega
theorem ZlC{l m:List H64}(h:l.Perm m):srtH l=srtH m :=
 ZOq (r:=fun a b=>leH a b=true) (fun a b h1 h2=>by rw[ZV2]at *;apply Fin.ext;omega) (((List.mergeSort_perm l leH).trans h).trans (List.mergeSort_perm m leH).symm) (ZJP l) (ZJP m)
theorem Zm0(l:List H64):(srtH l).length=l.length:=List.length_mergeSort ..
section
variable {P:Program}{T:Tab}{O:Orc}{nt:Nat}{W0:World}{B0:Bse}{st st':St}{ρ:Rho}{W W':World}{e:Env}{a:Act}{r:Nat}
theorem Zm1{o:Oper}{op:BinOp}{t yt:TypeId}{x y:Operand}{k:IntKind}{m n:Int}{b:Bool}(hop:o.op=.binOp op t x y yt)(hx:a.eval x=.int k m)(hy:a.eval y=.int k n)
 (h:ZER op (.int k m) (.int k n)=some (.bool b)):(execOp a.eval o).run P W=.ok (.value (.bool b)) W:=by
 let C:Cx:=⟨fun _ _ _=>True,fun _ _ _ _ _ _=>True,fun _ _ _ _ _ _=>True,fun _ _ _=>True,fun _ _ _=>True⟩
 obtain⟨z,hz,hv⟩:=Zji (P:=P) (W:=W) (t:=t) (ox:=x) (oy:=y) (C:=C) h (.int k m) (.int k n)
 have:=YC (hv C);subst this
 simp only[execOp,hop,hx,hy];exact Xx hz
theorem ZlD{o:Oper}{s x:Operand}{t:TypeId}{v v':Value}{ad:Addr}{m c:Nat}(ho:o.op=.call { callee:=.builtin .append,args:=#[s,x],argTypes:=#[t,t] })(hs:a.eval s=v)(hx:a.eval x=.slice (some ad) m c)
 (hr:(Builtin.append_ #[t,t] o.type #[v,.slice (some ad) m c]).run P W=.ok v' W'):(execOp a.eval o).run P W=.ok (.value v') W':=by
 unfold execOp;simp only[ho,resolve,invoke,builtin,Sem.run_bind,Sem.run_pure,Result.andThen_ok,List.map_toArray,jC,List.map_nil,hs,hx,hr]
theorem ZlE{ops:Array Oper}{o:Oper}{c:Call}{f:Operand}{g:FuncId}{Q:Exit->Act->World->Prop}{K:Act->World->Prop}(ho:ops[i]?=some o)(hg:o.guard=none)(hop:o.op=.call c)(hf:c.callee=.value f)(hv:a.eval f=.func (.func g) #[] #[])
 (hrun:∀(zs:Array Value) (W:World),(callFunc g zs).run P W=.ok (.enter g zs) W) (hC:Calls P g (c.args.toList.map a.eval).toArray W fun e W'=>∃x,e=.returned x/\K (a.put o.dst x) W'):wpOpIn (fen none) 0 P ops Q i K a W:=by
 unfold wpOpIn
 have hw:Region.wanted o (yielded ops a.tmps)=true:=by unfold Region.wanted;rw[hg]
 have hnd:∀c,o.op≠.defer c:=fun c q=>by rw[hop]at q;simp at q
 simp only[ho,hw,if_true]
 refine⟨fun _ _=>trivial,?_⟩
 rw[Oper.semAt_eq _ _ _ hnd,Zgr (xs:=[]) (ys:=[]) hop hf hv hrun]
 refine⟨fun h=>absurd h (by simp[fen,Fence.wide]),?_⟩
 refine (callsIn_wide (n:=0)).2 ?_;simp only[lE,lN];refine hC.mono ?_
 rintro e' W' ⟨x,rfl,hk⟩
 exact hk
theorem Zi2{W W':World}{r:Nat}{e:TypeId}{sz:Nat}{v:Value}{xs:List Value}(hj:Jk r W W')(h:W.ownsRow (r+1) e sz v n xs):W'.ownsRow (r+1) e sz v n xs:=by
 refine⟨h.1,?_⟩
 rcases h.2 with q|⟨g,cap,cur,q1,q2,q3,q4,q5,q6,q7⟩
 ·exact .inl q
 ·exact .inr ⟨g,cap,cur,q1,q2,hj.heap q3 Y,q4,q5,q6,q7⟩
def toP(P:Program)(nt:Nat):Nat->List Hint->Code->Option ((PC × Code) × List Hint)
 | 0,hs,c=>some ((.skip,c),hs)
 | k+1,hs,.seq a b=>(YK P nt hs a).bind fun r=>(toP P nt k r.2 b).map fun q=>((.seq r.1 q.1.1,q.1.2),q.2)
 | _,_,_=>none
def ZGs(O:Orc)(I:Run->Run)(X:Run)(pre:PC):Run:=fun e st=>(exec O I pre e st).bind (JJ X)
theorem Zm2(hm:P.follows .mixedOrders=true)(hT:TabOk P T){X:Run}(hg:KG P W0 B0):∀(k:Nat) (c:Code) (hs hs':List Hint) (p1:PC) (x:Code),toP P nt k hs c=some ((p1,x),hs')->CodeOk none P (S T) nt W0 B0 x X ->
 CodeOk none P (S T) nt W0 B0 c (ZGs (S T) itS X p1):=by
 intro k
 induction k with
 | zero =>
  intro c hs hs' p1 x hc hX;simp only[toP,oJ,jP]at hc;obtain⟨⟨rfl,rfl⟩,rfl⟩:=hc;intro e st ρ W a r Q hx;refine hX e st ρ W a r Q ?_
  simpa only [ZGs,exec,oS,JJ] using hx
 | succ k ih =>
  intro c hs hs' p1 x hc hX
  cases c with
  | seq a b =>
   simp only[toP,oB,oM,jP]at hc;obtain⟨⟨pa,h1⟩,ha,⟨⟨q1,q2⟩,h2⟩,hy,⟨rfl,rfl⟩,rfl⟩:=hc
   have:=(ZhR hm hT ha hg).seq (ih b h1 h2 q1 q2 hy hX)
   intro e st ρ W a r Q hx;refine this e st ρ W a r Q ?_;simp only[ZGs,exec]at hx;rw[ZFJ]at hx;exact hx
  | _=>simp[toP]at hc
theorem ZdX(hm:P.follows .mixedOrders=true)(hT:TabOk P T){X:Run}(hX:FrX X)(p1:PC):FrX (ZGs (S T) itS X p1) :=
 ZBa (ZdO hm hT p1) fun x r hr=>ZCt hX hr
end
theorem Zpz(n:Int)(W:World):(Instr.buildSlice 37 1 #[(0,.int .u64 n)]).run Proofs.Tryz.prog W=.ok (.slice (some ⟨W.heap.size,0,none⟩) 1 1) (W.alloc (.cells #[.int .u64 n] 32)):=by
 have ht:Proofs.Tryz.prog.underlying 37=some (.slice 32):=by kernel_rfl
 have hs:=Proofs.Tryz.sizeOf32;have hz:=Proofs.Tryz.zeroValue32;simp only[Instr.buildSlice,Sem.run_bind,Zx ht,Result.andThen_ok,hs]
 rw[if_neg (by decide),if_neg (by decide)]
 simp only[Sem.run_bind,Sem.run_pure,Result.andThen_ok,hz]
 have hf:Instr.fill (fun i=>some (i*1,1)) (Array.map (fun x=>(Value.int IntKind.u64 0).cells[x % (Value.int IntKind.u64 0).cells.size]!) (Array.range (1*1))) [(0,Value.int IntKind.u64 n)]=some #[.int .u64 n]:=by
  first|rfl|kernel_rfl|simp[Instr.fill,Value.cells]
 rw[hf]
 simp[newRow]
theorem ZlF{o:Oper}{W:World}{x:Operand}{h:H64}(hop:o.op=.buildSlice 37 1 #[(0,x)])(hx:a.eval x=encH h):
 (execOp a.eval o).run Proofs.Tryz.prog W=.ok (.value (.slice (some ⟨W.heap.size,0,none⟩) 1 1)) (W.alloc (.cells #[encH h] 32)):=by
 simp only[execOp,hop,List.map_toArray,jC,List.map_nil,hx];exact Xx (Zpz _ W)
end Go.Q15
namespace Go.QAbs
variable {v:AV}{a:Act}{ro:Bool}{c:Code}{e:Env}{g most:Int}{A:List (Bool × List Blk)}{es:LV}{bs:List Blk}{clock d i ix j n ver w:Nat}{st:St}
abbrev St.ps(st:St):List (Bool × List Blk):=st.A++[(st.ro,st.L)]
def Ji:St->List (Nat × Nat)->List Blk->St
 | st,k::ks,b::bs=>Ji (st.upd k.1 k.2 b) ks bs
 | st,_,_=>st
def noH:Blk->Bool
 | .hole _=>false
 | _=>true
theorem Zfv{b:Blk}(h:noH b=true):vis (some b)=some b:=by cases b<;>first|rfl|simp[noH]at h
theorem ZBS{o:Option Blk}{b:Blk}(h:vis o=some b):o=some b/\noH b=true:=by
 cases o with
 | none=>simp[vis]at h
 | some c=>cases c<;>simp[vis]at h<;>(subst h;exact⟨rfl,rfl⟩)
theorem Zp0{lv:Nat}{b:Blk}(h:st.get lv ix=some b):noH b=true:=by
 unfold St.get at h
 split at h
 ·exact (ZBS h).2
 ·cases hr:st.A[lv]? with
  | none=>rw[hr]at h;simp at h
  | some r=>rw[hr]at h;exact (ZBS h).2
structure Cl(st:St)(ks:List (Nat × Nat))(bs:List Blk):Prop where
 nd:ks.Nodup
 len:bs.length=ks.length
 wr:∀k∈ks,st.wr k.1
 get:∀(j lv ix:Nat) (b:Blk),ks[j]?=some (lv,ix)->bs[j]?=some b->st.get lv ix=some b
theorem ZZw:∀(ks:List (Nat × Nat)) (st:St) (bs:List Blk),(Ji st ks bs).A.length=st.A.length
 | [],_,_=>rfl
 | _::_,_,[]=>rfl
 | k::ks,st,b::bs=>by rw[Ji,ZZw ks,St.upd_A]
theorem Cl.tail{k:Nat × Nat}{ks:List (Nat × Nat)}{b b':Blk}(h:Cl st (k::ks) (b::bs))(hb:noH b'=true):Cl (st.upd k.1 k.2 b') ks bs:=by
 have hg:=h.get 0 k.1 k.2 b rfl rfl
 have hk:st.wr k.1:=h.wr k (by simp)
 have hnd:=List.nodup_cons.1 h.nd
 refine⟨hnd.2,by have:=h.len;simpa using this,fun q hq=>St.wr_upd hk (h.wr q (by simp[hq])),fun j lv ix c h1 h2=>?_⟩
 rw[St.get_upd hg (Zfv hb),if_neg,h.get (j+1) lv ix c h1 h2]
 rintro⟨rfl,rfl⟩
 exact hnd.1 (jM h1)
theorem Cl.both:∀ {ks:List (Nat × Nat)} {st:St} {bs bs':List Blk},Cl st ks bs->bs'.length=ks.length->bs'.all noH=true ->
 (∀(j lv ix:Nat) (b:Blk),ks[j]?=some (lv,ix)->bs'[j]?=some b->(Ji st ks bs').get lv ix=some b)/\(∀(lv ix:Nat),(lv,ix)∉ks->(Ji st ks bs').get lv ix=st.get lv ix)
 | [],st,bs,bs',h,hl,_=>⟨fun j lv ix b h1=>by simp at h1,fun lv ix _=>by cases bs'<;>rfl⟩
 | k::ks,st,[],_,h,_,_=>by have:=h.len;simp at this
 | k::ks,st,b::bs,[],h,hl,_=>by simp at hl
 | k::ks,st,b::bs,b'::bs',h,hl,ha=>by
  simp only[List.all_cons,Bool.and_eq_true]at ha;have hg:=h.get 0 k.1 k.2 b rfl rfl;have hnd:=List.nodup_cons.1 h.nd
  obtain⟨i1,i2⟩:=Cl.both (bs':=bs') (h.tail ha.1) (by simpa using hl) ha.2
  rw[Ji]
  refine⟨fun j lv ix c h1 h2=>?_,fun lv ix hn=>?_⟩
  ·cases j with
   | zero =>
    simp only[List.getElem?_cons_zero,oJ]at h1 h2;subst h1 h2;rw[i2 _ _ hnd.1,St.get_upd hg (Zfv ha.1),if_pos ⟨rfl,rfl⟩]
   | succ j=>exact i1 j lv ix c h1 h2
  ·simp only[List.mem_cons,not_or]at hn
   rw[i2 _ _ hn.2,St.get_upd hg (Zfv ha.1),if_neg]
   rintro⟨rfl,rfl⟩
   exact hn.1 Y
theorem ZOr:∀ {ks:List (Nat × Nat)} {st:St} {bs:List Blk},(∀k∈ks,st.wr k.1)->∀ {lv:Nat},st.wr lv->(Ji st ks bs).wr lv
 | [],_,_,_,_,h=>h
 | _::_,_,[],_,_,h=>h
 | k::ks,st,b::bs,hk,lv,h=>by
  rw[Ji]
  exact ZOr (fun q hq=>St.wr_upd (hk k (by simp)) (hk q (by simp[hq]))) (St.wr_upd (hk k (by simp)) h)
theorem Cl.put{ks:List (Nat × Nat)}{bs':List Blk}(h:Cl st ks bs)(hl:bs'.length=ks.length)(ha:bs'.all noH=true):Cl (Ji st ks bs') ks bs' :=
 ⟨h.nd,hl,fun k hk=>ZOr h.wr (h.wr k hk),(h.both hl ha).1⟩
theorem Cl.out{ks:List (Nat × Nat)}{bs':List Blk}(h:Cl st ks bs)(hl:bs'.length=ks.length)(ha:bs'.all noH=true){lv:Nat}(hn:(lv,ix)∉ks):(Ji st ks bs').get lv ix=st.get lv ix:=(h.both hl ha).2 lv ix hn
theorem updU{lv:Nat}{b c:Blk}:(st.upd lv ix b).upd lv ix c=st.upd lv ix c:=by
 unfold St.upd
 by_cases h:lv=st.A.length
 ·simp only[if_pos h,List.set_set]
 ·simp only[if_neg h,List.length_set]
  rcases Nat.lt_or_ge lv st.A.length with q|q
  ·simp only[List.set_set,List.getElem?_set,if_true,if_pos q,Option.getD_some,Zak]
  ·simp only[List.set_eq_of_length_le q]
theorem updC{l1 i1 l2 i2:Nat}{b c:Blk}(h:¬ (l1=l2/\i1=i2)):(st.upd l1 i1 b).upd l2 i2 c=(st.upd l2 i2 c).upd l1 i1 b:=by
 unfold St.upd
 by_cases h1:l1=st.A.length
 ·by_cases h2:l2=st.A.length
  ·have hi:i1≠i2:=fun q=>h ⟨h1.trans h2.symm,q⟩
   simp only[if_pos h1,if_pos h2];rw[List.set_comm _ _ hi]
  ·simp only[if_pos h1,if_neg h2,List.length_set]
 ·by_cases h2:l2=st.A.length
  ·simp only[if_neg h1,if_pos h2,List.length_set]
  ·simp only[if_neg h1,if_neg h2,List.length_set]
   by_cases e:l1=l2
   ·subst e
    have hi:i1≠i2:=fun q=>h ⟨rfl,q⟩
    rcases Nat.lt_or_ge l1 st.A.length with q|q
    ·simp only[List.set_set,List.getElem?_set,if_true,if_pos q,Option.getD_some,Zak]
     rw[List.set_comm _ _ hi]
    ·simp only[List.set_eq_of_length_le q]
   ·rw[jS e,jS (fun q=>e q.symm),List.set_comm _ _ e]
theorem updS{lv:Nat}{b:Blk}(h:st.get lv ix=some b):st.upd lv ix b=st:=by
 unfold St.upd
 by_cases q:lv=st.A.length
 ·rw[if_pos q]
  rw[St.get,if_pos q]at h;have h2:=(ZBS h).1;obtain⟨h3,h4⟩:=List.getElem?_eq_some_iff.1 h2;subst h4;rw[List.set_getElem_self h3]
 ·rw[if_neg q]
  rw[St.get,if_neg q]at h
  cases hr:st.A[lv]? with
  | none=>rw[hr]at h;simp at h
  | some r =>
   rw[hr]at h;have h2:=(ZBS h).1;obtain⟨h3,h4⟩:=List.getElem?_eq_some_iff.1 h2
   have e1:r.2.set ix b=r.2:=by subst h4;exact List.set_getElem_self h3
   simp only[Option.getD_some,Zak,e1]
   rw[show (r.1,r.2)=r from rfl]
   obtain⟨h5,h6⟩:=List.getElem?_eq_some_iff.1 hr;subst h6;rw[List.set_getElem_self h5]
theorem ZZx:∀ {ks:List (Nat × Nat)} {st:St} {bs:List Blk} {lv ix:Nat} {b:Blk},(lv,ix)∉ks->(Ji st ks bs).upd lv ix b=Ji (st.upd lv ix b) ks bs
 | [],_,_,_,_,_,_=>rfl
 | _::_,_,[],_,_,_,_=>rfl
 | k::ks,st,c::bs,lv,ix,b,hn=>by
  simp only[List.mem_cons,not_or]at hn;rw[Ji,Ji,ZZx hn.2,updC]
  rintro⟨rfl,rfl⟩
  exact hn.1 Y
theorem ZBi:∀ {ks:List (Nat × Nat)} {st:St} {bs:List Blk} {j lv ix:Nat} {b:Blk},ks.Nodup->bs.length=ks.length->ks[j]?=some (lv,ix)->(Ji st ks bs).upd lv ix b=Ji st ks (bs.set j b)
 | [],_,_,_,_,_,_,_,_,h=>by simp at h
 | _::_,_,[],_,_,_,_,_,hl,_=>by simp at hl
 | k::ks,st,c::bs,j,lv,ix,b,hd,hl,h=>by
  have hnd:=List.nodup_cons.1 hd
  cases j with
  | zero =>
   simp only[List.getElem?_cons_zero,oJ]at h;subst h;rw[Ji,ZZx hnd.1,updU];rfl
  | succ j =>
   rw[Ji,ZBi hnd.2 (by simpa using hl) h];rfl
theorem ZdY:∀ {ks:List (Nat × Nat)} {st:St} {b1 b2:List Blk},ks.Nodup->b1.length=ks.length->b2.length=ks.length->Ji (Ji st ks b1) ks b2=Ji st ks b2
 | [],_,b1,b2,_,h1,h2=>by cases b1<;>cases b2<;>rfl
 | _::_,_,[],_,_,h,_=>by simp at h
 | _::_,_,_::_,[],_,_,h=>by simp at h
 | k::ks,st,c::b1,d::b2,hd,h1,h2=>by
  have hnd:=List.nodup_cons.1 hd
  rw[Ji,Ji,ZZx hnd.1,updU,ZdY hnd.2 (by simpa using h1) (by simpa using h2),Ji]
theorem Cl.same:∀ {ks:List (Nat × Nat)} {st:St} {bs:List Blk},Cl st ks bs->Ji st ks bs=st
 | [],_,bs,_=>by cases bs<;>rfl
 | _::_,_,[],h=>rfl
 | k::ks,st,b::bs,h=>by
  have hg:=h.get 0 k.1 k.2 b rfl rfl
  have:=(h.tail (Zp0 hg)).same
  rw[Ji];rw[updS hg]at this ⊢;exact this
theorem ZdZ:∀ {ks:List (Nat × Nat)} {st:St} {bs:List Blk} {A:List (Bool × List Blk)} {ro:Bool} {L:List Blk},A=st.ps->(∀k∈ks,k.1<=st.A.length)->Ji ⟨A,ro,L⟩ ks bs=⟨(Ji st ks bs).ps,ro,L⟩
 | [],st,bs,A,ro,L,hA,_=>by cases bs<;>rw[hA]<;>rfl
 | _::_,st,[],A,ro,L,hA,_=>by rw[hA];rfl
 | k::ks,st,b::bs,A,ro,L,hA,hk=>by
  rw[Ji,Jl hA (hk k (by simp)),ZdZ (st:=st.upd k.1 k.2 b) rfl (fun q hq=>by rw[St.upd_A];exact hk q (by simp[hq]))]
  rfl
theorem Cl.le{ks:List (Nat × Nat)}(h:Cl st ks bs):∀k∈ks,k.1<=st.A.length:=by
 intro k hk;obtain⟨j,hj,rfl⟩:=List.getElem_of_mem hk
 have hj2:j<bs.length:=by rw[h.len];exact hj
 exact St.get_le (h.get j _ _ bs[j] (by rw[jE hj]) (by rw[jE hj2]))
theorem Cl.push{ks:List (Nat × Nat)}{L:List Blk}(hA:A=st.ps)(h:Cl st ks bs):Cl ⟨A,ro,L⟩ ks bs :=
 ⟨h.nd,h.len,fun k hk=>Xn hA (h.le k hk) (h.wr k hk),fun j lv ix b h1 h2=>ZQ hA (h.get j lv ix b h1 h2)⟩
theorem Cl.old{ks:List (Nat × Nat)}{b0:List Blk}{L:List Blk}(H:Cl st ks b0)(hA:A=(Ji st ks bs).ps)(hl:bs.length=ks.length)(ha:bs.all noH=true){lv:Nat}{b:Blk}(hj:ks[j]?=some (lv,ix))(hb:bs[j]?=some b):St.get ⟨A,ro,L⟩ lv ix=some b :=
 ZQ hA ((H.put hl ha).get j lv ix b hj hb)
section
variable {O:Orc}{k:List Fr}{Q:YD}{e:Env}{A:List (Bool × List Blk)}{L:List Blk}{keep:List Nat}{is:List PI}{d:Nat}{st:St}{ks:List (Nat × Nat)}{b0 bs:List Blk}
theorem Zm3{a x:Opd}{lv o:Nat}{v' y:AV}(H:Cl st ks b0)(hA:A=(Ji st ks bs).ps)(hl:bs.length=ks.length)(hn:bs.all noH=true)(hj:ks[j]?=some (lv,ix))(hb:bs[j]?=some (.arr w ver es))
 (ha:Ze e a=some (.ptr lv ix ver i o)) (hx:Ze e x=some v) (hy:es[i]?=some y) (hs:ZZ QD (lv+1) ⟨A,false,L⟩ v=some (v,⟨A,false,L⟩)) (hv:(JP w y o n v).bind Y7=some v')
 (h:∀A',A'=(Ji st ks (bs.set j (.arr w ver (es.set i v')))).ps->A'.length=A.length->Is O is keep k Q e ⟨A',false,L⟩):Is O (⟨none,none,false,.st n a x⟩::is) keep k Q e ⟨A,false,L⟩:=by
 have hP:=H.put hl hn
 refine ZH9 hA ha hx (hP.wr (lv,ix) (jM hj)) (hP.get j lv ix _ hj hb) hy hs hv (fun A' hA'=>?_)
 rw[ZBi H.nd hl hj]at hA';refine h A' hA' ?_;rw[hA',hA];simp[ZZw]
theorem Zm4{kk:Nat}{x i v:Opd}{lv:Nat}{ki:AV}{w:AV}{es es':List (AV × AV)}(H:Cl st ks b0)(hA:A=(Ji st ks bs).ps)(hl:bs.length=ks.length)(hn:bs.all noH=true)(hj:ks[j]?=some (lv,ix))(hb:bs[j]?=some (.map es))
 (hx:Ze e x=some (.map lv ix)) (hi:Ze e i=some ki) (hki:J2 kk ki=true) (hv:Ze e v=some w) (hs:ZZ QD (lv+1) ⟨A,false,L⟩ w=some (w,⟨A,false,L⟩)) (hp:ZBV ki w es=some es')
 (h:∀A',A'=(Ji st ks (bs.set j (.map es'))).ps->A'.length=A.length->Is O is keep k Q e ⟨A',false,L⟩):Is O (⟨none,none,false,.mupd kk x i v⟩::is) keep k Q e ⟨A,false,L⟩:=by
 have hP:=H.put hl hn;have hg:=hP.get j lv ix _ hj hb;have hw:=hP.wr (lv,ix) (jM hj);have hle:=St.get_le hg;refine Z4 (od:=none) (v:=.undef) (st':=St.upd ⟨A,false,L⟩ lv ix (.map es')) ?_ ?_
 ·simp only[Zi,evalPO,ZH hx,ZH hi,ZH hv,ZHy,hki,if_true,hs,oS,ZKj,ZQ hA hg,ZAe,hp,St.put_upd (Xn hA hle hw) (ZQ hA hg),ZBW]
 ·rw[Jl hA hle]
  refine h _ ?_ ?_
  ·rw[ZBi H.nd hl hj]
  ·rw[hA];simp[ZZw,St.upd_A]
theorem Zj7{s x:Opd}{lv bytes:Nat}{ys:LV}{vx:AV}(H:Cl st ks b0)(hA:A=(Ji st ks bs).ps)(hl:bs.length=ks.length)(hn:bs.all noH=true)(hj:ks[j]?=some (lv,ix))(hb:bs[j]?=some (.arr w ver es))
 (hs:Ze e s=some (.ref lv ix ver 0 es.length)) (hx:Ze e x=some vx) (hy:elems ⟨A,false,L⟩ vx=some ys) (hw:Q8 w ys=true) (hsl:mapSt (ZZ QD (lv+1)) ⟨A,false,L⟩ ys=some (ys,⟨A,false,L⟩)) (hlen:es.length+ys.length<4294967296) (hby:bytes<=4096)
 (h:∀A',A'=(Ji st ks (bs.set j (.arr w (ver+1) (es++ys)))).ps->A'.length=A.length->Is O is keep k Q ((d,.ref lv ix (ver+1) 0 (es.length+ys.length))::e) ⟨A',false,L⟩) :
 Is O (⟨some d,none,false,.app w bytes s x⟩::is) keep k Q e ⟨A,false,L⟩:=by
 have hP:=H.put hl hn;have hg:=hP.get j lv ix _ hj hb;have hwr:=hP.wr (lv,ix) (jM hj);have hlv:=St.get_le hg;refine Z4 (v:=.ref lv ix (ver+1) 0 (es.length+ys.length)) (st':=St.upd ⟨A,false,L⟩ lv ix (.arr w (ver+1) (es++ys))) ?_ ?_
 ·have hg':=ZQ hA (ro:=false) (L:=L) hg
  have hw':=Xn hA hlv hwr (ro:=false) (L:=L)
  simp only[Zi,evalPO,ZH hs,ZH hx,hy,oS,JQ,hw,if_true,hsl,Zd5,hg',ZLA,true_and,if_pos (show 0+es.length<=es.length/\es.length+ys.length<4294967296/\bytes<=4096 by omega),List.drop_zero]
  rw[List.take_of_length_le (by omega),St.put_upd hw' hg']
  rfl
 ·rw[Jl hA hlv]
  refine h _ ?_ ?_
  ·rw[ZBi H.nd hl hj]
  ·rw[hA];simp[ZZw,St.upd_A]
end
end Go.QAbs
namespace Go.Q15
open Go Go.QAbs
variable {v:AV}{a:Act}{ro:Bool}{c:Code}{e:Env}{g most:Int}{A:List (Bool × List Blk)}{es:LV}{bs:List Blk}{clock d i ix j n ver w:Nat}{st:St}
def tl:List (FuncId × Ent):=(Z9,.base (ZLH 4))::ZrV
def Tb:Tab:=Xy tl
structure Mea where
 b:Int
 r:Int
 l:Int
deriving DecidableEq
def Mea.zero:Mea:=⟨0,0,0⟩
def Mea.add(x y:Mea):Mea:=⟨x.b+y.b,x.r+y.r,x.l+y.l⟩
def Mea.av(m:Mea):AV:=.agg [.int .i64 m.b,.int .i64 m.r,.int .i64 m.l]
def ZD4(b:UInt8):Bool:=b.toNat<128 || 191<b.toNat
def ZR4(b:UInt8):Bool:=b.toNat == 10
def Yw(s:B8):Mea:=⟨s.length,s.countP ZD4,s.countP ZR4⟩
theorem ZSj(s t:B8):Yw (s++t)=(Yw s).add (Yw t):=by
 simp[Yw,Mea.add]
theorem Zp1(b:UInt8)(st:St):S Tb ZAI [.int .u8 b.toNat] st=some (.bool true,st):=by
 refine QK Y (fun A hA=>?_)
 repeat'(first|refine ZE ?_|refine ZD ?_|refine ZF Y ?_|refine ZB Y ?_|refine ZC ?_|refine ZP ?_|refine ZL ?_)
 refine Zf hA (by simp) Y Y Y Y ?_
 rfl
theorem Zm5(b:UInt8)(st:St):S Tb Xt [.int .u8 b.toNat] st=some (.bool (ZD4 b),st):=by
 refine QK Y (fun A hA=>?_)
 repeat'(first|refine ZE ?_|refine ZD ?_|refine ZF Y ?_|refine QB Y ?_|refine Q6 Y Y ?_|refine Zl Y Y Y Y ?_|refine ZB Y ?_|refine ZC ?_|(refine cm0 Y Y Y ?_ ?_<;>intro _<;>try omega)|refine ZP ?_|refine ZL ?_)
 all_goals refine Zf hA (by simp) Y Y Y Y ?_
 all_goals (unfold ZD4;simp;omega)
theorem Zp2(b:UInt8)(st:St):S Tb ZAJ [.int .u8 b.toNat] st=some (.bool (ZR4 b),st):=by
 refine QK Y (fun A hA=>?_)
 repeat'(first|refine ZE ?_|refine ZD ?_|refine ZF Y ?_|refine ZB Y ?_|refine ZC ?_|(refine cm0 Y Y Y ?_ ?_<;>intro _<;>try omega)|refine ZP ?_|refine ZL ?_)
 all_goals refine Zf hA (by simp) Y Y Y Y ?_
 all_goals (unfold ZR4;simp;omega)
def Zsb(f:FuncId)(p:UInt8->Bool):Prop:=∀b st,S Tb f [.int .u8 b.toNat] st=some (.bool (p b),st)
theorem getB{s:B8}(h:i<s.length):∃b,s[i]?=some b/\s.take (i+1)=s.take i++[b]:=by
 refine⟨s[i],by simp[h],?_⟩
 rw[List.take_add_one];simp[h]
theorem Zfw(f:FuncId)(p:UInt8->Bool)(hf:Zsb f p)(s:B8)(hs:s.length<4294967296)(st:St):S Tb ZBt [.str s,.func (.func f) [] []] st=some (.int .i64 (s.countP p),st):=by
 refine QK Y (fun A hA=>?_)
 repeat'(first|refine ZE ?_|refine ZD ?_|refine ZF Y ?_|refine ZB Y ?_|refine ZC ?_|refine YY Y ?_|refine ZJ ?_)
 refine Zt (α:=Nat) (fun i=>[(0,.str s),(1,.func (.func f) [] []),(5,.int .i64 ((s.take i).countP p)),(8,.int .i64 s.length),(9,.int .i64 i)])
  (fun i=>⟨A,false,[]⟩) (fun i=>i<=s.length) (fun i=>s.length-i) 0 rfl rfl (Nat.zero_le _) ?_
 intro i hi
 repeat'(first|refine ZE ?_|refine ZD ?_|refine ZF Y ?_|refine ZB Y ?_|refine ZC ?_|(refine cm0 Y Y Y ?_ ?_<;>intro _<;>try omega)|refine ZS Y ?_|refine ZG Y ?_|refine ZI ?_|refine ZP ?_|refine Zo ?_|refine ZJ ?_|refine ZL ?_|refine Zc ?_|refine Za Y ?_|refine Zk ?_)
 ·rename_i hlt
  obtain⟨b,hb,ht⟩:=getB (s:=s) (i:=i) (by omega)
  have hc:=List.countP_le_length (p:=p) (l:=s.take i);have hl:=List.length_take_le i s
  refine Zms Y Y (by omega) (by simpa using hb) ?_
  refine ZA Y Y Y (hf b _) ?_
  cases hp:p b
  ·repeat'(first|refine ZD ?_|refine ZF Y ?_|refine ZB Y ?_|refine ZC ?_|refine ZG Y ?_|refine Zj Y Y (by omega) ?_|refine ZI ?_|refine Zz ?_|refine Z7 ?_)
   refine⟨i+1,⟨?_,rfl⟩,by omega,by omega⟩
   rw[ht,List.countP_append];simp[hp]
  ·repeat'(first|refine ZD ?_|refine ZF Y ?_|refine ZB Y ?_|refine ZC ?_|refine ZS Y ?_|refine Zj Y Y (by omega) ?_|refine Zz ?_|refine Z7 ?_)
   refine⟨i+1,⟨?_,rfl⟩,by omega,by omega⟩
   rw[ht,List.countP_append];simp[hp]
 ·refine Zf hA (by simp) Y Y Y Y ?_
  rw[List.take_of_length_le (by omega)]
theorem Zp3(a b c x y z:Int):eqV [(0,0),(1,0),(2,0)] 0 (.agg [.int .i64 a,.int .i64 b,.int .i64 c]) (.agg [.int .i64 x,.int .i64 y,.int .i64 z])=some (decide (a=x/\b=y/\c=z)):=by
 show (if decide (a=x)=true then (if decide (b=y)=true then (if decide (c=z)=true then some true else some false) else some false) else some false)=_
 by_cases h1:a=x<;>by_cases h2:b=y<;>by_cases h3:c=z<;>simp[h1,h2,h3]
theorem ZZy(m:Mea)(st:St):S Tb Yv [m.av] st=some (m.av,st):=by
 refine QK Y (fun A hA=>?_)
 unfold Mea.av
 repeat'(first|refine ZE ?_|refine ZD ?_|refine ZV Y Y Y Y ?_|refine ZB Y ?_|refine ZC ?_|refine ZS Y ?_|refine ZG Y ?_|refine Zw Y Y Y ?_|refine Zn Y Y Y ?_|refine Zy Y Y Y Y Y Y ?_|refine Zim Y Y Y ?_|(refine ZJn Y Y (Zp3 _ _ _ 0 0 0) (fun _=>?_) (fun _=>?_))|refine ZI ?_|refine ZP ?_|refine ZL ?_|refine Zb ?_)
 ·rename_i h
  refine Xz hA (by simp) Y Y Y Y Y ?_
  rw[h.1,h.2.1,h.2.2]
 ·refine Xz hA (by simp) Y Y Y Y Y ?_
  rfl
theorem Of_c(s:B8)(hs:s.length<4294967296)(st:St):S Tb ZFT [.str s] st=some ((Yw s).av,st):=by
 refine QK Y (fun A hA=>?_)
 have h1:=fun st=>Zfw ZAI (fun _=>true) Zp1 s hs st
 have h2:=fun st=>Zfw Xt ZD4 Zm5 s hs st
 have h3:=fun st=>Zfw ZAJ ZR4 Zp2 s hs st
 repeat'(first|refine ZE ?_|refine ZD ?_|refine ZF Y ?_|refine ZV Y Y Y Y ?_|refine ZB Y ?_|refine ZC ?_|(refine cm0 Y Y Y ?_ ?_<;>intro _<;>try omega)|refine ZS Y ?_|refine ZG Y ?_|refine Zj Y Y (by omega) ?_|refine Zw Y Y Y ?_|refine Zn Y Y Y ?_|refine Zy Y Y Y Y Y Y ?_|refine Zg2 Y Y Y ?_|refine Zim Y Y Y ?_|refine ZA Y Y Y (h1 _) ?_|refine ZA Y Y Y (h2 _) ?_|refine ZA Y Y Y (h3 _) ?_|refine ZA Y Y Y (ZZy ⟨_,_,_⟩ _) ?_|refine Yd ?_|refine ZI ?_|refine ZP ?_|refine Zo ?_|refine ZJ ?_|refine ZL ?_|refine Zc ?_|refine Zz ?_|refine Za Y ?_)
 refine Xz hA (by simp) Y Y Y Y Y ?_
 simp[Mea.av,Yw]
theorem ZV3(h:n<18446744073709551616):IntKind.u64.wrap (n:Int)=n:=by
 have e1:IntKind.u64.signed=false:=rfl;have e2:IntKind.u64.bits=64:=rfl;simp only[IntKind.wrap,e1,e2,Bool.false_and,if_false,jB];omega
theorem Zp4(h:n<9223372036854775808):IntKind.i64.wrap (n:Int)=n:=ZPa (by omega) (by omega)
theorem Zsc{h:Nat}(hh:h<18446744073709551616):ZER .and (.int .u64 h) (.int .u64 65535)=some (.int .u64 ((h % 65536:Nat):Int)):=by
 have e:(BitVec.ofInt 64 (h:Int) &&& BitVec.ofInt 64 65535).toNat=h % 65536:=by
  have e1:BitVec.ofInt 64 (h:Int)=BitVec.ofNat 64 h:=by simp
  have e2:BitVec.ofInt 64 65535=BitVec.ofNat 64 65535:=rfl
  rw[e1,e2,BitVec.toNat_and,BitVec.toNat_ofNat,BitVec.toNat_ofNat,Nat.mod_eq_of_lt (by omega:h<2 ^ 64)]
  exact Nat.and_two_pow_sub_one_eq_mod h 16
 show some (AV.int .u64 (IntKind.u64.wrap ((BitVec.ofInt 64 (h:Int) &&& BitVec.ofInt 64 65535).toNat:Int)))=_
 rw[e,ZV3 (by omega)]
theorem Zsd{h:Nat}:ZER .shr (.int .u64 h) (.int .u64 16)=some (.int .u64 ((h / 65536:Nat):Int)):=by
 show some (AV.int .u64 ((h:Int).fdiv (2 ^ 16)))=_
 rw[Int.fdiv_eq_ediv_of_nonneg _ (by decide)];rfl
theorem Zse{g:Nat}(hg:g<4294967296):ZER .shl (.int .u64 g) (.int .u64 16)=some (.int .u64 ((g*65536:Nat):Int)):=by
 show some (AV.int .u64 (IntKind.u64.wrap ((g:Int)*2 ^ 16)))=_
 rw[show ((g:Int)*2 ^ 16)=((g*65536:Nat):Int) by omega,ZV3 (by omega)]
theorem or16{g s:Nat}(hg:g<4294967296)(hs:s<65536):ZER .or (.int .u64 ((g*65536:Nat):Int)) (.int .u64 s)=some (.int .u64 ((g*65536+s:Nat):Int)):=by
 have e:(BitVec.ofInt 64 ((g*65536:Nat):Int) ||| BitVec.ofInt 64 (s:Int)).toNat=g*65536+s:=by
  have e1:BitVec.ofInt 64 ((g*65536:Nat):Int)=BitVec.ofNat 64 (g*65536):=BitVec.ofInt_natCast ..
  have e2:BitVec.ofInt 64 (s:Int)=BitVec.ofNat 64 s:=BitVec.ofInt_natCast ..
  rw[e1,e2,BitVec.toNat_or,BitVec.toNat_ofNat,BitVec.toNat_ofNat,Nat.mod_eq_of_lt (by omega),Nat.mod_eq_of_lt (by omega)]
  have:=Nat.two_pow_add_eq_or_of_lt (i:=16) (b:=s) (by omega) g
  rw[show g*65536=2 ^ 16*g by omega,this]
 show some (AV.int .u64 (IntKind.u64.wrap ((BitVec.ofInt 64 ((g*65536:Nat):Int) ||| BitVec.ofInt 64 (s:Int)).toNat:Int)))=_
 rw[e,ZV3 (by omega)]
theorem ZV4(h:Nat)(hh:h<18446744073709551616)(st:St):S Tb Xf [.int .u64 h] st=some (.tup [.int .i64 ((h % 65536:Nat):Int),.int .u64 ((h / 65536:Nat):Int)],st):=by
 refine QK Y (fun A hA=>?_)
 repeat'(first|refine ZE ?_|refine ZD ?_|refine ZF Y ?_|refine ZB Y ?_|refine ZC ?_|refine ZWt Y Y (Zsc hh) ?_|refine ZWt Y Y Zsd ?_|refine ZMq Y (Zp4 (by omega)) ?_|refine ZP ?_|refine ZL ?_)
 refine Zf hA (by simp) Y Y Y Y ?_
 rfl
abbrev Yc(h:Nat):Prop:=h % 65536<16384/\1<=h / 65536/\h / 65536<=4294967295
theorem ZR5(h:Nat)(hh:Yc h)(st:St):S Tb Yj [.int .u64 h] st=some (.int .i64 0,st):=by
 refine QK Y (fun A hA=>?_)
 repeat'(first|refine ZE ?_|refine ZD ?_|refine ZF Y ?_|refine QB Y ?_|refine Zl Y Y Y Y ?_|refine Zr Y Y ?_|refine ZB Y ?_|refine ZC ?_|(refine cm0 Y Y Y ?_ ?_<;>intro _<;>try omega)|refine ZG Y ?_|refine ZA Y Y Y (ZV4 h (by omega) _) ?_|refine ZI ?_|refine ZP ?_|refine ZL ?_)
 all_goals try omega
 all_goals refine Zf hA (by simp) Y Y Y Y ?_
 all_goals rfl
theorem ZlG(h:Nat)(h64:h<18446744073709551616)(hh:¬ Yc h)(st:St):S Tb Yj [.int .u64 h] st=some (.int .i64 2,st):=by
 refine QK Y (fun A hA=>?_)
 repeat'(first|refine ZE ?_|refine ZD ?_|refine ZF Y ?_|refine QB Y ?_|refine Q6 Y Y ?_|refine Zl Y Y Y Y ?_|refine Zr Y Y ?_|refine ZB Y ?_|refine ZC ?_|(refine cm0 Y Y Y ?_ ?_<;>intro _<;>try omega)|refine ZS Y ?_|refine ZA Y Y Y (ZV4 h (by omega) _) ?_|refine ZP ?_|refine ZL ?_|refine Zb ?_)
 all_goals try omega
 all_goals refine Zf hA (by simp) Y Y Y Y ?_
 all_goals rfl
theorem Zj8(s g:Nat)(hs:s<16384)(hg:1<=g/\g<=4294967295)(st:St):S Tb ZBO [.int .i64 s,.int .u64 g] st=some (.tup [.int .u64 ((g*65536+s:Nat):Int),.int .i64 0],st):=by
 refine QK Y (fun A hA=>?_)
 repeat'(first|refine ZE ?_|refine ZD ?_|refine ZF Y ?_|refine QB Y ?_|refine Zl Y Y Y Y ?_|refine ZB Y ?_|refine ZC ?_|(refine cm0 Y Y Y ?_ ?_<;>intro _<;>try omega)|refine ZG Y ?_|refine ZWt Y Y (Zse (by omega)) ?_|refine ZWt Y Y (or16 (by omega) (by omega)) ?_|refine ZMq Y (ZV3 (by omega)) ?_|refine ZI ?_|refine ZP ?_|refine ZL ?_)
 all_goals try omega
 all_goals refine Zf hA (by simp) Y Y Y Y ?_
 all_goals rfl
structure Kid where
 at_:Nat
 m:Mea
deriving DecidableEq
def Kid.av(k:Kid):AV:=.agg [.int .u64 k.at_,.int .i64 k.m.b,.int .i64 k.m.r,.int .i64 k.m.l]
def slV{α:Type}(f:α->AV):Option (List α)->AV
 | none=>.nils
 | some l=>.lit (l.map f)
structure Nd where
 h:Nat
 text:B8
 kids:Option (List Kid)
def Nd.av(x:Nd):AV:=.agg [.int .i64 x.h,.str x.text,slV Kid.av x.kids]
def Nd.ks(x:Nd):List Kid:=x.kids.getD []
def leastB(h:Nat):Nat:=8*2 ^ h
def mostB:Nat->Nat
 | 0=>16
 | h+1=>min (mostB h*4) 65536
theorem ZOs:∀h,16<=mostB h/\mostB h<=65536
 | 0=>by simp[mostB]
 | h+1=>by have:=ZOs h;simp only[mostB];omega
theorem ZE3{h:Nat}(hh:h<=16):8<=leastB h/\leastB h<=524288:=by
 have h1:2 ^ h<=2 ^ 16:=Nat.pow_le_pow_right (by decide) hh
 have h2:1<=2 ^ h:=Nat.one_le_two_pow;unfold leastB;omega
theorem ZJQ(h:Nat):leastB (h+1)=leastB h*2:=by unfold leastB;rw[Nat.pow_succ];omega
theorem Zm6(n:Nat)(i:Int)(hi:i=n)(hn:n<=16)(st:St):S Tb ZEI [.int .i64 i] st=some (.tup [.int .i64 (leastB n),.int .i64 (mostB n)],st):=by
 subst hi
 refine QK Y (fun A hA=>?_)
 repeat'(first|refine ZE ?_|refine ZD ?_|refine ZF Y ?_|refine ZB Y ?_|refine ZC ?_|refine ZJ ?_)
 refine Zt (α:=Nat) (fun i=>[(2,.int .i64 (leastB i)),(3,.int .i64 (mostB i)),(4,.int .i64 n),(5,.int .i64 i)]) (fun i=>⟨A,false,[]⟩) (fun i=>i<=n) (fun i=>n-i) 0 Y Y (by omega) ?_
 intro i hi
 have hl:=ZE3 (h:=i) (by omega)
 have hm:=ZOs i
 repeat'(first|refine ZE ?_|refine ZD ?_|refine ZF Y ?_|refine ZB Y ?_|refine ZC ?_|(refine cm0 Y Y Y ?_ ?_<;>intro _<;>try omega)|refine ZS Y ?_|refine ZG Y ?_|refine Zj Y Y (by omega) ?_|refine Zpt Y Y (by omega) ?_|refine ZeR Y Y ?_|refine ZI ?_|refine ZP ?_|refine Zo ?_|refine ZJ ?_|refine ZL ?_|refine Zc ?_|refine Zz ?_|refine Za Y ?_|refine Z7 ?_|refine Zk ?_)
 ·refine⟨i+1,⟨?_,rfl⟩,by omega,by omega⟩
  rw[ZJQ];simp only[mostB,jB,if_false]
  rw[show ((min (mostB i*4) 65536:Nat):Int)=min ((mostB i:Int)*4) 65536 by omega]
  rfl
 ·have:i=n:=by omega
  subst this
  refine Zf hA (by simp) Y Y Y Y ?_
  simp only[jB,if_false]
  rw[Int.min_eq_left (by omega)]
structure KidOk(h:Nat)(k:Kid):Prop where
 at_:Yc k.at_
 lo:(leastB h:Int)<=k.m.b
 hi:k.m.b<=mostB h
 r0:0<=k.m.r
 rb:k.m.r<=k.m.b
 l0:0<=k.m.l
 lr:k.m.l<=k.m.r
theorem ZhT(x:Nd)(h0:x.h=0)(h1:1<=x.text.length/\x.text.length<=16)(h2:x.ks=[])(st:St):S Tb ZBR [x.av] st=some (.bool true,st):=by
 obtain⟨h,text,kids⟩:=x
 simp only at h0 h1
 subst h0
 refine QK Y (fun A hA=>?_)
 cases kids with
 | none =>
  simp only[Nd.av,slV]
  repeat'(first|refine ZE ?_|refine ZD ?_|refine ZF Y ?_|refine ZU Y Y ?_|refine ZV Y Y Y Y ?_|refine QB Y ?_|refine Zl Y Y Y Y ?_|refine ZB Y ?_|refine ZC ?_|refine YY Y ?_|refine YF Y ?_|(refine cm0 Y Y Y ?_ ?_<;>intro _<;>try omega)|refine ZS Y ?_|refine Zn Y Y Y ?_|refine ZP ?_|refine ZL ?_|refine Zb ?_)
  refine Zf hA (by simp) Y Y Y Y ?_
  rfl
 | some l =>
  have:l=[]:=h2
  subst this;simp only[Nd.av,slV]
  repeat'(first|refine ZE ?_|refine ZD ?_|refine ZF Y ?_|refine ZU Y Y ?_|refine ZV Y Y Y Y ?_|refine QB Y ?_|refine Zl Y Y Y Y ?_|refine ZB Y ?_|refine ZC ?_|refine YY Y ?_|refine ZFQ Y Y ?_|(refine cm0 Y Y Y ?_ ?_<;>intro _<;>try omega)|refine ZS Y ?_|refine Zn Y Y Y ?_|refine ZP ?_|refine ZL ?_|refine Zb ?_)
  refine Zf hA (by simp) Y Y Y Y ?_
  rfl
set_option maxHeartbeats 4000000 in
theorem ZlH(n:Nat)(hn:n<=15)(ks:List Kid)(hk:2<=ks.length/\ks.length<=4)(hs:∀k∈ks,KidOk n k)(st:St):S Tb ZBR [Nd.av ⟨n+1,[],some ks⟩] st=some (.bool true,st):=by
 refine QK Y (fun A hA=>?_)
 simp only[Nd.av,slV]
 repeat'(first|refine ZE ?_|refine ZD ?_|refine ZF Y ?_|refine ZU Y Y ?_|refine ZV Y Y Y Y ?_|refine QB Y ?_|refine Zl Y Y Y Y ?_|refine Zr Y Y ?_|refine ZB Y ?_|refine ZC ?_|refine QL Y ?_|(refine cm0 Y Y Y ?_ ?_<;>intro _<;>try omega)|(refine Zpu Y Y (fun _=>?_) (fun _=>?_)<;>try contradiction)|refine ZG Y ?_|refine YE Y Y (by omega) ?_|refine Zn Y Y Y ?_|refine ZA Y Y Y (Zm6 n _ (by omega) (by omega) _) ?_|refine ZI ?_|refine ZJ ?_)
 refine Zt (α:=Nat × List Blk) (fun p=>[(3,.int .i64 (leastB n)),(4,.int .i64 (mostB n)),(59,.lit (ks.map Kid.av)),(60,.int .i64 ks.length),(61,.int .i64 p.1)]) (fun p=>⟨A,false,.arr 3 0 [.agg [.int .i64 ↑(n+1),.str [],.lit (ks.map Kid.av)]]::p.2⟩) (fun p=>p.1<=ks.length) (fun p=>ks.length-p.1) (0,[]) Y Y (by simp) ?_
 rintro⟨i,G⟩ hi
 simp only at hi ⊢
 repeat'(first|refine ZE ?_|refine ZD ?_|refine ZF Y ?_|refine ZU Y Y ?_|refine ZB Y ?_|refine ZC ?_|refine Ql Y Y Y ?_|refine QF Y Y ?_|refine YQ Y Y (by omega) (fun _=>rfl) (fun _ _=>?_)|(refine cm0 Y Y Y ?_ ?_<;>intro _<;>try omega)|refine ZS Y ?_|refine ZG Y ?_|refine Z0 Y Y Y ?_|refine J9 Y Y Y Y Y Y ?_|refine ZI ?_|refine ZP ?_|refine Zo ?_|refine ZJ ?_|refine ZL ?_|refine Zc ?_|refine Za Y ?_|refine Zk ?_)
 ·rename_i k hk'
  obtain⟨a1,b1,c1,d1,e1,f1,g1⟩:=hs k (jM hk')
  repeat'(first|refine ZD ?_|refine ZF Y ?_|refine ZU Y Y ?_|refine QB Y ?_|refine Zl Y Y Y Y ?_|refine ZB Y ?_|refine ZC ?_|refine Ql Y Y Y ?_|(refine cm0 Y Y Y ?_ ?_<;>intro _<;>try omega)|refine ZG Y ?_|refine Zj Y Y (by omega) ?_|refine ZA Y Y Y (ZR5 k.at_ a1 _) ?_|refine ZI ?_|refine Zz ?_|refine Z7 ?_)
  exact⟨(i+1,_),⟨rfl,rfl⟩,by simp only;omega,by simp only;omega⟩
 ·refine Zf hA (by simp) Y Y Y Y ?_
  rfl
def QI:List Mea->Mea
 | []=>.zero
 | m::l=>m.add (QI l)
theorem Mea.add_zero(m:Mea):m.add .zero=m:=by cases m;simp[Mea.add,Mea.zero]
theorem Mea.zero_add(m:Mea):Mea.add .zero m=m:=by cases m;simp[Mea.add,Mea.zero]
theorem Mea.add_assoc(a b c:Mea):(a.add b).add c=a.add (b.add c):=by cases a;cases b;cases c;simp[Mea.add,Int.add_assoc]
theorem ZJR(a b:List Mea):QI (a++b)=(QI a).add (QI b):=by
 induction a with
 | nil=>simp[QI,Mea.zero_add]
 | cons m l ih=>simp[QI,ih,Mea.add_assoc]
structure Mea.Fit(m:Mea)(n:Int):Prop where
 b0:0<=m.b
 b1:m.b<=n
 r0:0<=m.r
 r1:m.r<=n
 l0:0<=m.l
 l1:m.l<=n
theorem ZJS:∀ {l:List Mea},(∀m∈l,m.Fit 65536)->(QI l).Fit (l.length*65536)
 | [],_=>⟨by decide,by decide,by decide,by decide,by decide,by decide⟩
 | m::l,h=>by
  obtain⟨a1,a2,a3,a4,a5,a6⟩:=h m (by simp)
  obtain⟨b1,b2,b3,b4,b5,b6⟩:=ZJS (l:=l) (fun x hx=>h x (by simp[hx]))
  have:((m::l).length:Int)*65536=l.length*65536+65536:=by simp;omega
  constructor<;>simp only[QI,Mea.add]<;>omega
theorem ZW{α:Type}{l:List α}{a:α}(h:l[i]?=some a):l.take (i+1)=l.take i++[a]:=by
 rw[List.take_add_one,h];rfl
set_option maxHeartbeats 4000000 in
theorem Zsf(ms:List Mea)(hl:ms.length<=4)(hf:∀m∈ms,m.Fit 65536)(st:St)(lv ix ver n:Nat)(hn:n=ms.length)(hg:st.get lv ix=some (.arr 3 ver (ms.map Mea.av))):S Tb ZEH [.ref lv ix ver 0 n] st=some ((QI ms).av,st):=by
 subst hn
 refine QK Y (fun A hA=>?_)
 have hgA:∀L,St.get ⟨A,false,L⟩ lv ix=some (.arr 3 ver (ms.map Mea.av)):=fun L=>ZQ hA hg
 repeat'(first|refine ZE ?_|refine ZD ?_|refine ZF Y ?_|refine ZB Y ?_|refine ZC ?_|refine Qf Y ?_|refine Zn Y Y Y ?_|refine ZJ ?_)
 refine Zt (α:=Nat × List Blk) (fun p=>[(2,.ptr A.length 0 0 0 0),(3,.ptr A.length 1 0 0 0),(8,.ref lv ix ver 0 ms.length),(9,.int .i64 ms.length),(10,.int .i64 p.1)]) (fun p=>⟨A,false,.arr 3 0 [.agg [.int .i64 0,.int .i64 0,.int .i64 0]]::.arr 3 0 [(QI (ms.take p.1)).av]::p.2⟩) (fun p=>p.1<=ms.length) (fun p=>ms.length-p.1) (0,[]) Y Y (by simp) ?_
 rintro⟨i,G⟩ hi
 simp only at hi ⊢
 repeat'(first|refine ZE ?_|refine ZD ?_|refine ZV Y Y Y Y ?_|refine ZB Y ?_|refine ZC ?_|(refine cm0 Y Y Y ?_ ?_<;>intro _<;>try omega)|refine ZS Y ?_|refine ZG Y ?_|refine JB Y Y Y Y Y Y ?_|refine ZA Y Y Y (ZZy _ _) ?_|refine ZI ?_|refine ZP ?_|refine Zo ?_|refine ZJ ?_|refine ZL ?_|refine Zc ?_|refine Za Y ?_|refine Zk ?_)
 ·rename_i hlt
  obtain⟨m,hm⟩:∃m,ms[i]?=some m:=⟨ms[i]'(by omega),by simp[show i<ms.length by omega]⟩
  obtain⟨a1,a2,a3,a4,a5,a6⟩:=ZJS (l:=ms.take i) (fun x hx=>hf x (List.mem_of_mem_take hx))
  have hli:=List.length_take_le i ms;obtain⟨b1,b2,b3,b4,b5,b6⟩:=hf m (jM hm)
  refine YP Y Y (by omega) (by rw[hgA];simp[wIs]) ?_
  refine Z5 (x:=m.av) Y (hgA _) (by simp[hm]) Y ?_
  have ht:QI (ms.take (i+1))=⟨(QI (ms.take i)).b+m.b,(QI (ms.take i)).r+m.r,(QI (ms.take i)).l+m.l⟩:=by
   rw[ZW hm,ZJR];simp[QI,Mea.add,Mea.zero]
  generalize hS:QI (ms.take i)=s at *
  rw[show s.av=.agg [.int .i64 s.b,.int .i64 s.r,.int .i64 s.l] from rfl]
  repeat'(first|refine ZE ?_|refine ZD ?_|refine ZF Y ?_|refine ZU Y Y ?_|refine ZV Y Y Y Y ?_|refine ZB Y ?_|refine ZC ?_|refine Ql Y Y Y ?_|(refine cm0 Y Y Y ?_ ?_<;>intro _<;>try omega)|refine ZS Y ?_|refine ZG Y ?_|refine Zj Y Y (by omega) ?_|refine Zw Y Y Y ?_|refine Z0 Y Y Y ?_|refine J9 Y Y Y Y Y Y ?_|refine Zg2 Y Y Y ?_|refine Zim Y Y Y ?_|refine JB Y Y Y Y Y Y ?_|refine Yd ?_|refine ZI ?_|refine Zo ?_|refine ZJ ?_|refine Zc ?_|refine Zz ?_|refine Za Y ?_|refine Z7 ?_)
  refine⟨(i+1,G++[.arr 3 0 [m.av]]),⟨rfl,?_⟩,by simp only;omega,by simp only;omega⟩
  simp only[ht];rfl
 ·refine Xz hA (by simp) Y Y Y Y Y ?_
  have:ms.take i=ms:=List.take_of_length_le (by omega)
  rw[this];rfl
theorem ZhU(x:Nd)(h0:x.h=0)(h1:x.text.length<=16)(st:St):S Tb ZC3 [x.av] st=some ((Yw x.text).av,st):=by
 obtain⟨h,text,kids⟩:=x
 simp only at h0 h1
 subst h0
 refine QK Y (fun A hA=>?_)
 have hO:=fun st=>Of_c text (by omega) st
 unfold Mea.av at hO;simp only[Nd.av]
 cases kids
 all_goals simp only[slV]
 all_goals repeat'(first|refine ZE ?_|refine ZD ?_|refine ZU Y Y ?_|refine ZV Y Y Y Y ?_|refine ZB Y ?_|refine ZC ?_|(refine cm0 Y Y Y ?_ ?_<;>intro _<;>try omega)|refine ZS Y ?_|refine Zn Y Y Y ?_|refine Zy Y Y Y Y Y Y ?_|refine ZA Y Y Y (hO _) ?_|refine ZP ?_|refine ZL ?_|refine Zb ?_)
 all_goals refine Xz hA (by simp) Y Y Y Y Y ?_
 all_goals rfl
theorem KidOk.fit{k:Kid}(h:KidOk n k):k.m.Fit 65536:=by
 obtain⟨a1,b1,c1,d1,e1,f1,g1⟩:=h
 have:=ZOs n
 constructor<;>omega
set_option maxHeartbeats 4000000 in
theorem Zm7(n:Nat)(ks:List Kid)(hk:ks.length<=4)(hs:∀k∈ks,k.m.Fit 65536)(text:B8)(st:St):S Tb ZC3 [Nd.av ⟨n+1,text,some ks⟩] st=some ((QI (ks.map Kid.m)).av,st):=by
 refine QK Y (fun A hA=>?_)
 simp only[Nd.av,slV]
 repeat'(first|refine ZE ?_|refine ZD ?_|refine ZF Y ?_|refine ZU Y Y ?_|refine ZV Y Y Y Y ?_|refine ZB Y ?_|refine ZC ?_|refine QL Y ?_|(refine cm0 Y Y Y ?_ ?_<;>intro _<;>try omega)|refine ZG Y ?_|refine Zn Y Y Y ?_|refine ZBM Y ?_|refine ZI ?_|refine ZJ ?_)
 refine Zt (α:=Nat × List Blk) (fun p=>[(2,.ptr A.length 1 0 0 0),(3,.ref A.length 2 p.1 0 p.1),(13,.lit (ks.map Kid.av)),(14,.int .i64 ks.length),(15,.int .i64 p.1)]) (fun p=>⟨A,false,.arr 3 0 [.agg [.int .i64 ↑(n+1),.str text,.lit (ks.map Kid.av)]]::.arr 3 0 [.agg [.int .i64 0,.int .i64 0,.int .i64 0]]::.arr 3 p.1 ((ks.take p.1).map fun k=>k.m.av)::p.2⟩) (fun p=>p.1<=ks.length) (fun p=>ks.length-p.1) (0,[]) Y Y (by simp) ?_
 rintro⟨i,G⟩ hi
 simp only at hi ⊢
 repeat'(first|refine ZE ?_|refine ZD ?_|refine ZF Y ?_|refine ZU Y Y ?_|refine ZB Y ?_|refine ZC ?_|refine Ql Y Y Y ?_|refine QF Y Y ?_|refine YQ Y Y (by omega) (fun _=>rfl) (fun _ _=>?_)|(refine cm0 Y Y Y ?_ ?_<;>intro _<;>try omega)|refine ZS Y ?_|refine ZG Y ?_|refine Zj Y Y (by omega) ?_|refine Z0 Y Y Y ?_|refine J9 Y Y Y Y Y Y ?_|refine QX Y Y Y Y ?_|refine ZWx Y Y Y (by first|rfl|(simp;done)|(simp;omega)) (by first|omega|(simp<;>omega)) (by decide) rfl rfl ?_|refine ZI ?_|refine Zo ?_|refine ZJ ?_|refine Zc ?_|refine Zz ?_|refine Za Y ?_|refine Z7 ?_|refine Zk ?_)
 ·rename_i k hk'
  have hk2:ks[i]?=some k:=hk'
  refine⟨(i+1,G++[.arr 4 0 [k.av]]),⟨rfl,?_⟩,by simp only;omega,by simp only;omega⟩
  rw[ZW hk2,List.map_append];rfl
 ·have hi':ks.take i=ks:=List.take_of_length_le (by omega)
  refine ZA Y Y Y (Zsf (ks.map Kid.m) (by simpa using hk) (by intro m hm;obtain⟨k,hk1,rfl⟩:=List.mem_map.1 hm;exact hs k hk1) _ A.length 2 i i (by simp;omega) (by rw[St.get_cur,hi',List.map_map];rfl)) ?_
  rw[show (QI (ks.map Kid.m)).av=.agg [.int .i64 (QI (ks.map Kid.m)).b,.int .i64 (QI (ks.map Kid.m)).r,.int .i64 (QI (ks.map Kid.m)).l] from rfl]
  repeat'(first|refine ZB Y ?_|refine ZC ?_|refine JB Y Y Y Y Y Y ?_|refine ZP ?_|refine ZL ?_)
  refine Xz hA (by simp) Y Y Y Y Y ?_
  rfl
structure LeafOk(x:Nd):Prop where
 h:x.h=0
 lo:1<=x.text.length
 hi:x.text.length<=16
 ks:x.ks=[]
structure InnerOk(x:Nd)(n:Nat)(ks:List Kid):Prop where
 eq:x=⟨n+1,[],some ks⟩
 n15:n<=15
 lo:2<=ks.length
 hi:ks.length<=4
 kid:∀k∈ks,KidOk n k
 sum:(QI (ks.map Kid.m)).b<=65536
def NdOk(x:Nd):Prop:=LeafOk x\/∃n ks,InnerOk x n ks
def Nd.mea(x:Nd):Mea:=if x.h=0 then Yw x.text else QI (x.ks.map Kid.m)
theorem ZZz(x:Nd)(hx:NdOk x)(st:St):S Tb ZB8 [x.av] st=some (.int .i64 0,st):=by
 rcases hx with h|⟨n,ks,rfl,h1,h2,h3,h4,h5⟩
 ·have hf:=fun st=>ZhT x h.h ⟨h.lo,h.hi⟩ h.ks st
  have hS:=fun st=>ZhU x h.h h.hi st
  have hhi:=h.hi;unfold Mea.av at hS;have hm:(Yw x.text).b=x.text.length:=rfl;obtain⟨h,text,kids⟩:=x
  simp only[Nd.av]at *
  refine QK Y (fun A hA=>?_)
  cases kids
  all_goals simp only[slV]at *
  all_goals repeat'(first|refine ZE ?_|refine ZD ?_|refine ZF Y ?_|refine ZV Y Y Y Y ?_|refine ZB Y ?_|refine ZC ?_|refine ZWu (agg:=false) Y Y ?_|(refine cm0 Y Y Y ?_ ?_<;>intro _<;>try omega)|refine ZG Y ?_|refine JW Y Y ?_|refine Zn Y Y Y ?_|refine ZA Y Y Y (hf _) ?_|refine ZA Y Y Y (hS _) ?_|refine ZI ?_|refine ZP ?_|refine ZL ?_)
  all_goals refine Zf hA (by simp) Y Y Y Y ?_
  all_goals rfl
 ·have hf:=fun st=>ZlH n h1 ks ⟨h2,h3⟩ h4 st
  have hS:=fun st=>Zm7 n ks h3 (fun k hk=>(h4 k hk).fit) [] st
  unfold Mea.av at hS
  simp only[Nd.av,slV]at *
  refine QK Y (fun A hA=>?_)
  repeat'(first|refine ZE ?_|refine ZD ?_|refine ZF Y ?_|refine ZV Y Y Y Y ?_|refine ZB Y ?_|refine ZC ?_|refine ZWu (agg:=false) Y Y ?_|(refine cm0 Y Y Y ?_ ?_<;>intro _<;>try omega)|refine ZG Y ?_|refine JW Y Y ?_|refine Zn Y Y Y ?_|refine ZA Y Y Y (hf _) ?_|refine ZA Y Y Y (hS _) ?_|refine ZI ?_|refine ZP ?_|refine ZL ?_)
  refine Zf hA (by simp) Y Y Y Y ?_
  rfl
theorem ZMJ(x:Nd)(hx:NdOk x)(st:St):S Tb Xe [x.av] st=some (.tup [x.mea.av,.int .i64 0],st):=by
 have hC:=fun st=>ZZz x hx st
 rcases hx with h|⟨n,ks,rfl,h1,h2,h3,h4,h5⟩
 ·have hS:=fun st=>ZhU x h.h h.hi st
  have he:x.mea=Yw x.text:=by unfold Nd.mea;rw[if_pos h.h]
  rw[he]
  unfold Mea.av at *
  obtain⟨h,text,kids⟩:=x
  simp only[Nd.av]at *
  refine QK Y (fun A hA=>?_)
  cases kids
  all_goals simp only[slV]at *
  all_goals repeat'(first|refine ZE ?_|refine ZD ?_|refine ZF Y ?_|refine ZV Y Y Y Y ?_|refine ZB Y ?_|refine ZC ?_|(refine cm0 Y Y Y ?_ ?_<;>intro _<;>try omega)|refine ZG Y ?_|refine Zn Y Y Y ?_|refine Zy Y Y Y Y Y Y ?_|refine ZA Y Y Y (hC _) ?_|refine ZA Y Y Y (hS _) ?_|refine ZI ?_|refine ZP ?_|refine ZL ?_)
  all_goals refine Xz hA (by simp) Y Y Y Y Y ?_
  all_goals rfl
 ·have hS:=fun st=>Zm7 n ks h3 (fun k hk=>(h4 k hk).fit) [] st
  have he:Nd.mea ⟨n+1,[],some ks⟩=QI (ks.map Kid.m):=rfl;rw[he]
  unfold Mea.av at *
  simp only[Nd.av,slV]at *
  refine QK Y (fun A hA=>?_)
  repeat'(first|refine ZE ?_|refine ZD ?_|refine ZF Y ?_|refine ZV Y Y Y Y ?_|refine ZB Y ?_|refine ZC ?_|(refine cm0 Y Y Y ?_ ?_<;>intro _<;>try omega)|refine ZG Y ?_|refine Zn Y Y Y ?_|refine Zy Y Y Y Y Y Y ?_|refine ZA Y Y Y (hC _) ?_|refine ZA Y Y Y (hS _) ?_|refine ZI ?_|refine ZP ?_|refine ZL ?_)
  refine Xz hA (by simp) Y Y Y Y Y ?_
  rfl
abbrev ZO:=List (Nat × Nd)
def lk:ZO->Nat->Option Nd
 | [],_=>none
 | p::N,h=>if p.1=h then some p.2 else lk N h
def nodeAV(p:Nat × Nd):AV × AV:=(.int .u64 p.1,p.2.av)
structure Rd(st:St)(lv ix:Nat)(N:ZO):Prop where
 at_:∃a0 a1 im a3 a4 a5,st.get lv ix=some (.arr 6 0 [.agg [a0,a1,.map lv im,a3,a4,a5]])/\st.get lv im=some (.map (N.map nodeAV))
theorem Rd.push{L:List Blk}{lv:Nat}{N:ZO}(hA:A=st.A++[(st.ro,st.L)])(h:Rd st lv ix N):Rd ⟨A,ro,L⟩ lv ix N:=by
 obtain⟨a0,a1,im,a3,a4,a5,h1,h2⟩:=h;exact⟨a0,a1,im,a3,a4,a5,ZQ hA h1,ZQ hA h2⟩
theorem ZSk:∀(N:ZO) (h:Nat),ZAV (.int .u64 h) (N.map nodeAV)=some ((lk N h).map Nd.av)
 | [],h=>rfl
 | p::N,h=>by
  rw[jC,ZAV]
  show (Option.bind (if IntKind.u64=IntKind.u64 then some ((h:Int) == (p.1:Int)) else none) fun b=>if b=true then some (some p.2.av) else ZAV (.int .u64 h) (N.map nodeAV))=_
  rw[if_pos rfl,oS,ZSk N h,lk]
  by_cases q:p.1=h
  ·subst q;simp
  ·rw[if_neg q,if_neg (by simp;omega)]
def Nd.copy(x:Nd):Nd:=⟨x.h,x.text,some x.ks⟩
theorem Zda{lv im:Nat}{N:ZO}(hg:st.get lv im=some (.map (N.map nodeAV))){h:Nat}{x:Nd}(hx:lk N h=some x)(z:AV):lookV st 0 z true (.int .u64 h) (.map lv im)=some (.tup [x.av,.bool true]):=by
 simp only[lookV,Zcz,hg,ZAe,oS,J2,if_true,ZSk,hx,Option.map_some,Zc0]
theorem ZlI(l:List Kid):Q8 4 (l.map Kid.av)=true:=by
 induction l with
 | nil=>rfl
 | cons k l ih=>rw[jC,Q8,List.all_cons];exact Bool.and_eq_true_iff.2 ⟨rfl,ih⟩
theorem Zfx(l:List Kid)(hl:l.length<=65536)(st:St):S Tb Z9 [.lit (l.map Kid.av)] st=some (.lit (l.map Kid.av),st):=by
 refine ZWO (o:=ZLH 4) Y ?_;simp only[ZLH,ZlI,List.length_map,hl,and_self,if_true]
theorem Zp5(st:St):S Tb Z9 [.lit []] st=some (.lit [],st):=Zfx [] (by decide) st
theorem NdOk.len{x:Nd}(h:NdOk x):x.ks.length<=4:=by
 rcases h with h|⟨n,ks,h⟩
 ·rw[h.ks];decide
 ·rw[h.eq];exact h.hi
theorem ZhV{lv:Nat}{N:ZO}(hr:Rd st lv ix N){h:Nat}{x:Nd}(hx:lk N h=some x)(hl:x.ks.length<=4):S Tb Qo [.ptr lv ix 0 0 0,.int .u64 h] st=some (.tup [x.copy.av,.int .i64 0],st):=by
 obtain⟨a0,a1,im,a3,a4,a5,h1,h2⟩:=hr
 refine QK Y (fun A hA=>?_)
 have g1:∀L,St.get ⟨A,false,L⟩ lv ix=_:=fun L=>ZQ hA h1
 have g2:∀L,St.get ⟨A,false,L⟩ lv im=_:=fun L=>ZQ hA h2
 have hlk:=fun L z=>Zda (g2 L) hx z
 have hcl:=fun st=>Zfx x.ks (by omega) st
 obtain⟨hh,text,kids⟩:=x
 cases kids
 all_goals simp only[Nd.av,slV,Nd.copy,Nd.ks,Option.getD]at *
 all_goals repeat'(first|refine ZE ?_|refine ZD ?_|refine ZF Y ?_|refine ZU Y Y ?_|refine ZV Y Y Y Y ?_|refine Zr Y Y ?_|refine ZB Y ?_|refine ZC ?_|refine Z2 Y Y ?_|refine ZG Y ?_|refine JW Y Y ?_|refine JA Y Y Y Y ?_|refine Zn Y Y Y ?_|refine Zy Y Y Y Y Y Y ?_|refine Z5 Y (g1 _) Y Y ?_|refine YZ Y Y (hlk _ _) ?_|refine ZA Y Y Y (hcl _) ?_|refine ZI ?_|refine ZP ?_|refine ZL ?_)
 all_goals refine Xz hA (by simp) Y Y Y Y Y ?_
 all_goals rfl
inductive Tr where
 | mk (old h:Nat) (m:Mea) (text:B8) (kids:Option (List Tr))
namespace Tr
def old:Tr->Nat|.mk o _ _ _ _=>o
def h:Tr->Nat|.mk _ h _ _ _=>h
def m:Tr->Mea|.mk _ _ m _ _=>m
def text:Tr->B8|.mk _ _ _ s _=>s
def kids:Tr->Option (List Tr)|.mk _ _ _ _ k=>k
def ks:Tr->List Tr|.mk _ _ _ _ k=>k.getD []
mutual
def av:Tr->AV
 | .mk o h m s k=>.agg [.int .u64 o,.int .i64 h,.int .i64 m.b,.int .i64 m.r,.int .i64 m.l,.str s,avO k]
def avO:Option (List Tr)->AV
 | none=>.nils
 | some l=>.lit (avL l)
def avL:List Tr->LV
 | []=>[]
 | t::l=>t.av::avL l
end
theorem avL_map:∀l,avL l=l.map av
 | []=>rfl
 | t::l=>by rw[avL,avL_map l];rfl
theorem avO_sl(k:Option (List Tr)):avO k=slV av k:=by
 cases k
 ·rfl
 ·simp only[avO,slV,avL_map]
mutual
def bytes:Tr->Int
 | .mk _ _ m s k=>m.b+s.length+bytesO k
def bytesO:Option (List Tr)->Int
 | none=>0
 | some l=>bytesL l
def bytesL:List Tr->Int
 | []=>0
 | t::l=>t.bytes+bytesL l
end
theorem bytesL_append:∀a b,bytesL (a++b)=bytesL a+bytesL b
 | [],b=>by simp[bytesL]
 | t::a,b=>by rw[lC,bytesL,bytesL,bytesL_append a b];omega
theorem ind{P:Tr->Prop}(step:∀o h m s k,(∀t∈k.getD [],P t)->P (.mk o h m s k)):∀t,P t:=by
 intro t
 refine Tr.rec (motive_1:=P) (motive_2:=fun k=>∀t∈k.getD [],P t) (motive_3:=fun l=>∀t∈l,P t) ?_ ?_ ?_ ?_ ?_ t
 ·intro o h m s k ih;exact step o h m s k ih
 ·intro t h;simp at h
 ·intro l ih;exact ih
 ·intro t h;simp at h
 ·intro t l h1 h2 u hu
  rcases List.mem_cons.1 hu with rfl|q
  ·exact h1
  ·exact h2 u q
inductive Pos:Tr->Prop
 | mk {o h m s k} (h0:0<=m.b) (h4:(k.getD []).length<=4) (hk:∀t∈k.getD [],Pos t):Pos (.mk o h m s k)
theorem bytesO_getD(k:Option (List Tr)):bytesO k=bytesL (k.getD []):=by cases k<;>rfl
theorem bytesL_nonneg:∀ {l:List Tr},(∀t∈l,0<=t.bytes)->0<=bytesL l
 | [],_=>by simp[bytesL]
 | t::l,h=>by
  have h1:=h t (by simp)
  have h2:=bytesL_nonneg (l:=l) (fun u hu=>h u (by simp[hu]))
  rw[bytesL];omega
theorem Pos.nonneg:∀ {t:Tr},t.Pos->0<=t.bytes:=by
 intro t
 induction t using Tr.ind with
 | step o h m s k ih =>
  intro hp
  cases hp with
  | mk h0 h4 hk =>
   have:=bytesL_nonneg (l:=k.getD []) (fun t ht=>ih t ht (hk t ht))
   rw[bytes,bytesO_getD];omega
end Tr
theorem Z6(t:Tr):t.av.wide=some 7:=by
 obtain⟨o,h,m,s,k⟩:=t
 cases k<;>rfl
theorem Y2(l:List Tr):Q8 7 (l.map Tr.av)=true:=by
 induction l with
 | nil=>rfl
 | cons t l ih=>rw[jC,Q8,List.all_cons,Z6];exact Bool.and_eq_true_iff.2 ⟨rfl,ih⟩
theorem Zp(t:Tr):JL t.av true 0 7=some t.av:=by
 obtain⟨o,h,m,s,k⟩:=t
 cases k<;>rfl
theorem QJ(t:Tr):Y7 t.av=some t.av:=by
 obtain⟨o,h,m,s,k⟩:=t
 cases k<;>rfl
theorem Qx(y:AV)(t:Tr):(JP 7 y 0 7 t.av).bind Y7=some t.av:=by
 simp only[JP,Z6,if_true,and_self,oS,QJ]
theorem QQ(b:Nat)(st:St)(t:Tr):ZZ QD b st t.av=some (t.av,st):=by
 obtain⟨o,h,m,s,k⟩:=t
 cases k<;>rfl
theorem ZX(t:Tr):weak t.av=t.av:=by
 obtain⟨o,h,m,s,k⟩:=t
 cases k<;>rfl
theorem ZJT(b:Nat)(st:St)(l:List Tr):mapSt (ZZ QD b) st (l.map Tr.av)=some (l.map Tr.av,st):=by
 induction l with
 | nil=>rfl
 | cons t l ih=>rw[jC,mapSt,QQ,oS,ih,oS,XQ]
set_option maxHeartbeats 4000000 in
theorem ZCU(t:Tr):t.Pos->t.bytes<4611686018427387904->∀st,S Tb Qu [t.av] st=some (.int .i64 t.bytes,st):=by
 induction t using Tr.ind with
 | step o h m s k ih =>
  intro hp hb st
  cases hp with
  | mk h0 h4 hk =>
  refine QK Y (fun A hA=>?_)
  have hn:=Tr.bytesL_nonneg (l:=k.getD []) (fun t ht=>(hk t ht).nonneg)
  have hbb:(Tr.mk o h m s k).bytes=m.b+s.length+Tr.bytesL (k.getD []):=by rw[Tr.bytes,Tr.bytesO_getD]
  rw[hbb]at hb ⊢;rw[Tr.av,Tr.avO_sl]
  cases k with
  | none =>
   simp only[slV,Option.getD]at *
   repeat'(first|refine ZE ?_|refine ZD ?_|refine ZF Y ?_|refine ZU Y Y ?_|refine ZV Y Y Y Y ?_|refine ZB Y ?_|refine ZC ?_|refine YY Y ?_|refine YF Y ?_|(refine cm0 Y Y Y ?_ ?_<;>intro _<;>try omega)|refine ZG Y ?_|refine Zj Y Y (by omega) ?_|refine Zn Y Y Y ?_|refine Yd ?_|refine ZP ?_|refine Zo ?_|refine ZJ ?_|refine ZL ?_|refine Zc ?_|refine Za Y ?_)
   refine Zf hA (by simp) Y Y Y Y ?_
   simp[Tr.bytesL]
  | some l =>
   simp only[slV,Option.getD]at *
   repeat'(first|refine ZE ?_|refine ZD ?_|refine ZF Y ?_|refine ZU Y Y ?_|refine ZV Y Y Y Y ?_|refine ZB Y ?_|refine ZC ?_|refine YY Y ?_|refine QL Y ?_|refine Zj Y Y (by omega) ?_|refine Zn Y Y Y ?_|refine ZJ ?_)
   refine Zt (α:=Nat × List Blk) (fun p=>[(3,.int .i64 (m.b+s.length+Tr.bytesL (l.take p.1))),(14,.lit (l.map Tr.av)),(15,.int .i64 l.length),(16,.int .i64 p.1)]) (fun p=>⟨A,false,p.2⟩) (fun p=>p.1<=l.length) (fun p=>l.length-p.1) (0,_) ?_ Y (by simp) ?_
   ·simp[Tr.bytesL]
   rintro⟨i,G⟩ hi
   simp only at hi ⊢
   repeat'(first|refine ZE ?_|refine ZD ?_|refine ZF Y ?_|refine ZB Y ?_|refine ZC ?_|(refine cm0 Y Y Y ?_ ?_<;>intro _<;>try omega)|refine ZS Y ?_|refine ZG Y ?_|refine Z0 Y Y Y ?_|refine YQ Y Y (by omega) Z6 (fun _ _=>?_)|refine QF Y (Zp _) ?_|refine Ql Y Y (Zp _) ?_|refine J9 Y Y Y (QQ _ _ _) (Qx _ _) Y ?_|refine ZI ?_|refine ZP ?_|refine Zo ?_|refine ZJ ?_|refine ZL ?_|refine Zc ?_|refine Za Y ?_|refine Zk ?_)
   ·rename_i t ht
    have ht2:l[i]?=some t:=ht;have hm:=jM ht2;have h1:=(hk t hm).nonneg
    have h2:0<=Tr.bytesL (l.take i):=Tr.bytesL_nonneg (fun u hu=>(hk u (List.mem_of_mem_take hu)).nonneg)
    have h3:Tr.bytesL l=Tr.bytesL (l.take i)+(t.bytes+Tr.bytesL (l.drop (i+1))):=by
     conv=>lhs;rw[<- List.take_append_drop (i+1) l,ZW ht2,Tr.bytesL_append,Tr.bytesL_append]
     simp[Tr.bytesL];omega
    have h4:0<=Tr.bytesL (l.drop (i+1)):=Tr.bytesL_nonneg (fun u hu=>(hk u (List.mem_of_mem_drop hu)).nonneg)
    have h5:=ih t hm (hk t hm) (by omega)
    repeat'(first|refine ZD ?_|refine ZF Y ?_|refine ZB Y ?_|refine ZC ?_|refine Zj Y Y (by omega) ?_|refine ZA Y Y (by first|rfl|(simp only[lE,lN,lC,Zg,ZX,ZY];first|done|rfl)) (h5 _) ?_|refine Zz ?_|refine Z7 ?_)
    refine⟨(i+1,_),⟨?_,rfl⟩,by simp only;omega,by simp only;omega⟩
    simp only[ZW ht2,Tr.bytesL_append,Tr.bytesL]
    rw[show m.b+↑s.length+(Tr.bytesL (List.take i l)+(t.bytes+0))=m.b+↑s.length+Tr.bytesL (List.take i l)+t.bytes by omega]
    rfl
   ·refine Zf hA (by simp) Y Y Y Y ?_
    rw[List.take_of_length_le (by omega)]
theorem eqv0(m:Mea):eqV [(0,0),(1,0),(2,0)] 0 (.agg [.int .i64 m.b,.int .i64 m.r,.int .i64 m.l]) (.agg [.int .i64 0,.int .i64 0,.int .i64 0])=some (decide (m=.zero)):=by
 rw[Zp3]
 congr 1
 have:(m.b=0/\m.r=0/\m.l=0)↔m=.zero:=by
  cases m;simp[Mea.zero]
 simp only[this]
structure IsEmpty(t:Tr):Prop where
 old:t.old=0
 h:t.h=0
 m:t.m=.zero
 text:t.text=[]
 ks:t.ks=[]
structure IsKept(t:Tr):Prop where
 old:t.old≠0
 text:t.text=[]
 ks:t.ks=[]
structure IsLeaf(t:Tr):Prop where
 old:t.old=0
 h:t.h=0
 m:t.m=.zero
 lo:1<=t.text.length
 hi:t.text.length<=16
 ks:t.ks=[]
structure IsInner(t:Tr):Prop where
 old:t.old=0
 m:t.m=.zero
 text:t.text=[]
 h1:1<=t.h
 h2:t.h<=16
 lo:2<=t.ks.length
 hi:t.ks.length<=4
set_option maxHeartbeats 4000000 in
theorem ZDW(t:Tr)(ht:IsEmpty t)(st:St):S Tb Qn [t.av] st=some (.int .i64 1,st):=by
 obtain⟨o,h,m,s,k⟩:=t;obtain⟨h1,h2,h3,h4,h5⟩:=ht;simp only[Tr.old,Tr.h,Tr.m,Tr.text,Tr.ks]at h1 h2 h3 h4 h5;subst h1 h2 h3 h4
 refine QK Y (fun A hA=>?_)
 cases k with
 | none =>
  repeat'(first|refine ZE ?_|refine ZD ?_|refine ZF Y ?_|refine ZU Y Y ?_|refine ZV Y Y Y Y ?_|refine QB Y ?_|refine Zl Y Y Y Y ?_|refine ZB Y ?_|refine ZC ?_|refine YF Y ?_|(refine cm0 Y Y Y ?_ ?_<;>intro _<;>try omega)|(refine ZAG Y Y (fun _=>?_) (fun _=>?_)<;>try contradiction)|refine ZS Y ?_|refine Zw Y Y Y ?_|refine JA Y Y Y Y ?_|refine Zn Y Y Y ?_|refine ZP ?_|refine ZJ ?_|refine ZL ?_|refine Zb ?_|refine Qk ?_)
  refine Zf hA (by simp) Y Y Y Y ?_
  rfl
 | some l =>
  have:l=[]:=h5
  subst this
  repeat'(first|refine ZE ?_|refine ZD ?_|refine ZF Y ?_|refine ZU Y Y ?_|refine ZV Y Y Y Y ?_|refine QB Y ?_|refine Zl Y Y Y Y ?_|refine ZB Y ?_|refine ZC ?_|refine ZFQ Y Y ?_|(refine cm0 Y Y Y ?_ ?_<;>intro _<;>try omega)|(refine ZAG Y Y (fun _=>?_) (fun _=>?_)<;>try contradiction)|refine ZS Y ?_|refine Zw Y Y Y ?_|refine JA Y Y Y Y ?_|refine Zn Y Y Y ?_|refine ZP ?_|refine ZJ ?_|refine ZL ?_|refine Zb ?_|refine Qk ?_)
  refine Zf hA (by simp) Y Y Y Y ?_
  rfl
set_option maxHeartbeats 4000000 in
theorem ZJs(t:Tr)(ht:IsKept t)(st:St):S Tb Qn [t.av] st=some (.int .i64 2,st):=by
 obtain⟨o,h,m,s,k⟩:=t;obtain⟨h1,h4,h5⟩:=ht;simp only[Tr.old,Tr.h,Tr.m,Tr.text,Tr.ks]at h1 h4 h5;subst h4
 refine QK Y (fun A hA=>?_)
 cases k with
 | none =>
  repeat'(first|refine ZE ?_|refine ZD ?_|refine ZF Y ?_|refine ZU Y Y ?_|refine ZV Y Y Y Y ?_|refine QB Y ?_|refine Q6 Y Y ?_|refine Zl Y Y Y Y ?_|refine ZB Y ?_|refine ZC ?_|refine YF Y ?_|(refine cm0 Y Y Y ?_ ?_<;>intro _<;>try omega)|(refine ZAG Y Y (fun _=>?_) (fun _=>?_)<;>try contradiction)|refine ZS Y ?_|refine ZG Y ?_|refine Zw Y Y Y ?_|refine Zn Y Y Y ?_|(refine ZJn Y Y (eqv0 _) (fun _=>?_) (fun _=>?_))|refine ZP ?_|refine ZJ ?_|refine ZL ?_|refine Zb ?_|refine Qk ?_)
  all_goals refine Zf hA (by simp) Y Y Y Y ?_
  all_goals rfl
 | some l =>
  have:l=[]:=h5
  subst this
  repeat'(first|refine ZE ?_|refine ZD ?_|refine ZF Y ?_|refine ZU Y Y ?_|refine ZV Y Y Y Y ?_|refine QB Y ?_|refine Q6 Y Y ?_|refine Zl Y Y Y Y ?_|refine ZB Y ?_|refine ZC ?_|refine ZFQ Y Y ?_|(refine cm0 Y Y Y ?_ ?_<;>intro _<;>try omega)|(refine ZAG Y Y (fun _=>?_) (fun _=>?_)<;>try contradiction)|refine ZS Y ?_|refine ZG Y ?_|refine Zw Y Y Y ?_|refine Zn Y Y Y ?_|(refine ZJn Y Y (eqv0 _) (fun _=>?_) (fun _=>?_))|refine ZP ?_|refine ZJ ?_|refine ZL ?_|refine Zb ?_|refine Qk ?_)
  all_goals refine Zf hA (by simp) Y Y Y Y ?_
  all_goals rfl
set_option maxHeartbeats 4000000 in
theorem ZJt(t:Tr)(ht:IsLeaf t)(st:St):S Tb Qn [t.av] st=some (.int .i64 3,st):=by
 obtain⟨o,h,m,s,k⟩:=t;obtain⟨h1,h2,h3,h4,h4',h5⟩:=ht;simp only[Tr.old,Tr.h,Tr.m,Tr.text,Tr.ks]at h1 h2 h3 h4 h4' h5;subst h1 h2 h3
 have hs:s≠[]:=fun q=>by rw[q]at h4;simp at h4
 refine QK Y (fun A hA=>?_)
 cases k with
 | none =>
  repeat'(first|refine ZE ?_|refine ZD ?_|refine ZF Y ?_|refine ZU Y Y ?_|refine ZV Y Y Y Y ?_|refine QB Y ?_|refine Q6 Y Y ?_|refine Zl Y Y Y Y ?_|refine ZB Y ?_|refine ZC ?_|refine YY Y ?_|refine YF Y ?_|(refine cm0 Y Y Y ?_ ?_<;>intro _<;>try omega)|(refine ZAG Y Y (fun _=>?_) (fun _=>?_)<;>try contradiction)|refine ZS Y ?_|refine ZG Y ?_|refine Zw Y Y Y ?_|refine JA Y Y Y Y ?_|refine Zn Y Y Y ?_|refine ZP ?_|refine ZJ ?_|refine ZL ?_|refine Zb ?_|refine Qk ?_)
  all_goals try contradiction
  all_goals refine Zf hA (by simp) Y Y Y Y ?_
  all_goals rfl
 | some l =>
  have:l=[]:=h5
  subst this
  repeat'(first|refine ZE ?_|refine ZD ?_|refine ZF Y ?_|refine ZU Y Y ?_|refine ZV Y Y Y Y ?_|refine QB Y ?_|refine Q6 Y Y ?_|refine Zl Y Y Y Y ?_|refine ZB Y ?_|refine ZC ?_|refine YY Y ?_|refine ZFQ Y Y ?_|(refine cm0 Y Y Y ?_ ?_<;>intro _<;>try omega)|(refine ZAG Y Y (fun _=>?_) (fun _=>?_)<;>try contradiction)|refine ZS Y ?_|refine ZG Y ?_|refine Zw Y Y Y ?_|refine JA Y Y Y Y ?_|refine Zn Y Y Y ?_|refine ZP ?_|refine ZJ ?_|refine ZL ?_|refine Zb ?_|refine Qk ?_)
  all_goals try contradiction
  all_goals refine Zf hA (by simp) Y Y Y Y ?_
  all_goals rfl
set_option maxHeartbeats 4000000 in
theorem ZGM(t:Tr)(ht:IsInner t)(st:St):S Tb Qn [t.av] st=some (.int .i64 4,st):=by
 obtain⟨o,h,m,s,k⟩:=t;obtain⟨h1,h2,h3,h4,h4',h5,h5'⟩:=ht;simp only[Tr.old,Tr.h,Tr.m,Tr.text,Tr.ks]at h1 h2 h3 h4 h4' h5 h5';subst h1 h2 h3
 refine QK Y (fun A hA=>?_)
 cases k with
 | none=>simp at h5
 | some l =>
  simp only[Option.getD]at *
  rw[Tr.av,Tr.avO_sl];simp only[slV]
  repeat'(first|refine ZE ?_|refine ZD ?_|refine ZF Y ?_|refine ZU Y Y ?_|refine ZV Y Y Y Y ?_|refine QB Y ?_|refine Q6 Y Y ?_|refine Zl Y Y Y Y ?_|refine ZB Y ?_|refine ZC ?_|refine QL Y ?_|(refine cm0 Y Y Y ?_ ?_<;>intro _<;>try omega)|(refine ZAG Y Y (fun _=>?_) (fun _=>?_)<;>try contradiction)|refine ZS Y ?_|refine ZG Y ?_|refine Zw Y Y Y ?_|refine JA Y Y Y Y ?_|refine Zn Y Y Y ?_|refine ZP ?_|refine ZJ ?_|refine ZL ?_|refine Zb ?_|refine Qk ?_)
  all_goals try contradiction
  all_goals refine Zf hA (by simp) Y Y Y Y ?_
  all_goals rfl
inductive Val (N:ZO):Tr->Prop
 | kept {o h m k x} (h0:o≠0) (hx:lk N o=some x) (hok:NdOk x) (hh:x.h=h) (hm:x.mea=m) (hk:k.getD []=[]):Val N (.mk o h m [] k)
 | leaf {s k} (h1:1<=s.length) (h2:s.length<=16) (hk:k.getD []=[]):Val N (.mk 0 0 .zero s k)
 | inner {h l} (hh:h+1<=16) (h2:2<=l.length) (h4:l.length<=4) (hl:∀t∈l,t.h=h) (hb:∀t∈l,h=0->8<=t.bytes) (hv:∀t∈l,Val N t):Val N (.mk 0 (h+1) .zero [] (some l))
theorem NdOk.mea_pos{x:Nd}(h:NdOk x):1<=x.mea.b/\x.mea.b<=65536:=by
 rcases h with h|⟨n,ks,h⟩
 ·have h1:=h.lo
  have h2:=h.hi;unfold Nd.mea;rw[if_pos h.h];simp only[Yw];omega
 ·have e:=h.eq
  subst e;have hk:=h.kid;have hs:=h.sum;have hlo:=h.lo
  have:Nd.mea ⟨n+1,[],some ks⟩=QI (ks.map Kid.m):=rfl
  rw[this];refine⟨?_,hs⟩
  match ks,hlo,hk with
  | k1::k2::l,_,hk =>
   have h1:=(hk k1 (by simp)).lo
   have h2:=(ZJS (l:=(k2::l).map Kid.m) (fun m hm=>by obtain⟨k,hk1,rfl⟩:=List.mem_map.1 hm;exact (hk k (by simp[List.mem_cons.1 hk1])).fit)).b0
   have hn:=(ZE3 (h:=n) (by have:=h.n15;omega)).1
   simp only[jC,QI,Mea.add]at h2 ⊢;omega
theorem Val.pos{N:ZO}{t:Tr}(h:Val N t):t.Pos/\1<=t.bytes:=by
 induction h with
 | kept h0 hx hok hh hm hk =>
  have:=hok.mea_pos
  refine⟨⟨by rw[<- hm];omega,by rw[hk];decide,by rw[hk];intro t ht;simp at ht⟩,?_⟩
  rw[Tr.bytes,Tr.bytesO_getD,hk,<- hm];simp[Tr.bytesL];omega
 | leaf h1 h2 hk =>
  refine⟨⟨by decide,by rw[hk];decide,by rw[hk];intro t ht;simp at ht⟩,?_⟩
  rw[Tr.bytes,Tr.bytesO_getD,hk];simp[Tr.bytesL,Mea.zero];omega
 | inner hh h2 h4 hl hb hv ih =>
  rename_i h l
  refine⟨⟨by decide,h4,fun t ht=>(ih t ht).1⟩,?_⟩
  rw[Tr.bytes,Tr.bytesO]
  match l,h2,ih with
  | t1::l,_,ih =>
   have h1:=(ih t1 (by simp)).2
   have h2:=Tr.bytesL_nonneg (l:=l) (fun t ht=>by have:=(ih t (by simp[ht])).2;omega)
   simp[Tr.bytesL,Mea.zero];omega
namespace Tr
mutual
def own:Tr->Tr
 | .mk o h m s k=>.mk o h m s (ownO k)
def ownO:Option (List Tr)->Option (List Tr)
 | none=>some []
 | some l=>some (Zp6 l)
def Zp6:List Tr->List Tr
 | []=>[]
 | t::l=>t.own::Zp6 l
end
theorem ownL_map:∀l,Zp6 l=l.map own
 | []=>rfl
 | t::l=>by rw[Zp6,ownL_map l];rfl
end Tr
theorem ZOt(n b:Nat)(st:St)(t:Tr):ZZ (n+2) b st t.av=some (t.av,st):=by
 obtain⟨o,h,m,s,k⟩:=t
 cases k<;>rfl
theorem ZlJ(n b:Nat)(st:St)(l:List Tr):mapSt (ZZ (n+2) b) st (l.map Tr.av)=some (l.map Tr.av,st):=by
 induction l with
 | nil=>rfl
 | cons t l ih=>rw[jC,mapSt,ZOt,oS,ih,oS,XQ]
theorem Zm8{A:List (Bool × List Blk)}{L:List Blk}{ix ver n:Nat}{l:List Tr}{o h b r c:Int}{s:B8}(hg:L[ix]?=some (.arr 7 ver (l.map Tr.av)))(hn:n=l.length):
 ZZ QD A.length ⟨A,false,L⟩ (.agg [.int .u64 o,.int .i64 h,.int .i64 b,.int .i64 r,.int .i64 c,.str s,.ref A.length ix ver 0 n])=some (.agg [.int .u64 o,.int .i64 h,.int .i64 b,.int .i64 r,.int .i64 c,.str s,.lit (l.map Tr.av)],⟨A,false,L.set ix .dead⟩):=by
 subst hn
 have h1:=ZJp (n:=4) (A:=A) (s:=0) (m:=l.length) hg (by simp) (es':=l.map Tr.av) (by rw[List.drop_zero,List.take_of_length_le (by simp)];exact ZlJ 2 0 _ l)
 show (mapSt (keepN (ZZ 5 A.length)) _ _).bind ZKA=_
 simp only[mapSt,keepN,ZAL,jB,if_false,ZZ,oS]at h1 ⊢;rw[h1];simp only[oS,XQ,ZKA]
theorem ZZ0{b lv ix ver q n:Nat}{o h b1 r c:Int}{s:B8}(st:St)(hl:lv<b):
 ZZ QD b st (.agg [.int .u64 o,.int .i64 h,.int .i64 b1,.int .i64 r,.int .i64 c,.str s,.ref lv ix ver q n])=some (.agg [.int .u64 o,.int .i64 h,.int .i64 b1,.int .i64 r,.int .i64 c,.str s,.ref lv ix ver q n],st):=by
 show (mapSt (keepN (ZZ 5 b)) _ _).bind ZKA=_
 simp only[mapSt,keepN,ZAL,jB,if_false,ZZ,oS,if_pos hl,XQ,ZKA]
theorem Zp7{α:Type}{l:List α}{x z:α}{i n:Nat}(hi:i=l.length)(hn:i<n):(l++List.replicate (n-i) z).set i x=l++[x]++List.replicate (n-(i+1)) z:=by
 subst hi
 obtain⟨m,hm⟩:∃m,n-l.length=m+1:=⟨n-l.length-1,by omega⟩
 rw[hm,show n-(l.length+1)=m by omega,List.replicate_succ,List.set_append_right _ _ (Nat.le_refl _)]
 simp
theorem Zq2(t:Tr):t.Pos->∀st,S Tb ZC2 [t.av] st=some (t.own.av,st):=by
 induction t using Tr.ind with
 | step o h m s k ih =>
  intro hp st
  cases hp with
  | mk h0 h4 hk =>
  refine QK Y (fun A hA=>?_)
  rw[Tr.av,Tr.avO_sl]
  cases k with
  | none =>
   simp only[slV,Option.getD]at *
   repeat'(first|refine ZE ?_|refine ZD ?_|refine ZU Y Y ?_|refine ZV Y Y Y Y ?_|refine ZB Y ?_|refine ZC ?_|refine YF Y ?_|(refine cm0 Y Y Y ?_ ?_<;>intro _<;>try omega)|refine ZS Y ?_|refine Zn Y Y Y ?_|refine Zy Y Y Y Y Y Y ?_|refine Zg3 Y Y Y Y Y ?_|refine ZP ?_|refine ZL ?_|refine Zb ?_)
   refine Xz hA (by simp) Y Y Y Y Y ?_
   rfl
  | some l =>
   by_cases hz:l=[]
   ·subst hz
    simp only[slV,List.map_nil]
    repeat'(first|refine ZE ?_|refine ZD ?_|refine ZU Y Y ?_|refine ZV Y Y Y Y ?_|refine ZB Y ?_|refine ZC ?_|refine ZFQ Y Y ?_|(refine cm0 Y Y Y ?_ ?_<;>intro _<;>try omega)|refine ZS Y ?_|refine Zn Y Y Y ?_|refine Zy Y Y Y Y Y Y ?_|refine Zg3 Y Y Y Y Y ?_|refine ZP ?_|refine ZL ?_|refine Zb ?_)
    refine Xz hA (by simp) Y Y Y Y Y ?_
    rfl
   ·have hl : 1 <= l.length := by
     cases l
     ·exact absurd Y hz
     ·simp
    have he:Tr.own (.mk o h m s (some l))=.mk o h m s (some (l.map Tr.own)):=by
     rw[Tr.own,Tr.ownO,Tr.ownL_map]
    rw[he]
    simp only[slV,Option.getD]at *
    repeat'(first|refine ZE ?_|refine ZD ?_|refine ZF Y ?_|refine ZU Y Y ?_|refine ZV Y Y Y Y ?_|refine ZB Y ?_|refine ZC ?_|refine QL Y ?_|(refine cm0 Y Y Y ?_ ?_<;>intro _<;>try omega)|refine ZG Y ?_|refine Zn Y Y Y ?_|refine ZLO Y Y (by omega) (by decide) Y ?_|refine ZI ?_|refine ZJ ?_)
    refine Zt (α:=Nat × List Blk) (fun p=>[(1,.ptr A.length 0 0 0 0),(2,.ptr A.length 1 0 0 0),(3,.ref A.length 2 0 0 l.length),(17,.lit (l.map Tr.av)),(18,.int .i64 l.length),(19,.int .i64 p.1)])
     (fun p=>⟨A,false,.arr 7 0 [.agg [.int .u64 o,.int .i64 h,.int .i64 m.b,.int .i64 m.r,.int .i64 m.l,.str s,.lit (l.map Tr.av)]]::.arr 7 0 [.agg [.int .u64 0,.int .i64 0,.int .i64 0,.int .i64 0,.int .i64 0,.str [],.nils]]::.arr 7 0 (((l.take p.1).map fun t=>t.own.av)++List.replicate (l.length-p.1) (.agg [.int .u64 0,.int .i64 0,.int .i64 0,.int .i64 0,.int .i64 0,.str [],.nils]))::p.2⟩) (fun p=>p.1<=l.length) (fun p=>l.length-p.1) (0,[]) rfl ?_ (by simp) ?_
    ·simp
    rintro⟨i,G⟩ hi
    simp only at hi ⊢
    repeat'(first|refine ZE ?_|refine ZD ?_|refine ZF Y ?_|refine ZU Y Y ?_|refine ZV Y Y Y Y ?_|refine ZB Y ?_|refine ZC ?_|(refine cm0 Y Y Y ?_ ?_<;>intro _<;>try omega)|refine ZS Y ?_|refine ZG Y ?_|refine Z0 Y Y Y ?_|refine JB Y Y Y Y (Jc _ (Nat.lt_succ_self _)) Y ?_|refine JB Y Y Y Y (ZZ0 _ (Nat.lt_succ_self _)) Y ?_|refine YQ Y Y (by omega) Z6 (fun _ _=>?_)|refine QF Y (Zp _) ?_|refine Ql Y Y (Zp _) ?_|refine J9 Y Y Y (QQ _ _ _) (Qx _ _) Y ?_|refine ZI ?_|refine ZP ?_|refine Zo ?_|refine ZJ ?_|refine ZL ?_|refine Zc ?_|refine Za Y ?_|refine Zk ?_)
    ·rename_i t ht
     have ht2:l[i]?=some t:=ht;have h5:=ih t (jM ht2) (hk t (jM ht2))
     have hlen:((l.take i).map fun t=>t.own.av).length=i:=by simp;omega
     repeat'(first|refine ZMr Y Y (by omega) Y ?_|refine ZA Y Y (by first|rfl|(simp only[lE,lN,lC,Zg,ZX,ZY];first|done|rfl)) (h5 _) ?_)
     refine JB (y:=.agg [.int .u64 0,.int .i64 0,.int .i64 0,.int .i64 0,.int .i64 0,.str [],.nils]) Y Y Y ?_ (QQ _ _ _) (Qx _ _) ?_
     ·rw[show 0+(i:Int).toNat=i by omega,List.getElem?_append_right (by omega),hlen,Nat.sub_self,List.getElem?_replicate,if_pos (by omega)]
     repeat'(first|refine ZD ?_|refine ZF Y ?_|refine ZB Y ?_|refine ZC ?_|refine Zj Y Y (by omega) ?_|refine Zz ?_|refine Z7 ?_)
     refine⟨(i+1,G++[.arr 7 0 [t.av]]),⟨rfl,?_⟩,by simp only;omega,by simp only;omega⟩
     have hs:=Zp7 (l:=(l.take i).map fun t=>t.own.av) (x:=t.own.av) (z:=AV.agg [.int .u64 0,.int .i64 0,.int .i64 0,.int .i64 0,.int .i64 0,.str [],.nils]) (i:=i) (n:=l.length) hlen.symm (by omega)
     simp only[ZW ht2,List.map_append,jC,List.map_nil];rw[<- hs]
     rw[show 0+(i:Int).toNat=i by omega]
     rfl
    ·have hi':i=l.length:=by omega
     subst hi';simp only[Nat.sub_self,List.replicate_zero,lN,List.take_length]
     skip
     refine Xz hA (.inr Y) Y Y Y (Zm8 (l:=l.map Tr.own) (by rw[List.map_map];rfl) (by simp)) rfl ?_
     rw[Tr.av,Tr.avO,Tr.avL_map]
theorem NdOk.copy{x:Nd}(h:NdOk x):NdOk x.copy:=by
 rcases h with h|⟨n,ks,h⟩
 ·exact .inl ⟨h.h,h.lo,h.hi,by have:=h.ks;simpa [Nd.copy,Nd.ks] using this⟩
 ·refine .inr ⟨n,ks,⟨?_,h.n15,h.lo,h.hi,h.kid,h.sum⟩⟩
  have:=h.eq
  subst this;rfl
theorem Nd.copy_mea(x:Nd):x.copy.mea=x.mea:=rfl
theorem Nd.copy_h(x:Nd):x.copy.h=x.h:=rfl
theorem Zm9{lv:Nat}{N:ZO}(hr:Rd st lv ix N){o:Nat}{x:Nd}(hx:lk N o=some x)(hok:NdOk x)(h:Int)(hh:(x.h:Int)=h)(m:Mea)(hm:x.mea=m):
 S Tb ZDw [.ptr lv ix 0 0 0,.int .u64 o,.int .i64 h,.agg [.int .i64 m.b,.int .i64 m.r,.int .i64 m.l]] st=some (.int .i64 0,st):=by
 subst hh hm
 refine QK Y (fun A hA=>?_)
 have hG:=fun L=>ZhV (hr.push hA (ro:=false) (L:=L)) hx hok.len
 have hM:=fun st=>ZMJ x.copy hok.copy st
 rw[Nd.copy_mea]at hM;have hc:=Nd.copy_h x
 generalize hy:x.copy=y at *
 generalize hz:x.mea=z at *
 obtain⟨yh,yt,yk⟩:=y
 simp only at hc
 subst hc;obtain⟨zb,zr,zl⟩:=z
 cases yk
 all_goals simp only[Nd.av,slV,Mea.av]at *
 all_goals repeat'(first|refine ZE ?_|refine ZD ?_|refine ZF Y ?_|refine ZU Y Y ?_|refine ZV Y Y Y Y ?_|refine QB Y ?_|refine Zl Y Y Y Y ?_|refine Zr Y Y ?_|refine ZB Y ?_|refine ZC ?_|(refine cm0 Y Y Y ?_ ?_<;>intro _<;>try omega)|refine ZS Y ?_|refine ZG Y ?_|refine Zn Y Y Y ?_|refine Zy Y Y Y Y Y Y ?_|refine ZA Y Y Y (hG _) ?_|refine ZA Y Y Y (hM _) ?_|(refine ZJn Y Y (Zp3 _ _ _ _ _ _) (fun _=>?_) (fun _=>?_))|refine ZI ?_|refine ZP ?_|refine ZL ?_|refine Zb ?_)
 all_goals try omega
 all_goals try contradiction
 all_goals first|(refine Zf hA (by simp) Y Y Y Y ?_;rfl)|skip
theorem Val.kept_kind{N:ZO}{o h:Nat}{m:Mea}{k:Option (List Tr)}(h0:o≠0)(hk:k.getD []=[]):IsKept (.mk o h m [] k):=⟨h0,rfl,hk⟩
theorem Val.bytes_h0{N:ZO}{t:Tr}(hv:Val N t)(h:t.h=0):t.bytes<=65536:=by
 cases hv with
 | kept h0 hx hok hh hm hk =>
  rw[Tr.bytes,Tr.bytesO_getD,hk,<- hm];have:=hok.mea_pos;simp[Tr.bytesL];omega
 | leaf h1 h2 hk=>rw[Tr.bytes,Tr.bytesO_getD,hk];simp[Tr.bytesL,Mea.zero];omega
 | inner hh h2 h4 hl hb hv=>simp[Tr.h]at h
theorem Zp8{N:ZO}{t:Tr}(hv:Val N t):∀ {st:St} {lv ix:Nat} (hr:Rd st lv ix N) (kid:Bool) (hgt:Int) (hk:kid=true->(t.h:Int)=hgt/\(t.h=0->8<=t.bytes)),
 S Tb ZB7 [.ptr lv ix 0 0 0,t.av,.bool kid,.int .i64 hgt] st=some (.int .i64 0,st):=by
 induction hv with
 | kept h0 hx hok hh hm hk =>
  intro st lv ix hr kid hgt hkid
  rename_i o h m k x
  have hv:Val N (.mk o h m [] k):=.kept h0 hx hok hh hm hk
  have hK:=fun st=>ZJs _ (Val.kept_kind (N:=N) (h:=h) (m:=m) h0 hk) st
  have hbb:(Tr.mk o h m [] k).h=0->(Tr.mk o h m [] k).bytes<4611686018427387904:=fun q=>by have:=hv.bytes_h0 q;omega
  have hB:=fun q st=>ZCU _ hv.pos.1 (hbb q) st
  generalize hbt:(Tr.mk o h m [] k).bytes=b at *
  simp only[Tr.h]at hkid hbb hB
  refine QK Y (fun A hA=>?_)
  have hS:=fun L=>Zm9 (hr.push hA (ro:=false) (L:=L)) hx hok h (by rw[hh]) m hm
  have hw:(k.getD []).length=0:=by rw[hk];rfl
  cases kid with
  | false =>
   cases k
   all_goals simp only[Tr.av,Tr.avO,Tr.avL_map,Option.getD]at *
   all_goals repeat'(first|refine ZE ?_|refine ZD ?_|refine ZF Y ?_|refine ZU Y Y ?_|refine ZV Y Y Y Y ?_|refine QB Y ?_|refine Q6 Y Y ?_|refine Zl Y Y Y Y ?_|refine ZB Y ?_|refine ZC ?_|refine QL Y ?_|refine YF Y ?_|(refine cm0 Y Y Y ?_ ?_<;>intro _<;>try omega)|(refine cm0 Y Y Y ?_ ?_<;>intro _<;>try omega)|(refine cm0 Y Y Y ?_ ?_<;>intro _<;>try omega)|refine ZS Y ?_|refine ZG Y ?_|refine Zn Y Y Y ?_|refine ZA Y Y (by first|rfl|(simp only[lE,lN,lC,Zg,ZX,ZY];first|done|rfl)) (hK _) ?_|refine ZA Y Y (by first|rfl|(simp only[lE,lN,lC,Zg,ZX,ZY];first|done|rfl)) (hS _) ?_|refine Yd ?_|refine ZI ?_|refine ZP ?_|refine Zo ?_|refine ZJ ?_|refine ZL ?_|refine Zc ?_|refine Za Y ?_)
   all_goals refine Zf hA (by simp) Y Y Y Y ?_
   all_goals rfl
  | true =>
   obtain⟨ha,hb8⟩:=hkid rfl
   by_cases hz:h=0
   ·have hb8':=hb8 hz
    have hB':=hB hz
    cases k
    all_goals simp only[Tr.av,Tr.avO,Tr.avL_map,Option.getD]at *
    all_goals repeat'(first|refine ZE ?_|refine ZD ?_|refine ZF Y ?_|refine ZU Y Y ?_|refine ZV Y Y Y Y ?_|refine QB Y ?_|refine Zl Y Y Y Y ?_|refine ZB Y ?_|refine ZC ?_|refine QL Y ?_|refine YF Y ?_|(refine cm0 Y Y Y ?_ ?_<;>intro _<;>try omega)|(refine cm0 Y Y Y ?_ ?_<;>intro _<;>try omega)|(refine cm0 Y Y Y ?_ ?_<;>intro _<;>try omega)|refine ZS Y ?_|refine ZG Y ?_|refine Zn Y Y Y ?_|refine ZA Y Y (by first|rfl|(simp only[lE,lN,lC,Zg,ZX,ZY];first|done|rfl)) (hK _) ?_|refine ZA Y Y (by first|rfl|(simp only[lE,lN,lC,Zg,ZX,ZY];first|done|rfl)) (hS _) ?_|refine ZA Y Y (by first|rfl|(simp only[lE,lN,lC,Zg,ZX,ZY];first|done|rfl)) (hB' _) ?_|refine Yd ?_|refine ZI ?_|refine ZP ?_|refine Zo ?_|refine ZJ ?_|refine ZL ?_|refine Zc ?_|refine Za Y ?_)
    all_goals try omega
    all_goals refine Zf hA (by simp) Y Y Y Y ?_
    all_goals rfl
   ·cases k
    all_goals simp only[Tr.av,Tr.avO,Tr.avL_map,Option.getD]at *
    all_goals repeat'(first|refine ZE ?_|refine ZD ?_|refine ZF Y ?_|refine ZU Y Y ?_|refine ZV Y Y Y Y ?_|refine QB Y ?_|refine Q6 Y Y ?_|refine Zl Y Y Y Y ?_|refine ZB Y ?_|refine ZC ?_|refine QL Y ?_|refine YF Y ?_|(refine cm0 Y Y Y ?_ ?_<;>intro _<;>try omega)|(refine cm0 Y Y Y ?_ ?_<;>intro _<;>try omega)|(refine cm0 Y Y Y ?_ ?_<;>intro _<;>try omega)|refine ZS Y ?_|refine ZG Y ?_|refine Zn Y Y Y ?_|refine ZA Y Y (by first|rfl|(simp only[lE,lN,lC,Zg,ZX,ZY];first|done|rfl)) (hK _) ?_|refine ZA Y Y (by first|rfl|(simp only[lE,lN,lC,Zg,ZX,ZY];first|done|rfl)) (hS _) ?_|refine Yd ?_|refine ZI ?_|refine ZP ?_|refine Zo ?_|refine ZJ ?_|refine ZL ?_|refine Zc ?_|refine Za Y ?_)
    all_goals try omega
    all_goals refine Zf hA (by simp) Y Y Y Y ?_
    all_goals rfl
 | leaf h1 h2 hk =>
  intro st lv ix hr kid hgt hkid
  rename_i s k
  have hv:Val N (.mk 0 0 .zero s k):=.leaf h1 h2 hk
  have hK:=fun st=>ZJt (.mk 0 0 .zero s k) ⟨rfl,rfl,rfl,h1,h2,hk⟩ st
  have hB:=fun st=>ZCU _ hv.pos.1 (by have:=hv.bytes_h0 rfl;omega) st
  generalize hbt:(Tr.mk 0 0 .zero s k).bytes=b at *
  simp only[Tr.h]at hkid
  refine QK Y (fun A hA=>?_)
  have hw:(k.getD []).length=0:=by rw[hk];rfl
  cases kid with
  | false =>
   cases k
   all_goals simp only[Tr.av,Tr.avO,Tr.avL_map,Option.getD]at *
   all_goals repeat'(first|refine ZE ?_|refine ZD ?_|refine ZF Y ?_|refine ZU Y Y ?_|refine ZV Y Y Y Y ?_|refine QB Y ?_|refine Q6 Y Y ?_|refine Zl Y Y Y Y ?_|refine ZB Y ?_|refine ZC ?_|refine QL Y ?_|refine YF Y ?_|(refine cm0 Y Y Y ?_ ?_<;>intro _<;>try omega)|(refine cm0 Y Y Y ?_ ?_<;>intro _<;>try omega)|refine ZG Y ?_|refine Zn Y Y Y ?_|refine ZA Y Y (by first|rfl|(simp only[lE,lN,lC,Zg,ZX,ZY];first|done|rfl)) (hK _) ?_|refine Yd ?_|refine ZI ?_|refine ZP ?_|refine Zo ?_|refine ZJ ?_|refine ZL ?_|refine Zc ?_|refine Za Y ?_)
   all_goals refine Zf hA (by simp) Y Y Y Y ?_
   all_goals rfl
  | true =>
   obtain⟨ha,hb8⟩:=hkid rfl;have hb8':=hb8 trivial
   cases k
   all_goals simp only[Tr.av,Tr.avO,Tr.avL_map,Option.getD]at *
   all_goals repeat'(first|refine ZE ?_|refine ZD ?_|refine ZF Y ?_|refine ZU Y Y ?_|refine ZV Y Y Y Y ?_|refine QB Y ?_|refine Zl Y Y Y Y ?_|refine ZB Y ?_|refine ZC ?_|refine QL Y ?_|refine YF Y ?_|(refine cm0 Y Y Y ?_ ?_<;>intro _<;>try omega)|(refine cm0 Y Y Y ?_ ?_<;>intro _<;>try omega)|(refine cm0 Y Y Y ?_ ?_<;>intro _<;>try omega)|refine ZG Y ?_|refine Zn Y Y Y ?_|refine ZA Y Y (by first|rfl|(simp only[lE,lN,lC,Zg,ZX,ZY];first|done|rfl)) (hK _) ?_|refine ZA Y Y (by first|rfl|(simp only[lE,lN,lC,Zg,ZX,ZY];first|done|rfl)) (hB _) ?_|refine Yd ?_|refine ZI ?_|refine ZP ?_|refine Zo ?_|refine ZJ ?_|refine ZL ?_|refine Zc ?_|refine Za Y ?_)
   all_goals try omega
   all_goals refine Zf hA (by simp) Y Y Y Y ?_
   all_goals rfl
 | inner hh h2 h4 hl hb hv ih =>
  intro st lv ix hr kid hgt hkid
  rename_i h l
  have hK:=fun st=>ZGM (.mk 0 (h+1) .zero [] (some l)) ⟨rfl,rfl,rfl,by simp[Tr.h],hh,h2,h4⟩ st
  simp only[Tr.h]at hkid
  refine QK Y (fun A hA=>?_)
  have hkid':kid=true->((h+1:Nat):Int)=hgt:=fun q=>(hkid q).1
  simp only[Tr.av,Tr.avO,Tr.avL_map]at *
  have key:∀k Q (B:Blk) (hb0:B=.arr 7 0 [.agg [.int .u64 (0:Nat),.int .i64 ((h+1:Nat):Int),.int .i64 Mea.zero.b,.int .i64 Mea.zero.r,.int .i64 Mea.zero.l,.str [],.lit (l.map Tr.av)]]),
   (∀G,Rk (S Tb) k Q (.ex 0) [(0,.ptr lv ix 0 0 0),(5,.ptr A.length 0 0 0 0),(56,.lit (l.map Tr.av)),(57,.int .i64 l.length),(58,.int .i64 l.length),(59,.bool false)] ⟨A,false,B::G⟩) ->
   Ru (S Tb) (.loop ZGm) k Q [(0,.ptr lv ix 0 0 0),(5,.ptr A.length 0 0 0 0),(56,.lit (l.map Tr.av)),(57,.int .i64 l.length),(58,.int .i64 0)] ⟨A,false,[B]⟩:=by
   rintro k Q B rfl hex
   refine Zt (α:=Nat × List Blk) (fun p=>[(0,.ptr lv ix 0 0 0),(5,.ptr A.length 0 0 0 0),(56,.lit (l.map Tr.av)),(57,.int .i64 l.length),(58,.int .i64 p.1)])
    (fun p=>⟨A,false,.arr 7 0 [.agg [.int .u64 (0:Nat),.int .i64 ((h+1:Nat):Int),.int .i64 Mea.zero.b,.int .i64 Mea.zero.r,.int .i64 Mea.zero.l,.str [],.lit (l.map Tr.av)]]::p.2⟩) (fun p=>p.1<=l.length) (fun p=>l.length-p.1) (0,[]) rfl rfl (by simp) ?_
   rintro⟨i,G⟩ hi
   simp only at hi ⊢
   repeat'(first|refine ZE ?_|refine ZD ?_|refine ZF Y ?_|refine ZU Y Y ?_|refine ZV Y Y Y Y ?_|refine ZB Y ?_|refine ZC ?_|(refine cm0 Y Y Y ?_ ?_<;>intro _<;>try omega)|refine ZS Y ?_|refine ZG Y ?_|refine YE Y Y (by omega) ?_|refine Z0 Y Y Y ?_|refine YQ Y Y (by omega) Z6 (fun _ _=>?_)|refine QF Y (Zp _) ?_|refine Ql Y Y (Zp _) ?_|refine J9 Y Y Y (QQ _ _ _) (Qx _ _) Y ?_|refine ZI ?_|refine Zo ?_|refine ZJ ?_|refine Zc ?_|refine Zk ?_)
   ·rename_i t ht
    have ht2:l[i]?=some t:=ht;have htm:=jM ht2;have hth:=hl t htm
    have h5:=fun L=>ih t htm (hr.push hA (ro:=false) (L:=L)) true (((h+1:Nat):Int)-1) (fun _=>⟨by rw[hth];omega,fun q=>hb t htm (by omega)⟩)
    repeat'(first|refine ZE ?_|refine ZD ?_|refine ZF Y ?_|refine ZB Y ?_|refine ZC ?_|(refine cm0 Y Y Y ?_ ?_<;>intro _<;>try omega)|refine ZG Y ?_|refine Zj Y Y (by omega) ?_|refine ZA Y Y (by first|rfl|(simp only[lE,lN,lC,Zg,ZX,ZY];first|done|rfl)) (h5 _) ?_|refine ZI ?_|refine Zz ?_|refine Z7 ?_)
    exact⟨(i+1,G++[.arr 7 0 [t.av]]),⟨rfl,rfl⟩,by simp only;omega,by simp only;omega⟩
   ·have:i=l.length:=by omega
    subst this;exact hex G
  cases kid with
  | false =>
   repeat'(first|refine ZE ?_|refine ZD ?_|refine ZF Y ?_|refine ZU Y Y ?_|refine ZV Y Y Y Y ?_|refine QB Y ?_|refine Q6 Y Y ?_|refine Zl Y Y Y Y ?_|refine ZB Y ?_|refine ZC ?_|refine QL Y ?_|(refine cm0 Y Y Y ?_ ?_<;>intro _<;>try omega)|refine ZG Y ?_|refine Zn Y Y Y ?_|refine ZA Y Y Y (hK _) ?_|refine ZI ?_|refine ZJ ?_)
   refine key _ _ _ Y (fun G=>?_)
   repeat'(first|refine ZE ?_|refine ZD ?_|refine ZF Y ?_|refine ZB Y ?_|refine ZC ?_|refine ZP ?_|refine ZL ?_|refine Za Y ?_)
   refine Zf hA (by simp) Y Y Y Y ?_
   rfl
  | true =>
   have ha:=hkid' rfl
   repeat'(first|refine ZE ?_|refine ZD ?_|refine ZF Y ?_|refine ZU Y Y ?_|refine ZV Y Y Y Y ?_|refine QB Y ?_|refine Q6 Y Y ?_|refine Zl Y Y Y Y ?_|refine ZB Y ?_|refine ZC ?_|refine QL Y ?_|(refine cm0 Y Y Y ?_ ?_<;>intro _<;>try omega)|refine ZG Y ?_|refine Zn Y Y Y ?_|refine ZA Y Y Y (hK _) ?_|refine ZI ?_|refine ZJ ?_)
   all_goals try omega
   refine key _ _ _ Y (fun G=>?_)
   repeat'(first|refine ZE ?_|refine ZD ?_|refine ZF Y ?_|refine ZB Y ?_|refine ZC ?_|refine ZP ?_|refine ZL ?_|refine Za Y ?_)
   refine Zf hA (by simp) Y Y Y Y ?_
   rfl
theorem Val.kind{N:ZO}{t:Tr}(hv:Val N t):IsKept t\/IsLeaf t\/IsInner t:=by
 cases hv with
 | kept h0 hx hok hh hm hk=>exact .inl ⟨h0,rfl,hk⟩
 | leaf h1 h2 hk=>exact .inr (.inl ⟨rfl,rfl,rfl,h1,h2,hk⟩)
 | inner hh h2 h4 hl hb hv=>exact .inr (.inr ⟨rfl,rfl,rfl,Nat.succ_le_succ (Nat.zero_le _),hh,h2,h4⟩)
theorem ZR6{lv:Nat}{N:ZO}(hr:Rd st lv ix N){t:Tr}(hv:Val N t)(hb:t.bytes<=65536):S Tb YI [.ptr lv ix 0 0 0,t.av] st=some (.int .i64 0,st):=by
 have hB:=fun st=>ZCU t hv.pos.1 (by omega) st
 have hK:∃k:Int,k≠1/\∀st,S Tb Qn [t.av] st=some (.int .i64 k,st):=by
  rcases hv.kind with h|h|h
  ·exact⟨2,by decide,fun st=>ZJs _ h st⟩
  ·exact⟨3,by decide,fun st=>ZJt _ h st⟩
  ·exact⟨4,by decide,fun st=>ZGM _ h st⟩
 obtain⟨k,hk1,hK⟩:=hK
 refine QK Y (fun A hA=>?_)
 have hC:=fun L=>Zp8 hv (hr.push hA (ro:=false) (L:=L)) false 0 (fun q=>by cases q)
 repeat'(first|refine ZE ?_|refine ZD ?_|refine ZF Y ?_|refine ZB Y ?_|refine ZC ?_|(refine cm0 Y Y Y ?_ ?_<;>intro _<;>try omega)|(refine cm0 Y Y Y ?_ ?_<;>intro _<;>try omega)|(refine cm0 Y Y Y ?_ ?_<;>intro _<;>try omega)|refine ZG Y ?_|refine JA Y Y Y Y ?_|refine Ql Y Y (Zp _) ?_|refine Z0 Y (Z6 _) (QJ _) ?_|refine ZA Y Y (by first|rfl|(simp only[lE,lN,lC,Zg,ZX,ZY];first|done|rfl)) (hK _) ?_|refine ZA Y Y (by first|rfl|(simp only[lE,lN,lC,Zg,ZX,ZY];first|done|rfl)) (hC _) ?_|refine ZA Y Y (by first|rfl|(simp only[lE,lN,lC,Zg,ZX,ZY];first|done|rfl)) (hB _) ?_|refine ZI ?_|refine ZP ?_|refine ZL ?_)
 all_goals try omega
 refine Zf hA (by simp) Y Y Y Y ?_
 rfl
theorem ZSl{lv:Nat}{t:Tr}(ht:IsEmpty t):S Tb YI [.ptr lv ix 0 0 0,t.av] st=some (.int .i64 0,st):=by
 have hK:=fun st=>ZDW t ht st
 refine QK Y (fun A hA=>?_)
 repeat'(first|refine ZE ?_|refine ZD ?_|refine ZF Y ?_|refine ZB Y ?_|refine ZC ?_|(refine cm0 Y Y Y ?_ ?_<;>intro _<;>try omega)|refine ZS Y ?_|refine ZG Y ?_|refine JA Y Y Y Y ?_|refine Ql Y Y (Zp _) ?_|refine Z0 Y (Z6 _) (QJ _) ?_|refine ZA Y Y (by first|rfl|(simp only[lE,lN,lC,Zg,ZX,ZY];first|done|rfl)) (hK _) ?_|refine ZI ?_|refine ZP ?_|refine ZL ?_|refine Zb ?_)
 refine Zf hA (by simp) Y Y Y Y ?_
 rfl
structure Ro where
 at_:Nat
 h:Nat
 m:Mea
deriving DecidableEq
def Ro.zero:Ro:=⟨0,0,.zero⟩
def Ro.av(r:Ro):AV:=.agg [.int .u64 r.at_,.int .i64 r.h,.int .i64 r.m.b,.int .i64 r.m.r,.int .i64 r.m.l]
def Tr.zero:Tr:=.mk 0 0 .zero [] none
def Tr.keep(r:Ro):Tr:=.mk r.at_ r.h r.m [] none
theorem eqv5(r:Ro):eqV [(0,0),(1,0),(2,0),(3,0),(4,0)] 0 r.av (.agg [.int .u64 0,.int .i64 0,.int .i64 0,.int .i64 0,.int .i64 0])=some (decide (r=.zero)):=by
 show (if decide ((r.at_:Int)=0)=true then (if decide ((r.h:Int)=0)=true then (if decide (r.m.b=0)=true then (if decide (r.m.r=0)=true then (if decide (r.m.l=0)=true then some true else some false) else some false) else some false) else some false) else some false)=_
 have:r=.zero↔((r.at_:Int)=0/\(r.h:Int)=0/\r.m.b=0/\r.m.r=0/\r.m.l=0):=by
  obtain⟨a,h,⟨b,c,d⟩⟩:=r
  simp[Ro.zero,Mea.zero]
 by_cases h1:(r.at_:Int)=0<;>by_cases h2:(r.h:Int)=0<;>by_cases h3:r.m.b=0<;>by_cases h4:r.m.r=0<;>by_cases h5:r.m.l=0<;>simp only[this,h1,h2,h3,h4,h5,decide_true,decide_false,if_true,if_false,and_true,and_false,jB]
theorem ZrW{lv:Nat}{N:ZO}(hr:Rd st lv ix N){r:Ro}{x:Nd}(hx:lk N r.at_=some x)(hok:NdOk x)(h0:r.at_≠0)(hh:x.h=r.h)(hm:x.mea=r.m):
 S Tb Yo [.ptr lv ix 0 0 0,r.av] st=some (.tup [(Tr.keep r).av,.int .i64 0],st):=by
 refine QK Y (fun A hA=>?_)
 have hS:=fun L=>Zm9 (hr.push hA (ro:=false) (L:=L)) hx hok r.h (by rw[hh]) r.m hm
 have hq:=eqv5 r
 unfold Ro.av at *
 repeat'(first|refine ZE ?_|refine ZD ?_|refine ZF Y ?_|refine ZU Y Y ?_|refine ZV Y Y Y Y ?_|refine ZB Y ?_|refine ZC ?_|(refine cm0 Y Y Y ?_ ?_<;>intro _<;>try omega)|refine ZS Y ?_|refine ZG Y ?_|refine Zw Y Y Y ?_|refine JA Y Y Y Y ?_|refine Zn Y Y Y ?_|refine Zy Y Y Y Y Y Y ?_|(refine ZJn Y Y hq (fun _=>?_) (fun _=>?_))|refine ZA Y Y Y (hS _) ?_|refine ZI ?_|refine ZP ?_|refine ZL ?_|refine Zb ?_)
 ·rename_i h
  rw[h]at h0;exact absurd Y h0
 ·refine Xz hA (by simp) Y Y Y Y Y ?_
  rfl
theorem ZlK{lv:Nat}:S Tb Yo [.ptr lv ix 0 0 0,Ro.zero.av] st=some (.tup [Tr.zero.av,.int .i64 0],st):=by
 refine QK Y (fun A hA=>?_)
 have hq:=eqv5 .zero
 unfold Ro.av at *
 repeat'(first|refine ZE ?_|refine ZD ?_|refine ZF Y ?_|refine ZV Y Y Y Y ?_|refine ZB Y ?_|refine ZC ?_|refine ZS Y ?_|refine ZG Y ?_|refine Zw Y Y Y ?_|refine JA Y Y Y Y ?_|refine Zn Y Y Y ?_|refine Zy Y Y Y Y Y Y ?_|refine ZI ?_|refine ZP ?_|refine ZL ?_|refine Zb ?_)
 refine Xz hA (by simp) Y Y Y Y Y ?_
 rfl
inductive Sl (st:St):AV->List Tr->Prop
 | lit (l:List Tr):Sl st (.lit (l.map Tr.av)) l
 | ref {lv ix ver s n:Nat} {l:List Tr} {es:LV} (hg:st.get lv ix=some (.arr 7 ver es)) (hn:n=l.length) (hl:s+n<=es.length) (he:(es.drop s).take n=l.map Tr.av):Sl st (.ref lv ix ver s n) l
theorem Sl.push{L:List Blk}{l:List Tr}(hA:A=st.A++[(st.ro,st.L)])(h:Sl st v l):Sl ⟨A,ro,L⟩ v l:=by
 cases h with
 | lit l=>exact .lit l
 | ref hg hn hl he=>exact .ref (ZQ hA hg) hn hl he
theorem Sl.elems{l:List Tr}(h:Sl st v l):elems st v=some (l.map Tr.av):=by
 cases h with
 | lit l=>rfl
 | ref hg hn hl he=>simp only[QAbs.elems,hg,ZDb,true_and,if_pos hl,he]
theorem Sl.get{s:Nat}{l:List Tr}(hn:n=l.length)(he:(es.drop s).take n=l.map Tr.av){t:Tr}(ht:l[i]?=some t):es[s+i]?=some t.av:=by
 have hlt:i<l.length:=(List.getElem?_eq_some_iff.1 ht).1
 have h1:((es.drop s).take n)[i]?=some t.av:=by rw[he,jG,ht];rfl
 rw[List.getElem?_take,if_pos (by omega),List.getElem?_drop]at h1
 exact h1
theorem Sl.weak{l:List Tr}(h:Sl st v l):QAbs.weak v=v:=by cases h<;>rfl
def Tr.hs(l:List Tr):Nat:=match l with
 | []=>0
 | t::_=>t.h
def grp:List Tr->Tr
 | []=>.zero
 | [t]=>t
 | t::l=>.mk 0 (t.h+1) .zero [] (some (t::l))
theorem ZGN{l:List Tr}(h:2<=l.length):grp l=.mk 0 (Tr.hs l+1) .zero [] (some l):=by
 match l,h with
 | a::b::r,_=>rfl
theorem ZJu{L:List Blk}{b:Nat}{t:Tr}(ht:J7 e b=some (.ptr A.length ix ver 0 0))(hg:L[ix]?=some (.arr w ver [t.av])):ZBp ⟨A,false,L⟩ e (.c b true 7)=some t.av:=by
 simp only[ZBp,QM ht,loadP,St.get_cur,hg,vis,ZES,if_true,List.getElem?_cons_zero,oS,Zp]
theorem ZnA{L:List Blk}{x:Ex}{b:Nat}{t:Tr}{u:AV}(hA:A=st.A++[(st.ro,st.L)])(hx:x=.norm\/x=.ret)(ht:J7 e b=some (.ptr A.length ix ver 0 0))(hg:L[ix]?=some (.arr w ver [t.av]))(hu:t.av=u):Qj false [.c b true 7] (x,e,⟨A,false,L⟩)=some (u,st):=by
 subst hu;refine ZEE hA hx ?_ (QQ _ _ _) Y;simp only[QT,ZEC,ZJu ht hg,oS,Option.map_some,ZGd]
theorem ZD5{L:List Blk}{x:Ex}{b c:Nat}{t:Tr}{k:IntKind}{n:Int}{u:AV}(hA:A=st.A++[(st.ro,st.L)])(hx:x=.norm\/x=.ret)(ht:J7 e b=some (.ptr A.length ix ver 0 0))(hg:L[ix]?=some (.arr w ver [t.av]))(hc:J7 e c=some (.int k n))(hu:.tup [t.av,.int k n]=u):Qj false [.c b true 7,.s c] (x,e,⟨A,false,L⟩)=some (u,st):=by
 subst hu;refine ZEE (v:=.tup [t.av,.int k n]) (ro:=false) (L':=L) hA hx ?_ ?_ Y
 ·simp only[QT,ZEC,ZJu ht hg,oS]
  simp only[ZBp,QM hc,oS,Option.map_some,ZGd]
 ·show (mapSt (ZZ 5 A.length) _ _).bind Zd3=_
  rw[mapSt,ZOt 3];rfl
theorem Zj9{l:List Tr}(h:(l.length:Int)=1){t:Tr}(ht:l[0]?=some t):grp l=t:=by
 match l,h with
 | [a],_=>simpa [grp] using ht
theorem ZrX{l:List Tr}{t:Tr}(ht:l[0]?=some t):Tr.hs l=t.h:=by
 match l with
 | a::r=>simp at ht;subst ht;rfl
theorem Xh(t:Tr):JL t.av false 1 1=some (.int .i64 t.h):=by
 obtain⟨o,h,m,s,k⟩:=t
 cases k<;>rfl
section
variable {O:Orc}{k:List Fr}{Q:YD}{e:Env}{A:List (Bool × List Blk)}{L:List Blk}{keep:List Nat}{is:List PI}{d:Nat}
theorem Zi3{st':St}{K:WK}{o:PO}(hv:QC e st o K=some (v,st'))(h:Is O is keep k Q ((d,v)::e) st'):Is O (⟨some d,none,false,.w K o⟩::is) keep k Q e st :=
 Z4 (v:=v) (st':=st') (by simp only[Zi];exact hv) h
theorem ZkA{s x:Opd}{l:List Tr}(hs:Ze e s=some .nils)(hx:Ze e x=some v)(hv:Sl ⟨A,false,L⟩ v l)(hl:l.length<4294967296):
 evalPO e ⟨A,false,L⟩ (.app 7 80 s x)=some (.ref A.length L.length 0 0 l.length,⟨A,false,L++[.arr 7 0 (l.map Tr.av)]⟩):=by
 have hw:=Y2 l
 simp only[evalPO,ZH hs,ZH hx,hv.elems,oS,JQ,List.length_map,hw,and_true,if_pos (show l.length<4294967296/\80<=4096 by omega),St.new_cur,Jp]
theorem Zdb{s x:Opd}{l:List Tr}(hs:Ze e s=some .nils)(hx:Ze e x=some v)(hv:Sl ⟨A,false,L⟩ v l)(hl:l.length<4294967296)(h:Is O is keep k Q ((d,.ref A.length L.length 0 0 l.length)::e) ⟨A,false,L++[.arr 7 0 (l.map Tr.av)]⟩):
 Is O (⟨some d,none,false,.app 7 80 s x⟩::is) keep k Q e ⟨A,false,L⟩ :=
 Z4 (v:=.ref A.length L.length 0 0 l.length) (st':=⟨A,false,L++[Blk.arr 7 0 (l.map Tr.av)]⟩) (by simp only[Zi];exact ZkA hs hx hv hl) h
theorem ZMK{s x:Opd}{l:List Tr}(hs:Ze e s=some .nils)(hx:Ze e x=some v)(hv:Sl ⟨A,false,L⟩ v l)(hl:l.length<4294967296)(h:Is O is keep k Q ((d,.ref A.length L.length 0 0 l.length)::e) ⟨A,false,L++[.arr 7 0 (l.map Tr.av)]⟩):
 Is O (⟨some d,none,false,.w .app0 (.app 7 80 s x)⟩::is) keep k Q e ⟨A,false,L⟩ :=
 Zi3 (by simp only[QC,Zc3,ZH hs,ZAL,if_true];exact ZkA hs hx hv hl) h
theorem ZJv{s x:Opd}{l m:List Tr}(hs:Ze e s=some (.ref A.length ix ver 0 n))(hg:L[ix]?=some (.arr 7 ver (m.map Tr.av)))(hn:n=m.length)(hx:Ze e x=some v)(hv:Sl ⟨A,false,L⟩ v l)(hl:m.length+l.length<4294967296)
 (h:Is O is keep k Q ((d,.ref A.length ix (ver+1) 0 (m++l).length)::e) ⟨A,false,L.set ix (.arr 7 (ver+1) ((m++l).map Tr.av))⟩):Is O (⟨some d,none,false,.app 7 80 s x⟩::is) keep k Q e ⟨A,false,L⟩:=by
 have hlt:ix<L.length:=by
  rw[List.getElem?_eq_some_iff]at hg;exact hg.1
 subst hn;refine Z4 (v:=.ref A.length ix (ver+1) 0 (m++l).length) (st':=⟨A,false,L.set ix (.arr 7 (ver+1) ((m++l).map Tr.av))⟩) ?_ h
 simp only[Zi,evalPO,ZH hs,ZH hx,hv.elems,oS,JQ,Y2,if_true,ZJT,Zd5,St.get_cur,hg,vis,ZLA,true_and,List.length_map,if_pos (show 0+m.length<=m.length/\m.length+l.length<4294967296/\80<=4096 by omega),St.put,if_false,jB,if_pos hlt,List.drop_zero]
 rw[List.take_of_length_le (by simp),List.map_append,lL]
end
theorem ZAK{l:List Tr}(hl:l.length<=65536)(hh:∀t∈l,t.h<=65536)(hv:Sl st v l):S Tb QP [v] st=some ((grp l).av,st):=by
 refine QK Y (fun A hA=>?_)
 have hv2:=fun L=>hv.push hA (ro:=false) (L:=L)
 have fin:∀ {L:List Blk} {e:Env} {h:Int} {u:Tr},l[0]?=some u->2<=l.length->h=u.h+1->J7 e 2=some (.ptr A.length 0 0 0 0)->L=[.arr 7 0 [.agg [.int .u64 0,.int .i64 h,.int .i64 0,.int .i64 0,.int .i64 0,.str [],.ref A.length 1 0 0 l.length]],.arr 7 0 (l.map Tr.av)] ->
  Qj false [.c 2 true 7] (.ret,e,⟨A,false,L⟩)=some ((grp l).av,st):=by
  intro L e h u hu h2 hhu he hL;subst hL hhu
  have hval:=ZEE (e:=e) (res:=[.c 2 true 7]) (x:=.ret) (v:=.agg [.int .u64 0,.int .i64 ((u.h:Int)+1),.int .i64 0,.int .i64 0,.int .i64 0,.str [],.ref A.length 1 0 0 l.length]) hA (.inr rfl) (by
   simp only[QT,ZEC,ZBp,QM he,loadP,St.get_cur,List.getElem?_cons_zero,vis,ZES,if_true,oS]
   rfl) (Zm8 (l:=l) (ix:=1) (L:=[.arr 7 0 [.agg [.int .u64 0,.int .i64 ((u.h:Int)+1),.int .i64 0,.int .i64 0,.int .i64 0,.str [],.ref A.length 1 0 0 l.length]],.arr 7 0 (l.map Tr.av)]) rfl rfl) rfl
  rw[hval,ZGN h2,ZrX hu,Tr.av,Tr.avO,Tr.avL_map];rfl
 cases hv with
 | lit =>
  have hvs:=fun L=>Sl.lit (st:=⟨A,false,L⟩) l
  repeat'(first|refine ZE ?_|refine ZD ?_|refine ZF Y ?_|refine ZU Y Y ?_|refine ZB Y ?_|refine ZC ?_|refine QL Y ?_|(refine cm0 Y Y Y ?_ ?_<;>intro _<;>try omega)|refine ZS Y ?_|refine ZG Y ?_|refine Zw Y Y Y ?_|refine Zn Y Y Y ?_|refine Zy Y Y Y Y Y Y ?_|refine YQ Y Y (by omega) Z6 (fun _ _=>?_)|refine QF Y (Zp _) ?_|refine Zy Y Y Y (QQ _ _ _) (Qx _ _) Y ?_|refine ZI ?_|refine ZP ?_|refine ZJ ?_|refine ZL ?_|refine Zb ?_|refine Zz ?_|refine Qk ?_)
  ·rename_i h
   have:l=[]:=List.length_eq_zero_iff.1 (by omega)
   subst this
   refine Xz hA (by simp) Y Y Y Y Y ?_
   rfl
  ·rename_i h1 t ht
   exact ZnA hA (.inr Y) Y Y (by rw[Zj9 h1 ht])
  ·rename_i h0 h1 t ht
   have hth:=hh t (jM ht);refine QF Y (Xh _) ?_
   repeat'(first|refine ZF Y ?_|refine ZB Y ?_|refine ZC ?_|refine Zj Y Y (by omega) ?_|refine Zw Y Y Y ?_|refine Zy Y Y Y (ZZ0 _ (Nat.lt_succ_self _)) Y Y ?_|refine Zi3 Y ?_|refine ZMK Y Y (hvs _) (by omega) ?_|refine ZP ?_|refine ZL ?_)
   exact fin ht (by omega) Y Y Y
 | @ref lv ix ver s n _ es hg hn hlen he =>
  have hvs:=fun L=>hv2 L
  have hg2:=fun L=>ZQ hA (ro:=false) (L:=L) hg
  have hget:=fun {i} {t}=>Sl.get (i:=i) (t:=t) hn he
  have hwi:∀L,wIs 7 ver (St.get ⟨A,false,L⟩ lv ix)=true:=fun L=>by rw[hg2];simp[wIs]
  repeat'(first|refine ZE ?_|refine ZD ?_|refine ZF Y ?_|refine ZU Y Y ?_|refine ZB Y ?_|refine ZC ?_|refine Qf Y ?_|(refine cm0 Y Y Y ?_ ?_<;>intro _<;>try omega)|refine ZS Y ?_|refine ZG Y ?_|refine Zw Y Y Y ?_|refine Zn Y Y Y ?_|refine Zy Y Y Y Y Y Y ?_|refine YP Y Y (by omega) (hwi _) ?_|refine ZI ?_|refine ZP ?_|refine ZJ ?_|refine ZL ?_|refine Zb ?_|refine Zz ?_|refine Qk ?_)
  ·rename_i h
   have:l=[]:=List.length_eq_zero_iff.1 (by omega)
   subst this
   refine Xz hA (by simp) Y Y Y Y Y ?_
   rfl
  ·rename_i h1
   obtain⟨t,ht⟩:∃t,l[0]?=some t:=⟨l[0]'(by omega),by simp⟩
   refine Z5 Y (hg2 _) (hget ht) (Zp t) ?_
   repeat'(first|refine ZB Y ?_|refine ZC ?_|refine Zy Y Y Y (QQ _ _ _) (Qx _ _) Y ?_|refine ZP ?_|refine ZL ?_|refine Zb ?_|refine Qk ?_)
   exact ZnA hA (.inr Y) Y Y (by rw[Zj9 (by omega) ht])
  ·rename_i h0 h1
   have hnz:l.length≠0:=by omega
   obtain⟨t,ht⟩:∃t,l[0]?=some t:=⟨l[0]'(by omega),by simp⟩
   have hth:=hh t (jM ht)
   skip
   refine Z5 Y (hg2 _) (hget ht) (Xh t) ?_
   repeat'(first|refine ZF Y ?_|refine ZB Y ?_|refine ZC ?_|refine Zj Y Y (by omega) ?_|refine Zw Y Y Y ?_|refine Zy Y Y Y (ZZ0 _ (Nat.lt_succ_self _)) Y Y ?_|refine Zi3 Y ?_|refine ZMK Y Y (hvs _) (by omega) ?_|refine ZP ?_|refine ZL ?_)
   exact fin ht (by omega) Y Y Y
def XN(n g:Int)(i:Nat):Int:=n / g+if (i:Int)<n % g then 1 else 0
theorem ZlL(st:St)(lv ix jx:Nat)(i:Nat)(n g:Int)(hn:st.get lv ix=some (.arr 1 0 [.int .i64 n]))(hg:st.get lv jx=some (.arr 1 0 [.int .i64 g]))(h0:0<=n/\n<4294967296)(h1:0<g):
 S Tb YB [.int .i64 i,.ptr lv ix 0 0 0,.ptr lv jx 0 0 0] st=some (.int .i64 (XN n g i),st):=by
 have q1:n / g<=n:=Int.ediv_le_self g h0.1
 have q2:0<=n / g:=Int.ediv_nonneg h0.1 (by omega)
 refine QK Y (fun A hA=>?_)
 repeat'(first|refine ZE ?_|refine ZD ?_|refine ZF Y ?_|refine ZB Y ?_|refine ZC ?_|(refine cm0 Y Y Y ?_ ?_<;>intro _<;>try omega)|refine ZS Y ?_|refine ZG Y ?_|refine Zj Y Y (by omega) ?_|refine ZMp Y Y (by omega) ?_|refine Zjy Y Y (by omega) ?_|refine Z5 Y (ZQ hA hn) Y Y ?_|refine Z5 Y (ZQ hA hg) Y Y ?_|refine ZI ?_|refine ZP ?_|refine ZL ?_|refine Zb ?_)
 ·refine Zf hA (by simp) Y Y Y Y ?_
  unfold XN;rw[if_pos (by assumption)]
 ·refine Zf hA (by simp) Y Y Y Y ?_
  unfold XN;rw[if_neg (by omega),Int.add_zero]
theorem ZZ1(A)(k Q)(n g:Int)(h0:0<=n/\n<4294967296)(h1:0<g/\g<4294967296)
 (hk:Rk (S Tb) k Q (.ex 0) [(6,.func (.func YB) [] [.ptr A.length 0 0 0 0,.ptr A.length 1 0 0 0]),(7,.ref A.length 2 0 0 g.toNat),(23,.int .i64 g),(24,.int .i64 g),(25,.bool false)]
  ⟨A,false,[.arr 1 0 [.int .i64 n],.arr 1 0 [.int .i64 g],.arr 1 0 ((List.range g.toNat).map fun (i:Nat)=>.int .i64 (XN n g i))]⟩) :
 Ru (S Tb) (.loop ZEx) k Q [(6,.func (.func YB) [] [.ptr A.length 0 0 0 0,.ptr A.length 1 0 0 0]),(7,.ref A.length 2 0 0 g.toNat),(23,.int .i64 g),(24,.int .i64 0)]
  ⟨A,false,[.arr 1 0 [.int .i64 n],.arr 1 0 [.int .i64 g],.arr 1 0 (List.replicate g.toNat (.int .i64 0))]⟩:=by
 refine Zt (α:=Nat) (fun i=>[(6,.func (.func YB) [] [.ptr A.length 0 0 0 0,.ptr A.length 1 0 0 0]),(7,.ref A.length 2 0 0 g.toNat),(23,.int .i64 g),(24,.int .i64 i)])
  (fun i=>⟨A,false,[.arr 1 0 [.int .i64 n],.arr 1 0 [.int .i64 g],.arr 1 0 ((List.range g.toNat).map fun (j:Nat)=>.int .i64 (if j<i then XN n g j else 0))]⟩)
  (fun i=>i<=g.toNat) (fun i=>g.toNat-i) 0 rfl ?_ (Nat.zero_le _) ?_
 ·simp only[Nat.not_lt_zero,if_false,List.map_const',List.length_range]
 intro i hi
 repeat'(first|refine ZE ?_|refine ZD ?_|refine ZF Y ?_|refine ZB Y ?_|refine ZC ?_|(refine cm0 Y Y Y ?_ ?_<;>intro _<;>try omega)|refine ZS Y ?_|refine ZG Y ?_|refine ZI ?_|refine Zo ?_|refine ZJ ?_|refine Zc ?_|refine Zk ?_)
 ·have hl:=ZlL ⟨A,false,[.arr 1 0 [.int .i64 n],.arr 1 0 [.int .i64 g],.arr 1 0 ((List.range g.toNat).map fun (j:Nat)=>.int .i64 (if j<i then XN n g j else 0))]⟩ A.length 0 1 i n g (by rw[St.get_cur];rfl) (by rw[St.get_cur];rfl) h0 h1.1
  refine ZA Y Y Y hl ?_
  refine ZMr Y Y (by omega) Y ?_
  refine Zmt (y:=.int .i64 0) Y Y Y ?_ Y Y Y ?_
  ·rw[jG,List.getElem?_range (by omega)];simp
  repeat'(first|refine ZD ?_|refine ZF Y ?_|refine ZB Y ?_|refine ZC ?_|refine Zj Y Y (by omega) ?_|refine Zz ?_|refine Z7 ?_)
  refine⟨i+1,⟨rfl,?_⟩,by omega,by omega⟩
  congr 1
  congr 1
  congr 1
  congr 1
  congr 1
  apply List.ext_getElem
  ·simp
  ·intro j hj hj'
   simp only[List.getElem_set,List.getElem_map,List.getElem_range];simp only[Nat.zero_add,Int.toNat_natCast]
   by_cases q:i=j
   ·subst q;simp
   ·rw[if_neg q]
    have:j<i+1↔j<i:=by omega
    simp only[this]
 ·have e1:(i:Int)=g:=by omega
  have e2:i=g.toNat:=by omega
  have e3:((List.range g.toNat).map fun (j:Nat)=>AV.int .i64 (if j<i then XN n g j else 0))=(List.range g.toNat).map fun (j:Nat)=>.int .i64 (XN n g j):=by
   apply List.map_congr_left
   intro j hj;rw[List.mem_range]at hj
   rw[if_pos (by omega)]
  rw[e3,e1];exact hk
def Zm(n most:Int):Int:=(n-1) / most+1
def ZBC(n most:Int):List Int:=if n=0 then [] else (List.range (Zm n most).toNat).map fun i=>XN n (Zm n most) i
def ZSm(l:List Int):AV:=.lit (l.map (.int .i64))
theorem Xi{n:Int}(h:1<=n)(h1:1<=most):1<=Zm n most/\Zm n most<=n:=by
 have q1:(n-1) / most<=n-1:=Int.ediv_le_self most (by omega)
 have q2:0<=(n-1) / most:=Int.ediv_nonneg (by omega) (by omega)
 unfold Zm;omega
theorem Zi4{n:Int}(h1:1<=most)(hr:0<n % most):n / most+1=Zm n most:=by
 unfold Zm;have e1:most*(n / most)+n % most=n:=Int.mul_ediv_add_emod n most
 have e2:n % most<most:=Int.emod_lt_of_pos n (by omega)
 have:(n-1) / most=n / most:=by
  rw[show n-1=(n % most-1)+most*(n / most) by omega,Int.add_mul_ediv_left _ _ (by omega),Int.ediv_eq_zero_of_lt (by omega) (by omega)];omega
 omega
theorem Zi5{n:Int}(h1:1<=most)(hr:n % most<=0):n / most=Zm n most:=by
 unfold Zm;have e1:most*(n / most)+n % most=n:=Int.mul_ediv_add_emod n most
 have e2:0<=n % most:=Int.emod_nonneg n (by omega)
 have:(n-1) / most=n / most-1:=by
  rw[show n-1=(most-1)+most*(n / most-1) by rw[Int.mul_sub];omega,Int.add_mul_ediv_left _ _ (by omega),Int.ediv_eq_zero_of_lt (by omega) (by omega)];omega
 omega
theorem ZkB(n most:Int)(st:St)(h0:0<=n/\n<2147483648)(h1:1<=most):S Tb ZBQ [.int .i64 n,.int .i64 most] st=some (ZSm (ZBC n most),st):=by
 have q1:n / most<=n:=Int.ediv_le_self most h0.1
 have q2:0<=n / most:=Int.ediv_nonneg h0.1 (by omega)
 refine QK Y (fun A hA=>?_)
 repeat'(first|refine ZE ?_|refine ZD ?_|refine ZF Y ?_|refine ZV Y Y Y Y ?_|refine ZB Y ?_|refine ZC ?_|(refine cm0 Y Y Y ?_ ?_<;>intro _<;>try omega)|refine ZS Y ?_|refine ZG Y ?_|refine Zj Y Y (by omega) ?_|refine ZMp Y Y (by omega) ?_|refine Zjy Y Y (by omega) ?_|refine ZAP Y Y ?_|refine Zn Y Y Y ?_|refine Zy Y Y Y Y Y Y ?_|refine ZLO Y Y (by omega) (by decide) Y ?_|refine ZI ?_|refine ZP ?_|refine ZJ ?_|refine ZL ?_|refine Zb ?_)
 ·refine Zf hA (by simp) Y Y Y Y ?_
  rename_i hz
  simp[ZBC,hz,ZSm]
 ·rename_i hz hr
  have hp:=Xi (show 1<=n by omega) h1
  rw[Zi4 h1 hr]
  refine ZZ1 A _ _ n (Zm n most) (by omega) (by omega) ?_
  repeat'(first|refine ZE ?_|refine ZD ?_|refine ZF Y ?_|refine ZB Y ?_|refine ZC ?_|refine ZP ?_|refine ZL ?_|refine Za Y ?_)
  refine ZDt hA (by simp) Y Y (by simp) (by first|(simp[imm];done)|exact fun _ h=>absurd h (by simp)) ?_
  unfold ZSm ZBC
  rw[if_neg (by omega)]
  simp[Function.comp_def]
 ·rename_i hz hr
  have hp:=Xi (show 1<=n by omega) h1
  rw[Zi5 h1 hr]
  refine ZZ1 A _ _ n (Zm n most) (by omega) (by omega) ?_
  repeat'(first|refine ZE ?_|refine ZD ?_|refine ZF Y ?_|refine ZB Y ?_|refine ZC ?_|refine ZP ?_|refine ZL ?_|refine Za Y ?_)
  refine ZDt hA (by simp) Y Y (by simp) (by first|(simp[imm];done)|exact fun _ h=>absurd h (by simp)) ?_
  unfold ZSm ZBC
  rw[if_neg (by omega)]
  simp[Function.comp_def]
theorem Zp9(n most:Int)(st:St)(h:0<=n/\n<=65536/\1<=most):S Tb ZFR [.int .i64 n,.int .i64 most] st=some (.tup [ZSm (ZBC n most),.int .i64 0],st):=by
 refine QK Y (fun A hA=>?_)
 repeat'(first|refine ZE ?_|refine ZD ?_|refine ZF Y ?_|refine QB Y ?_|refine Zl Y Y Y Y ?_|refine ZB Y ?_|refine ZC ?_|(refine cm0 Y Y Y ?_ ?_<;>intro _<;>try omega)|refine ZG Y ?_|refine ZA Y Y Y (ZkB n most _ (by omega) (by omega)) ?_|refine ZI ?_|refine ZP ?_|refine ZL ?_)
 all_goals refine Zf hA (by simp) Y Y Y Y ?_
 all_goals rfl
def ZhW(l:List B8):AV:=.lit (l.map .str)
abbrev ZB0(s:B8):Prop:=1<=s.length/\s.length<=16
theorem Zi6(s:B8)(st:St):S Tb ZAm [.str s] st=some (.bool (decide (ZB0 s)),st):=by
 refine QK Y (fun A hA=>?_)
 repeat'(first|refine ZE ?_|refine ZD ?_|refine ZF Y ?_|refine QB Y ?_|refine Q6 Y Y ?_|refine Zl Y Y Y Y ?_|refine ZB Y ?_|refine ZC ?_|refine YY Y ?_|(refine cm0 Y Y Y ?_ ?_<;>intro _<;>try omega)|refine ZP ?_|refine ZL ?_)
 all_goals refine ZBN hA (by simp) Y Y ?_
 all_goals (simp;omega)
noncomputable def Zi7(s:B8)(k:Int):AV :=
 open Classical in
 if ZB0 s then if k<0\/s.length<k then .tup [.str [],.str [],.int .i64 3] else .tup [.str (s.take k.toNat),.str (s.drop k.toNat),.int .i64 0]
 else .tup [.str [],.str [],.int .i64 2]
theorem ZkC{s:B8}{k:Int}(h:ZB0 s)(h1:0<=k/\k<=s.length):.tup [.str (s.take k.toNat),.str (s.drop k.toNat),.int .i64 0]=Zi7 s k:=by
 unfold Zi7;rw[if_pos h,if_neg (by omega)]
theorem Zi8{s:B8}{k:Int}(h:ZB0 s)(h1:k<0\/s.length<k):.tup [.str [],.str [],.int .i64 3]=Zi7 s k:=by
 unfold Zi7;rw[if_pos h,if_pos h1]
theorem ZnB{s:B8}{k:Int}(h:¬ ZB0 s):.tup [.str [],.str [],.int .i64 2]=Zi7 s k:=by
 unfold Zi7;rw[if_neg h]
theorem Zsg(s:B8)(k:Int)(st:St):S Tb ZIE [.str s,.int .i64 k] st=some (Zi7 s k,st):=by
 refine QK Y (fun A hA=>?_)
 repeat'(first|refine ZE ?_|refine ZD ?_|refine ZF Y ?_|refine QB Y ?_|refine Q6 Y Y ?_|refine Zl Y Y Y Y ?_|refine ZB Y ?_|refine ZC ?_|refine YY Y ?_|(refine cm0 Y Y Y ?_ ?_<;>intro _<;>try omega)|refine ZS Y ?_|refine ZG Y ?_|refine JW Y Y ?_|refine ZLJ Y Y (by omega) ?_|refine ZLK Y Y (by omega) ?_|(refine ZWv Y Y Y (Zi6 s _) (fun _=>?_) (fun _=>?_))|refine ZI ?_|refine ZP ?_|refine ZL ?_|refine Zb ?_)
 all_goals refine Zf hA (by simp) Y Y Y Y ?_
 all_goals first|(exact ZkC (by assumption) (by omega))|(exact Zi8 (by assumption) (by omega))|(exact ZnB (by assumption))
noncomputable def ZAC(a b:B8):List B8 :=
 if a.length+b.length<=16 then [a++b]
 else if 8<=a.length/\8<=b.length then [a,b]
 else [(a++b).take ((a.length+b.length+1) / 2),(a++b).drop ((a.length+b.length+1) / 2)]
theorem ZlM{a b:B8}(h:a.length+b.length<=16):ZAC a b=[a++b]:=by unfold ZAC;rw[if_pos h]
theorem ZlN{a b:B8}(h:¬ a.length+b.length<=16)(h1:8<=a.length/\8<=b.length):ZAC a b=[a,b]:=by unfold ZAC;rw[if_neg h,if_pos h1]
theorem Zi9{a b:B8}(h:¬ a.length+b.length<=16)(h1:¬ (8<=a.length/\8<=b.length)):ZAC a b=[(a++b).take ((a.length+b.length+1) / 2),(a++b).drop ((a.length+b.length+1) / 2)]:=by unfold ZAC;rw[if_neg h,if_neg h1]
theorem ZqA(a b:B8):((((a++b).length:Int)+1) / 2).toNat=(a.length+b.length+1) / 2:=by
 rw[lL];omega
theorem ZqB(a b:B8)(st:St)(ha:ZB0 a)(hb:ZB0 b):S Tb ZFU [.str a,.str b] st=some (.tup [ZhW (ZAC a b),.int .i64 0],st):=by
 have hab:((a++b).length:Int)=a.length+b.length:=by rw[lL];omega
 refine QK Y (fun A hA=>?_)
 repeat'(first|refine ZE ?_|refine ZD ?_|refine ZF Y ?_|refine QB Y ?_|refine Q6 Y Y ?_|refine Zl Y Y Y Y ?_|refine ZB Y ?_|refine ZC ?_|refine YY Y ?_|(refine cm0 Y Y Y ?_ ?_<;>intro _<;>try omega)|refine ZS Y ?_|refine ZG Y ?_|refine JW Y Y ?_|refine Zj Y Y (by omega) ?_|refine ZMp Y Y (by omega) ?_|refine ZrQ Y Y (by omega) ?_|refine ZLJ Y Y (by omega) ?_|refine ZLK Y Y (by omega) ?_|refine QX Y Y Y Y ?_|(refine ZWv Y Y Y (Zi6 a _) (fun _=>?_) (fun _=>?_))|(refine ZWv Y Y Y (Zi6 b _) (fun _=>?_) (fun _=>?_))|refine ZI ?_|refine ZP ?_|refine ZL ?_|refine Zb ?_)
 all_goals try contradiction
 all_goals refine Zf hA (by simp) Y Y Y Y ?_
 ·rw[ZlM (by omega)];rfl
 ·rw[ZlN (by omega) (by omega)];rfl
 all_goals rw[Zi9 (by omega) (by omega),ZqA];rfl
def ZDp(n g:Int)(i:Nat):Int:=(i:Int)*(n / g)+min (i:Int) (n % g)
theorem ZE4(n g:Int)(i:Nat):ZDp n g (i+1)=ZDp n g i+XN n g i:=by
 unfold ZDp XN
 have e:((i+1:Nat):Int)*(n / g)=(i:Int)*(n / g)+n / g:=by rw[Int.natCast_add,Int.add_mul];simp
 rw[e]
 split<;>omega
theorem ZJw(n g:Int)(h:0<g):ZDp n g 0=0:=by
 have:=Int.emod_nonneg n (show g≠0 by omega)
 unfold ZDp;simp;omega
theorem ZhX(n:Int)(g:Int)(h:0<g):ZDp n g g.toNat=n:=by
 have h1:=Int.emod_lt_of_pos n h;have h2:=Int.mul_ediv_add_emod n g;unfold ZDp
 rw[Int.toNat_of_nonneg (by omega)];omega
theorem ZAr{n:Int}(h:0<=n)(h1:0<g)(i:Nat):0<=XN n g i:=by
 have:=Int.ediv_nonneg h (show 0<=g by omega)
 unfold XN;split<;>omega
theorem Zdc{n:Int}(h:0<=n)(h1:0<g)(hij:i<=j):ZDp n g i<=ZDp n g j:=by
 induction j with
 | zero=>rw[Nat.le_zero.1 hij];exact Int.le_refl _
 | succ j ih =>
  rcases Nat.lt_or_ge i (j+1) with q|q
  ·have:=ih (by omega)
   have:=ZAr (n:=n) (g:=g) h h1 j
   rw[ZE4];omega
  ·rw[show i=j+1 by omega];exact Int.le_refl _
theorem ZBj{n:Int}(h:0<=n)(h1:0<g)(hi:i<=g.toNat):0<=ZDp n g i/\ZDp n g i<=n:=by
 have a:=Zdc h h1 (Nat.zero_le i);have b:=Zdc h h1 hi;rw[ZJw n g h1]at a;rw[ZhX n g h1]at b;exact⟨a,b⟩
def ZR7(s:B8)(g:Int)(i:Nat):B8:=(s.drop (ZDp s.length g i).toNat).take (XN s.length g i).toNat
def Yx(s:B8):List B8:=if s.length=0 then [] else (List.range (Zm s.length 16).toNat).map (ZR7 s (Zm s.length 16))
theorem ZZ2{n m:Int}(hn:n≠0)(hi:i<(Zm n m).toNat):(ZBC n m)[i]?=some (XN n (Zm n m) i):=by
 unfold ZBC;rw[if_neg hn,jG,List.getElem?_range hi];rfl
theorem ZZ3{n m:Int}(hn:n≠0):(ZBC n m).length=(Zm n m).toNat:=by
 unfold ZBC;rw[if_neg hn];simp
theorem ZhY(m:Int):ZBC 0 m=[]:=by unfold ZBC;simp
theorem ZnC(s:B8)(st:St)(hs:s.length<2147483648):S Tb ZC1 [.str s] st=some (ZhW (Yx s),st):=by
 refine QK Y (fun A hA=>?_)
 repeat'(first|refine ZE ?_|refine ZD ?_|refine ZF Y ?_|refine ZB Y ?_|refine ZC ?_|refine YY Y ?_|refine QL Y ?_|refine ZBM Y ?_|refine ZA Y Y Y (ZkB s.length 16 _ (by omega) (by omega)) ?_|refine ZJ ?_)
 by_cases hz:s.length=0
 ·rw[show ((s.length:Int))=0 by omega]
  refine Zjx (fun _ e st=>e=[(0,.str s),(3,.ref A.length 0 0 0 0),(8,ZSm []),(9,.int .i64 0),(10,.int .i64 0)]/\st=⟨A,false,[.arr 1 0 []]⟩) 0 ?_ ?_
  ·rw[ZhY];exact⟨rfl,rfl⟩
  rintro n e st' ⟨rfl,rfl⟩
  repeat'(first|refine ZE ?_|refine ZD ?_|refine ZF Y ?_|refine ZB Y ?_|refine ZC ?_|(refine cm0 Y Y Y ?_ ?_<;>intro _<;>try omega)|refine ZG Y ?_|refine ZP ?_|refine Zo ?_|refine ZL ?_|refine Zc ?_|refine Za Y ?_|refine Zk ?_)
  refine ZDt hA (by simp) Y Y (by simp) (by first|(simp[imm];done)|exact fun _ h=>absurd h (by simp)) ?_
  unfold Yx;rw[if_pos hz];rfl
 have hp:=Xi (n:=s.length) (most:=16) (by omega) (by omega)
 have hlen:=ZZ3 (n:=s.length) (m:=16) (by omega)
 have hget:=fun i hi=>ZZ2 (n:=s.length) (m:=16) (by omega) (i:=i) hi
 have hpb:=fun (i:Nat) hi=>ZBj (n:=s.length) (g:=Zm s.length 16) (by omega) (by omega) (i:=i) hi
 have hps:=ZE4 s.length (Zm s.length 16)
 have hsn:=ZAr (n:=s.length) (g:=Zm s.length 16) (by omega) (by omega)
 have hp0:=ZJw s.length (Zm s.length 16) (by omega)
 have hL:Yx s=(List.range (Zm s.length 16).toNat).map (ZR7 s (Zm s.length 16)):=by unfold Yx;rw[if_neg hz]
 have hG:∀i,(s.drop (ZDp s.length (Zm s.length 16) i).toNat).take (XN s.length (Zm s.length 16) i).toNat=ZR7 s (Zm s.length 16) i:=fun _=>rfl
 rw[hlen,hL]
 generalize ZBC (s.length:Int) 16=l at *
 generalize Zm (s.length:Int) 16=g at *
 refine Zt (α:=Nat) (fun i=>[(0,.str (s.drop (ZDp s.length g i).toNat)),(3,.ref A.length 0 i 0 i),(8,ZSm l),(9,.int .i64 g.toNat),(10,.int .i64 i)])
  (fun i=>⟨A,false,[.arr 1 i ((List.range i).map fun j=>.str (ZR7 s g j))]⟩)
  (fun i=>i<=g.toNat) (fun i=>g.toNat-i) 0 ?_ rfl (Nat.zero_le _) ?_
 ·rw[hp0];rfl
 intro i hi;have hb:=hpb i hi
 have hdl:(s.drop (ZDp s.length g i).toNat).length=s.length-(ZDp s.length g i).toNat:=List.length_drop ..
 repeat'(first|refine ZE ?_|refine ZD ?_|refine ZF Y ?_|refine ZB Y ?_|refine ZC ?_|refine QF Y Y ?_|refine YQ Y Y (by omega) (fun _=>rfl) (fun _ _=>?_)|(refine cm0 Y Y Y ?_ ?_<;>intro _<;>try omega)|refine ZS Y ?_|refine ZG Y ?_|refine ZI ?_|refine ZP ?_|refine Zo ?_|refine ZJ ?_|refine ZL ?_|refine Zc ?_|refine Za Y ?_|refine Zk ?_)
 ·rename_i hlt x hx
  rw[Int.toNat_natCast,hget i (by omega)]at hx
  have hx':=Option.some.inj hx;subst hx'
  have hb1:=hpb (i+1) (by omega)
  have hsi:=hsn i;rw[hps i]at hb1
  repeat'(first|refine ZD ?_|refine ZF Y ?_|refine ZB Y ?_|refine ZC ?_|refine Zj Y Y (by omega) ?_|refine ZLJ Y Y (by omega) ?_|refine ZLK Y Y (by omega) ?_|refine QX Y Y Y Y ?_|refine ZeW Y Y Y (by first|rfl|(simp;done)|(simp;omega)) (by first|omega|(simp<;>omega)) (by decide) rfl rfl rfl ?_|refine Zz ?_|refine Z7 ?_)
  refine⟨i+1,⟨?_,?_⟩,by omega,by omega⟩
  ·rw[hps i,Int.toNat_add hb.1 hsi,<- List.drop_drop];rfl
  ·rw[List.range_succ,List.map_append,hG];rfl
 ·have hi':i=g.toNat:=by omega
  rw[hi']
  refine ZDt hA (by simp) Y Y (by simp) (by first|(simp[imm];done)|exact fun _ h=>absurd h (by simp)) ?_
  unfold ZhW;rw[List.map_map];rfl
theorem ZjA(n:Nat)(t:Tr):imm (n+2) t.av=true:=by
 obtain⟨o,h,m,s,k⟩:=t
 cases k<;>rfl
theorem ZkD(l:List Tr):∀v,v∈l.map Tr.av->imm (n+2) v=true:=by
 intro v hv;obtain⟨t,_,rfl⟩:=List.mem_map.1 hv;exact ZjA n t
def Qg(N:ZO):Tr->B8
 | .mk o _ _ s _=>if o=0 then s else ((lk N o).map Nd.text).getD []
def Xu(h:Nat)(k:Kid):Tr:=.mk k.at_ h k.m [] none
def childs(N:ZO):Tr->List Tr
 | .mk o _ _ _ k=>if o=0 then k.getD [] else match lk N o with
  | some x=>x.ks.map (Xu (x.h-1))
  | none=>[]
theorem Zfy{lv:Nat}{N:ZO}(hr:Rd st lv ix N){t:Tr}(hv:Val N t):S Tb ZAa [.ptr lv ix 0 0 0,t.av] st=some (.tup [.str (Qg N t),.int .i64 0],st):=by
 refine QK Y (fun A hA=>?_)
 cases hv with
 | kept h0 hx hok hh hm hk =>
  rename_i o h m k x
  have hG:=fun L=>ZhV (hr.push hA (ro:=false) (L:=L)) hx hok.len
  have hl:Qg N (.mk o h m [] k)=x.text:=by simp only[Qg,if_neg h0,hx,Option.map_some,Option.getD_some]
  rw[hl];have hc:x.copy.text=x.text:=rfl;rw[<- hc]
  generalize x.copy=y at *
  obtain⟨yh,yt,yk⟩:=y
  cases k
  all_goals cases yk
  all_goals simp only[Tr.av,Tr.avO,Tr.avL_map,Nd.av,slV]at *
  all_goals repeat'(first|refine ZE ?_|refine ZD ?_|refine ZF Y ?_|refine ZU Y Y ?_|refine ZV Y Y Y Y ?_|refine Zr Y Y ?_|refine ZB Y ?_|refine ZC ?_|(refine cm0 Y Y Y ?_ ?_<;>intro _<;>try omega)|refine ZG Y ?_|refine Zn Y Y Y ?_|refine Zy Y Y Y Y Y Y ?_|refine ZA Y Y (by first|rfl|(simp only[lE,lN,lC,Zg,ZX,ZY];first|done|rfl)) (hG _) ?_|refine ZI ?_|refine ZP ?_|refine ZL ?_)
  all_goals try omega
  all_goals refine Zf hA (by simp) Y Y Y Y ?_
  all_goals rfl
 | leaf h1 h2 hk =>
  rename_i s k
  have hl:Qg N (.mk 0 0 .zero s k)=s:=rfl;rw[hl]
  cases k
  all_goals simp only[Tr.av,Tr.avO,Tr.avL_map]at *
  all_goals repeat'(first|refine ZE ?_|refine ZD ?_|refine ZF Y ?_|refine ZU Y Y ?_|refine ZV Y Y Y Y ?_|refine ZB Y ?_|refine ZC ?_|(refine cm0 Y Y Y ?_ ?_<;>intro _<;>try omega)|refine ZS Y ?_|refine Zn Y Y Y ?_|refine ZP ?_|refine ZL ?_|refine Zb ?_)
  all_goals try omega
  all_goals refine Zf hA (by simp) Y Y Y Y ?_
  all_goals rfl
 | inner hh h2 h4 hl hb hv =>
  rename_i h l
  have hl:Qg N (.mk 0 (h+1) .zero [] (some l))=[]:=rfl;rw[hl]
  simp only[Tr.av,Tr.avO,Tr.avL_map]at *
  repeat'(first|refine ZE ?_|refine ZD ?_|refine ZF Y ?_|refine ZU Y Y ?_|refine ZV Y Y Y Y ?_|refine ZB Y ?_|refine ZC ?_|(refine cm0 Y Y Y ?_ ?_<;>intro _<;>try omega)|refine ZS Y ?_|refine Zn Y Y Y ?_|refine ZP ?_|refine ZL ?_|refine Zb ?_)
  all_goals try omega
  all_goals refine Zf hA (by simp) Y Y Y Y ?_
  all_goals rfl
theorem ZBD{lv:Nat}{N:ZO}(hr:Rd st lv ix N){t:Tr}(hv:Val N t)(hge:1<=t.h):S Tb YA [.ptr lv ix 0 0 0,t.av] st=some (.tup [.lit ((childs N t).map Tr.av),.int .i64 0],st):=by
 refine QK Y (fun A hA=>?_)
 cases hv with
 | kept h0 hx hok hh hm hk =>
  rename_i o h m k x
  have hin:∃n ks,InnerOk x n ks:=by
   rcases hok with q|q
   ·have:=q.h
    simp only[Tr.h]at hge;omega
   ·exact q
  obtain⟨n,ks,hin⟩:=hin;have hx0:=hin.eq;subst hx0
  have hG:=fun L=>ZhV (hr.push hA (ro:=false) (L:=L)) hx hok.len
  have hl:childs N (.mk o h m [] k)=ks.map (Xu n):=by simp only[childs,if_neg h0,hx];rfl
  have hks:=hin.hi;have hks2:=hin.lo;have hn:=hin.n15;rw[hl];simp only[Nd.copy,Nd.ks,Option.getD,Nd.av,slV]at hG
  have key:∀k Q (B0 B1:Blk) (hb1:B1=.arr 3 0 [.agg [.int .i64 ((n+1:Nat):Int),.str [],.lit (ks.map Kid.av)]]),
   (∀G,Rk (S Tb) k Q (.ex 0) [(6,.ptr A.length 1 0 0 0),(8,.ref A.length 2 ks.length 0 ks.length),(27,.lit (ks.map Kid.av)),(28,.int .i64 ks.length),(29,.int .i64 ks.length),(30,.bool false)] ⟨A,false,B0::B1::.arr 7 ks.length ((ks.map (Xu n)).map Tr.av)::G⟩) ->
   Ru (S Tb) (.loop ZDT) k Q [(6,.ptr A.length 1 0 0 0),(8,.ref A.length 2 0 0 0),(27,.lit (ks.map Kid.av)),(28,.int .i64 ks.length),(29,.int .i64 0)] ⟨A,false,[B0,B1,.arr 7 0 []]⟩:=by
   rintro k Q B0 B1 rfl hex
   refine Zt (α:=Nat × List Blk) (fun p=>[(6,.ptr A.length 1 0 0 0),(8,.ref A.length 2 p.1 0 p.1),(27,.lit (ks.map Kid.av)),(28,.int .i64 ks.length),(29,.int .i64 p.1)])
    (fun p=>⟨A,false,B0::.arr 3 0 [.agg [.int .i64 ((n+1:Nat):Int),.str [],.lit (ks.map Kid.av)]]::.arr 7 p.1 ((ks.take p.1).map fun k=>(Xu n k).av)::p.2⟩) (fun p=>p.1<=ks.length) (fun p=>ks.length-p.1) (0,[]) rfl rfl (by simp) ?_
   rintro⟨i,G⟩ hi
   simp only at hi ⊢
   repeat'(first|refine ZE ?_|refine ZD ?_|refine ZF Y ?_|refine ZU Y Y ?_|refine ZV Y Y Y Y ?_|refine ZB Y ?_|refine ZC ?_|refine Ql Y Y Y ?_|refine QF Y Y ?_|refine YQ Y Y (by omega) (fun _=>rfl) (fun _ _=>?_)|(refine cm0 Y Y Y ?_ ?_<;>intro _<;>try omega)|refine ZS Y ?_|refine ZG Y ?_|refine Zj Y Y (by omega) ?_|refine YE Y Y (by omega) ?_|refine Zw Y Y Y ?_|refine Z0 Y Y Y ?_|refine J9 Y Y Y Y Y Y ?_|refine QX Y Y Y Y ?_|refine ZWx Y Y Y (by first|rfl|(simp;done)|(simp;omega)) (by first|omega|(simp<;>omega)) (by decide) rfl rfl ?_|refine ZI ?_|refine Zo ?_|refine ZJ ?_|refine Zc ?_|refine Zz ?_|refine Z7 ?_|refine Zk ?_)
   ·rename_i kd hkd
    have hk2:ks[i]?=some kd:=hkd
    refine⟨(i+1,G++[.arr 4 0 [kd.av]]),⟨rfl,?_⟩,by simp only;omega,by simp only;omega⟩
    simp only[ZW hk2,List.map_append,jC,List.map_nil]
    rw[show ((n+1:Nat):Int)-1=(n:Int) by omega]
    rfl
   ·have hi':i=ks.length:=by omega
    subst hi'
    have:=hex G
    rw[List.map_map]at this;rw[List.take_length];exact this
  cases k
  all_goals simp only[Tr.av,Tr.avO,Tr.avL_map]at *
  all_goals repeat'(first|refine ZE ?_|refine ZD ?_|refine ZF Y ?_|refine ZU Y Y ?_|refine ZV Y Y Y Y ?_|refine Zr Y Y ?_|refine ZB Y ?_|refine ZC ?_|refine QL Y ?_|(refine cm0 Y Y Y ?_ ?_<;>intro _<;>try omega)|(refine cm0 Y Y Y ?_ ?_<;>intro _<;>try omega)|refine ZG Y ?_|refine Zn Y Y Y ?_|refine Zy Y Y Y Y Y Y ?_|refine ZBM Y ?_|refine ZA Y Y (by first|rfl|(simp only[lE,lN,lC,Zg,ZX,ZY];first|done|rfl)) (hG _) ?_|refine ZI ?_|refine ZJ ?_)
  all_goals try omega
  all_goals refine key _ _ _ _ Y (fun G=>?_)
  all_goals repeat'(first|refine ZE ?_|refine ZD ?_|refine ZF Y ?_|refine ZB Y ?_|refine ZC ?_|refine Qf Y ?_|(refine cm0 Y Y Y ?_ ?_<;>intro _<;>try omega)|refine ZG Y ?_|refine ZI ?_|refine ZP ?_|refine ZL ?_|refine Za Y ?_)
  all_goals refine ZH8 hA (.inr Y) Y Y (by simp) (ZkD _) Y Y
 | leaf h1 h2 hk=>simp[Tr.h]at hge
 | inner hh h2 h4 hl hb hv =>
  rename_i h l
  have hl:childs N (.mk 0 (h+1) .zero [] (some l))=l:=rfl;rw[hl]
  simp only[Tr.av,Tr.avO,Tr.avL_map]at *
  repeat'(first|refine ZE ?_|refine ZD ?_|refine ZF Y ?_|refine ZU Y Y ?_|refine ZV Y Y Y Y ?_|refine ZB Y ?_|refine ZC ?_|(refine cm0 Y Y Y ?_ ?_<;>intro _<;>try omega)|refine ZS Y ?_|refine Zn Y Y Y ?_|refine ZP ?_|refine ZL ?_|refine Zb ?_)
  all_goals try omega
  all_goals refine Zf hA (by simp) Y Y Y Y ?_
  all_goals rfl
def J8(s:B8):Tr:=.mk 0 0 .zero s none
noncomputable def leavesM(N:ZO)(x y:Tr):List Tr :=
 if 16<x.bytes+y.bytes/\8<=x.bytes/\8<=y.bytes then [x,y] else (ZAC (Qg N x) (Qg N y)).map J8
theorem Val.line{N:ZO}{t:Tr}(hv:Val N t)(h:t.h=0):((Qg N t).length:Int)=t.bytes/\ZB0 (Qg N t):=by
 cases hv with
 | kept h0 hx hok hh hm hk =>
  rename_i o h m k x
  simp only[Tr.h]at h;subst h
  rcases hok with q|⟨n,ks,q⟩
  ·have hl:Qg N (.mk o 0 m [] k)=x.text:=by simp only[Qg,if_neg h0,hx,Option.map_some,Option.getD_some]
   have h1:=q.lo;have h2:=q.hi;rw[hl,Tr.bytes,Tr.bytesO_getD,hk,<- hm];unfold Nd.mea;rw[if_pos hh];refine⟨?_,h1,h2⟩
   simp[Yw,Tr.bytesL]
  ·have:=q.eq
   subst this
   simp at hh
 | leaf h1 h2 hk =>
  refine⟨?_,h1,h2⟩;rw[Tr.bytes,Tr.bytesO_getD,hk]
  simp[Qg,Tr.bytesL,Mea.zero]
 | inner hh h2 h4 hl hb hv=>simp[Tr.h]at h
theorem ZlO(a b:B8):(ZAC a b).length<=2:=by
 unfold ZAC;split<;>(try split)<;>simp
section
variable {O:Orc}{k:List Fr}{Q:YD}{e:Env}{A:List (Bool × List Blk)}{L:List Blk}{keep:List Nat}{is:List PI}{d:Nat}
abbrev trZ:AV:=.agg [.int .u64 0,.int .i64 0,.int .i64 0,.int .i64 0,.int .i64 0,.str [],.nils]
theorem ZCg{a:Opd}{x:Tr}(ha:Ze e a=some x.av)(h:Is O is keep k Q ((d,.lit ([x].map Tr.av))::e) st):Is O (⟨some d,none,false,.bslice false 7 [trZ] [(0,a)]⟩::is) keep k Q e st:=by
 refine ZeU (r:=(.lit ([x].map Tr.av),st)) (qs:=[(0,x.av)]) (es:=[x].map Tr.av) ?_ ?_ ?_ h
 ·simp only[Jf,ZH ha]
 ·simp only[fillE,Z6,List.length_singleton,Nat.lt_succ_self,and_self,if_true,List.set_cons_zero,jC,List.map_nil]
 ·show (mapSt (ZZ QD 0) st ([x].map Tr.av)).bind Zd2=_
  rw[ZJT];rfl
theorem ZJx{a b:Opd}{x y:Tr}(ha:Ze e a=some x.av)(hb:Ze e b=some y.av)(h:Is O is keep k Q ((d,.lit ([x,y].map Tr.av))::e) st):Is O (⟨some d,none,false,.bslice false 7 [trZ,trZ] [(0,a),(1,b)]⟩::is) keep k Q e st:=by
 refine ZeU (r:=(.lit ([x,y].map Tr.av),st)) (qs:=[(0,x.av),(1,y.av)]) (es:=[x,y].map Tr.av) ?_ ?_ ?_ h
 ·simp only[Jf,ZH ha,ZH hb]
 ·simp only[fillE,Z6,List.length_cons,List.length_nil,List.length_set,true_and]
  rfl
 ·show (mapSt (ZZ QD 0) st ([x,y].map Tr.av)).bind Zd2=_
  rw[ZJT];rfl
end
theorem wk1(t:Tr):ZY (Zg ([]++[t.av]++[]))=some [t.av]:=by
 simp only[lE,lN,Zg,ZX,ZY]
theorem ZnD{lv:Nat}{N:ZO}(hr:Rd st lv ix N){x y:Tr}(hx:Val N x)(hy:Val N y)(h1:x.h=0)(h2:y.h=0):
 S Tb ZEG [.ptr lv ix 0 0 0,x.av,y.av] st=some (.tup [.lit ((leavesM N x y).map Tr.av),.int .i64 0],st):=by
 refine QK Y (fun A hA=>?_)
 have hbx:=hx.bytes_h0 h1;have hby:=hy.bytes_h0 h2;have hpx:=hx.pos.2;have hpy:=hy.pos.2
 have hB1:=fun st=>ZCU x hx.pos.1 (by omega) st
 have hB2:=fun st=>ZCU y hy.pos.1 (by omega) st
 have hL1:=fun L=>Zfy (hr.push hA (ro:=false) (L:=L)) hx
 have hL2:=fun L=>Zfy (hr.push hA (ro:=false) (L:=L)) hy
 have hj:=fun st=>ZqB (Qg N x) (Qg N y) st (hx.line h1).2 (hy.line h2).2
 have hjl:=ZlO (Qg N x) (Qg N y)
 have hm:leavesM N x y=if 16<x.bytes+y.bytes/\8<=x.bytes/\8<=y.bytes then [x,y] else (ZAC (Qg N x) (Qg N y)).map J8:=rfl
 generalize leavesM N x y=r at *
 generalize ZAC (Qg N x) (Qg N y)=j at *
 unfold ZhW at hj
 have key:∀k Q (B0 B1:Blk),
  (∀G,Rk (S Tb) k Q (.ex 0) [(14,.ref A.length 2 j.length 0 j.length),(63,.lit (j.map .str)),(64,.int .i64 j.length),(65,.int .i64 j.length),(66,.bool false)] ⟨A,false,B0::B1::.arr 7 j.length ((j.map J8).map Tr.av)::G⟩) ->
  Ru (S Tb) (.loop ZE0) k Q [(14,.ref A.length 2 0 0 0),(63,.lit (j.map .str)),(64,.int .i64 j.length),(65,.int .i64 0)] ⟨A,false,[B0,B1,.arr 7 0 []]⟩:=by
  rintro k Q B0 B1 hex
  refine Zt (α:=Nat) (fun i=>[(14,.ref A.length 2 i 0 i),(63,.lit (j.map .str)),(64,.int .i64 j.length),(65,.int .i64 i)])
   (fun i=>⟨A,false,[B0,B1,.arr 7 i ((j.take i).map fun s=>(J8 s).av)]⟩) (fun i=>i<=j.length) (fun i=>j.length-i) 0 rfl rfl (by simp) ?_
  rintro i hi
  repeat'(first|refine ZE ?_|refine ZD ?_|refine ZF Y ?_|refine ZB Y ?_|refine ZC ?_|refine QF Y Y ?_|refine YQ Y Y (by omega) (fun _=>rfl) (fun _ _=>?_)|(refine cm0 Y Y Y ?_ ?_<;>intro _<;>try omega)|refine ZS Y ?_|refine ZG Y ?_|refine Zj Y Y (by omega) ?_|refine Zw Y Y Y ?_|refine QX Y Y Y Y ?_|refine ZeW Y Y Y (by first|rfl|(simp;done)|(simp;omega)) (by first|omega|(simp<;>omega)) (by decide) rfl rfl rfl ?_|refine ZI ?_|refine Zo ?_|refine ZJ ?_|refine Zc ?_|refine Zz ?_|refine Z7 ?_|refine Zk ?_)
  ·rename_i s hs
   have hs2:j[i]?=some s:=hs
   refine⟨i+1,⟨rfl,?_⟩,by omega,by omega⟩
   simp only[ZW hs2,List.map_append,jC,List.map_nil];rfl
  ·have hi':i=j.length:=by omega
   subst hi'
   have:=hex []
   rw[List.map_map]at this;rw[List.take_length];exact this
 repeat'(first|refine ZE ?_|refine ZD ?_|refine ZF Y ?_|refine QB Y ?_|refine Q6 Y Y ?_|refine Zl Y Y Y Y ?_|refine Zr Y Y ?_|refine ZB Y ?_|refine ZC ?_|refine QL Y ?_|(refine cm0 Y Y Y ?_ ?_<;>intro _<;>try omega)|(refine cm0 Y Y Y ?_ ?_<;>intro _<;>try omega)|(refine cm0 Y Y Y ?_ ?_<;>intro _<;>try omega)|refine ZS Y ?_|refine ZG Y ?_|refine Zj Y Y (by omega) ?_|refine ZBM Y ?_|refine Ql Y Y (Zp _) ?_|refine ZV Y Y Y (Zp _) ?_|refine Z0 Y (Z6 _) (QJ _) ?_|refine XZ Y Y (wk1 _) (hB1 _) ?_|refine ZA Y Y (by first|rfl|(simp only[lE,lN,lC,Zg,ZX,ZY];first|done|rfl)) (hB2 _) ?_|refine ZA Y Y (by first|rfl|(simp only[lE,lN,lC,Zg,ZX,ZY];first|done|rfl)) (hL1 _) ?_|refine ZA Y Y (by first|rfl|(simp only[lE,lN,lC,Zg,ZX,ZY];first|done|rfl)) (hL2 _) ?_|refine ZA Y Y (by first|rfl|(simp only[lE,lN,lC,Zg,ZX,ZY];first|done|rfl)) (hj _) ?_|refine ZJx Y Y ?_|refine ZI ?_|refine ZP ?_|refine ZJ ?_|refine ZL ?_|refine Zb ?_)
 ·refine Zf hA (by simp) Y Y Y Y ?_
  rw[hm,if_pos ⟨by omega,by omega,by omega⟩]
 all_goals refine key _ _ _ _ (fun G=>?_)
 all_goals repeat'(first|refine ZE ?_|refine ZD ?_|refine ZF Y ?_|refine ZB Y ?_|refine ZC ?_|refine ZP ?_|refine ZL ?_|refine Za Y ?_)
 all_goals refine ZH8 hA (.inr Y) Y Y (by simp) (ZkD _) Y ?_
 all_goals rw[hm,if_neg (by omega)]
def foldM(l:List Tr):List Tr :=
 if l.length<=4 then [grp l] else [grp (l.take ((l.length+1) / 2)),grp (l.drop ((l.length+1) / 2))]
theorem Sl.allRo{l:List Tr}(h:Sl st v l):Sl st.allRo v l:=by
 cases h with
 | lit l=>exact .lit l
 | ref hg hn hl he =>
  refine .ref ?_ hn hl he
  rename_i lv ix ver s n es
  rw[<- hg];unfold St.allRo St.get;simp only[List.length_map]
  split
  ·rfl
  ·rw[jG]
   cases st.A[lv]?<;>rfl
theorem ZnE{l:List Tr}(hl:l.length<=8)(hh:∀t∈l,t.h<=65536)(hv:Sl st v l):S Tb ZDy [v] st=some (.lit ((foldM l).map Tr.av),st):=by
 refine QK Y (fun A hA=>?_)
 have hv2:=fun L=>hv.push hA (ro:=false) (L:=L)
 have hwv:=hv.weak
 have hG:=fun L=>ZAK (by omega) hh (hv2 L)
 have hk:(((l.length:Int)+1) / 2).toNat=(l.length+1) / 2:=by omega
 have h1:∀t∈l.take ((l.length+1) / 2),t.h<=65536:=fun t ht=>hh t (List.mem_of_mem_take ht)
 have h2:∀t∈l.drop ((l.length+1) / 2),t.h<=65536:=fun t ht=>hh t (List.mem_of_mem_drop ht)
 have hr:foldM l=if l.length<=4 then [grp l] else [grp (l.take ((l.length+1) / 2)),grp (l.drop ((l.length+1) / 2))]:=rfl
 generalize foldM l=r at *
 cases hv with
 | lit =>
  have hGa:=fun (L:List Blk)=>ZAK (l:=l.take ((l.length+1) / 2)) (v:=.lit ((l.map Tr.av).take (((l.length:Int)+1) / 2).toNat)) (by rw[List.length_take];omega) h1 (st:=St.allRo ⟨A,false,L⟩) (by rw[hk,<- List.map_take];exact .lit _)
  have hGb:=fun (L:List Blk)=>ZAK (l:=l.drop ((l.length+1) / 2)) (v:=.lit ((l.map Tr.av).drop (((l.length:Int)+1) / 2).toNat)) (by rw[List.length_drop];omega) h2 (st:=⟨A,false,L⟩) (by rw[hk,<- List.map_drop];exact .lit _)
  have hlm:(l.map Tr.av).length=l.length:=by simp
  repeat'(first|refine ZE ?_|refine ZD ?_|refine ZF Y ?_|refine ZB Y ?_|refine ZC ?_|refine QL Y ?_|(refine cm0 Y Y Y ?_ ?_<;>intro _<;>try omega)|refine ZS Y ?_|refine ZG Y ?_|refine Zj Y Y (by omega) ?_|refine ZMp Y Y (by omega) ?_|refine ZA Y Y (by first|rfl|(simp only[lE,lN,lC,Zg,ZX,ZY];first|done|rfl)) (hG _) ?_|refine ZCg Y ?_|refine ZI ?_|refine ZP ?_|refine ZL ?_|refine Zb ?_)
  ·refine Zf hA (by simp) Y Y Y Y ?_
   rw[hr,if_pos (by omega)]
  ·refine ZFL Y Y (by omega) (Y2 _) ?_
   refine XZ Y Y Y (hGa _) ?_
   repeat'(refine ZF Y ?_)
   refine ZLL Y Y (by omega) (Y2 _) ?_
   repeat'(first|refine ZF Y ?_|refine ZB Y ?_|refine ZC ?_|refine ZA Y Y Y (hGb _) ?_|refine ZJx Y Y ?_|refine ZP ?_|refine ZL ?_)
   refine Zf hA (by simp) Y Y Y Y ?_
   rw[hr,if_neg (by omega)]
 | @ref lv ix ver s n _ es hg hn hlen he =>
  subst hn
  have hg2:=fun L=>ZQ hA (ro:=false) (L:=L) hg
  have hwi:∀L,wIs 7 ver (St.get ⟨A,false,L⟩ lv ix)=true:=fun L=>by rw[hg2];simp[wIs]
  have hSa:∀L,Sl ⟨A,false,L⟩ (.ref lv ix ver s (((l.length:Int)+1) / 2).toNat) (l.take ((l.length+1) / 2)):=by
   intro L
   refine .ref (hg2 L) ?_ (by omega) ?_
   ·rw[hk,List.length_take];omega
   ·rw[hk,List.map_take,<- he,List.take_take]
    congr 1;omega
  have hSb:∀L,Sl ⟨A,false,L⟩ (.ref lv ix ver (s+(((l.length:Int)+1) / 2).toNat) (l.length-(((l.length:Int)+1) / 2).toNat)) (l.drop ((l.length+1) / 2)):=by
   intro L
   refine .ref (hg2 L) ?_ (by omega) ?_
   ·rw[hk,List.length_drop]
   ·rw[hk,List.map_drop,<- he,<- List.drop_drop,List.drop_take]
  have hGa:=fun (L:List Blk)=>ZAK (by rw[List.length_take];omega) h1 (hSa L).allRo
  have hGb:=fun (L:List Blk)=>ZAK (by rw[List.length_drop];omega) h2 (hSb L)
  repeat'(first|refine ZE ?_|refine ZD ?_|refine ZF Y ?_|refine ZB Y ?_|refine ZC ?_|refine Qf Y ?_|(refine cm0 Y Y Y ?_ ?_<;>intro _<;>try omega)|refine ZS Y ?_|refine ZG Y ?_|refine Zj Y Y (by omega) ?_|refine ZMp Y Y (by omega) ?_|refine ZA Y Y (by first|rfl|(simp only[lE,lN,lC,Zg,ZX,ZY];first|done|rfl)) (hG _) ?_|refine ZCg Y ?_|refine ZI ?_|refine ZP ?_|refine ZL ?_|refine Zb ?_)
  ·refine Zf hA (by simp) Y Y Y Y ?_
   rw[hr,if_pos (by omega)]
  ·refine ZLM Y Y (by omega) (hwi _) ?_
   refine XZ Y Y Y (hGa _) ?_
   repeat'(refine ZF Y ?_)
   refine ZLN Y Y (by omega) (hwi _) ?_
   repeat'(first|refine ZF Y ?_|refine ZB Y ?_|refine ZC ?_|refine ZA Y Y Y (hGb _) ?_|refine ZJx Y Y ?_|refine ZP ?_|refine ZL ?_)
   refine Zf hA (by simp) Y Y Y Y ?_
   rw[hr,if_neg (by omega)]
def GoodN(N:ZO):Prop:=∀o x,lk N o=some x->NdOk x/\∀k∈x.ks,k.at_≠0/\∃y,lk N k.at_=some y/\y.h+1=x.h/\y.mea=k.m
def Big(t:Tr):Prop:=t.h=0->8<=t.bytes
theorem Jz{N:ZO}(hN:GoodN N){t:Tr}(hv:Val N t)(hh:1<=t.h):
 (∀c∈childs N t,Val N c/\c.h+1=t.h/\Big c)/\2<=(childs N t).length/\(childs N t).length<=4/\Tr.bytesL (childs N t)=t.bytes:=by
 cases hv with
 | kept h0 hx hok hh2 hm hk =>
  rename_i o h m k x
  simp only[Tr.h]at hh
  have hin:∃n ks,InnerOk x n ks:=by
   rcases hok with q|q
   ·have:=q.h;omega
   ·exact q
  obtain⟨n,ks,hin⟩:=hin;have hx0:=hin.eq;subst hx0
  have hl:childs N (.mk o h m [] k)=ks.map (Xu n):=by simp only[childs,if_neg h0,hx];rfl
  have hg:=(hN o _ hx).2;rw[hl]
  have hb:∀l:List Kid,Tr.bytesL (l.map (Xu n))=(QI (l.map Kid.m)).b:=by
   intro l
   induction l with
   | nil=>rfl
   | cons a l ih =>
    rw[jC,Tr.bytesL,ih,jC,QI]
    simp[Xu,Tr.bytes,Tr.bytesO,Mea.add]
  refine⟨?_,by rw[List.length_map];exact hin.lo,by rw[List.length_map];exact hin.hi,?_⟩
  ·intro c hc
   obtain⟨kd,hkd,rfl⟩:=List.mem_map.1 hc;obtain⟨g1,y,g2,g3,g4⟩:=hg kd hkd;have hy:=(hN kd.at_ y g2).1
   refine⟨.kept g1 g2 hy (by simp only at g3;omega) g4 rfl,by simp only at hh2;simp only[Xu,Tr.h];omega,?_⟩
   intro q
   have:=(hin.kid kd hkd).lo
   have h8:=(ZE3 (h:=n) (by have:=hin.n15;omega)).1
   simp[Xu,Tr.bytes,Tr.bytesO];omega
  ·rw[hb,Tr.bytes,Tr.bytesO_getD,hk,<- hm]
   simp[Tr.bytesL,Nd.mea,Nd.ks]
 | leaf h1 h2 hk=>simp[Tr.h]at hh
 | inner hh1 h2 h4 hl hb hv =>
  rename_i h l
  have he:childs N (.mk 0 (h+1) .zero [] (some l))=l:=rfl;rw[he]
  refine⟨fun c hc=>⟨hv c hc,by rw[hl c hc];rfl,fun q=>hb c hc (by rw[<- hl c hc];exact q)⟩,h2,h4,?_⟩
  rw[Tr.bytes,Tr.bytesO];simp[Mea.zero]
theorem Val.size{N:ZO}(hN:GoodN N){t:Tr}(hv:Val N t):Big t->(leastB t.h:Int)<=t.bytes:=by
 induction hv with
 | kept h0 hx hok hh hm hk =>
  rename_i o h m k x
  intro hb
  rcases Nat.eq_zero_or_pos h with q|q
  ·have:=hb q
   simp only[Tr.h,q];exact this
  ·have hv:Val N (.mk o h m [] k):=.kept h0 hx hok hh hm hk
   rcases hok with w|⟨n,ks,w⟩
   ·have:=w.h;omega
   ·have:=w.eq
    subst this;rw[Tr.bytes,Tr.bytesO_getD,hk,<- hm];simp only[Tr.h]
    simp only at hh
    subst hh;have hms:Nd.mea ⟨n+1,[],some ks⟩=QI (ks.map Kid.m):=rfl;rw[hms,ZJQ];have hkid:=w.kid
    match ks,w.lo,hkid with
    | k1::k2::l,_,hkid =>
     have a1:=(hkid k1 (by simp)).lo
     have a2:=(hkid k2 (by simp)).lo
     have a3:=(ZJS (l:=l.map Kid.m) (fun m hm=>by obtain⟨k,hk1,rfl⟩:=List.mem_map.1 hm;exact (hkid k (by simp[hk1])).fit)).b0
     simp only[jC,QI,Mea.add,Tr.bytesL,List.length_nil];omega
 | leaf h1 h2 hk=>intro hb;exact hb Y
 | inner hh h2 h4 hl hb hv ih =>
  rename_i h l
  intro _;rw[Tr.bytes,Tr.bytesO];simp only[Tr.h];rw[ZJQ]
  match l,h2,hl,hb,hv,ih with
  | t1::t2::r,_,hl,hb,hv,ih =>
   have a1:=ih t1 (by simp) (fun q=>hb t1 (by simp) (by rw[<- hl t1 (by simp)];exact q))
   have a2:=ih t2 (by simp) (fun q=>hb t2 (by simp) (by rw[<- hl t2 (by simp)];exact q))
   rw[hl t1 (by simp)]at a1
   rw[hl t2 (by simp)]at a2
   have a3:=Tr.bytesL_nonneg (l:=r) (fun u hu=>(hv u (by simp[hu])).pos.1.nonneg)
   simp only[Tr.bytesL,Mea.zero,List.length_nil];omega
theorem Val.height{N:ZO}(hN:GoodN N){t:Tr}(hv:Val N t)(hb:t.bytes<=65536):t.h<=13:=by
 rcases Nat.lt_or_ge 13 t.h with q|q
 ·have h1:=hv.size hN (fun w=>by omega)
  have h2:leastB 14<=leastB t.h:=by
   unfold leastB
   exact Nat.mul_le_mul_left 8 (Nat.pow_le_pow_right (by decide) q)
  have h3:leastB 14=131072:=by decide
  omega
 ·exact q
theorem Val.h16{N:ZO}{t:Tr}(hv:Val N t):t.h<=16:=by
 cases hv with
 | kept h0 hx hok hh hm hk =>
  rcases hok with q|⟨n,ks,q⟩
  ·have:=q.h;simp only[Tr.h];omega
  ·have:=q.eq;subst this;have:=q.n15;simp only[Tr.h];simp only at hh;omega
 | leaf h1 h2 hk=>simp[Tr.h]
 | inner hh h2 h4 hl hb hv=>exact hh
theorem ZCV{N:ZO}{l:List Tr}{h:Nat}(h1:2<=l.length)(h2:l.length<=4)(hh:h+1<=16)(hl:∀t∈l,Val N t/\t.h=h/\Big t):Val N (grp l)/\(grp l).h=h+1/\(grp l).bytes=Tr.bytesL l:=by
 have he:Tr.hs l=h:=by
  match l,h1 with
  | a::r,_=>exact (hl a (by simp)).2.1
 rw[ZGN h1,he]
 refine⟨.inner hh h1 h2 (fun t ht=>(hl t ht).2.1) (fun t ht q=>(hl t ht).2.2 ((hl t ht).2.1.trans q)) (fun t ht=>(hl t ht).1),rfl,?_⟩
 rw[Tr.bytes,Tr.bytesO];simp[Mea.zero]
def Qb(N:ZO):Nat->Nat->B8
 | 0,o=>((lk N o).map Nd.text).getD []
 | n+1,o=>(((lk N o).map Nd.ks).getD []).flatMap fun k=>Qb N n k.at_
namespace Tr
mutual
def txt(N:ZO):Tr->B8
 | .mk o h _ s k=>(if o=0 then s else Qb N h o)++txtO N k
def txtO(N:ZO):Option (List Tr)->B8
 | none=>[]
 | some l=>txtL N l
def txtL(N:ZO):List Tr->B8
 | []=>[]
 | t::l=>t.txt N++txtL N l
end
theorem txtL_append(N:ZO):∀a b,txtL N (a++b)=txtL N a++txtL N b
 | [],b=>rfl
 | t::a,b=>by rw[lC,txtL,txtL,txtL_append N a b,List.append_assoc]
theorem txtO_getD(N:ZO)(k:Option (List Tr)):txtO N k=txtL N (k.getD []):=by cases k<;>rfl
end Tr
theorem ZJU{N:ZO}{t:Tr}(hv:Val N t)(h:t.h=0):t.txt N=Qg N t:=by
 cases hv with
 | kept h0 hx hok hh hm hk =>
  rename_i o h m k x
  simp only[Tr.h]at h;subst h;rw[Tr.txt,Tr.txtO_getD,hk,if_neg h0];simp only[Tr.txtL,lN,Qb,Qg,if_neg h0]
 | leaf h1 h2 hk=>rw[Tr.txt,Tr.txtO_getD,hk];simp[Tr.txtL,Qg]
 | inner hh h2 h4 hl hb hv=>simp[Tr.h]at h
theorem ZBE{N:ZO}(hN:GoodN N){t:Tr}(hv:Val N t)(h:1<=t.h):t.txt N=Tr.txtL N (childs N t):=by
 cases hv with
 | kept h0 hx hok hh hm hk =>
  rename_i o h' m k x
  simp only[Tr.h]at h
  obtain⟨n,rfl⟩:∃n,h'=n+1:=⟨h'-1,by omega⟩
  have hl:childs N (.mk o (n+1) m [] k)=x.ks.map (Xu n):=by simp only[childs,if_neg h0,hx];rw[hh];rfl
  have hg:=fun k hk=>((hN o x hx).2 k hk).1
  rw[hl,Tr.txt,Tr.txtO_getD,hk,if_neg h0];simp only[Tr.txtL,lN,Qb,hx,Option.map_some,Option.getD_some];generalize x.ks=l at hg
  induction l with
  | nil=>rfl
  | cons a l ih =>
   rw[List.flatMap_cons,jC,Tr.txtL,<- ih (fun k hk=>hg k (by simp[hk]))]
   congr 1
   rw[Xu,Tr.txt,Tr.txtO,if_neg (hg a (by simp)),lN]
 | leaf h1 h2 hk=>simp[Tr.h]at h
 | inner hh h2 h4 hl hb hv =>
  rename_i h' l
  show _=Tr.txtL N l
  rw[Tr.txt,Tr.txtO];rfl
theorem ZCh{N:ZO}(hN:GoodN N):∀n o x,lk N o=some x->x.h=n->Yw (Qb N n o)=x.mea
 | 0,o,x,hx,hh=>by
  unfold Nd.mea;rw[if_pos hh,Qb,hx];rfl
 | n+1,o,x,hx,hh=>by
  have hg:=(hN o x hx).2;unfold Nd.mea
  rw[if_neg (by omega),Qb,hx]
  simp only[Option.map_some,Option.getD_some];generalize x.ks=l at hg
  induction l with
  | nil=>rfl
  | cons a l ih =>
   obtain⟨g1,y,g2,g3,g4⟩:=hg a (by simp)
   rw[List.flatMap_cons,ZSj,ZCh hN n a.at_ y g2 (by omega),ih (fun k hk=>hg k (by simp[hk])),jC,QI,g4]
theorem ZJy{N:ZO}(hN:GoodN N){t:Tr}(hv:Val N t):((t.txt N).length:Int)=t.bytes:=by
 induction hv with
 | kept h0 hx hok hh hm hk =>
  rename_i o h m k x
  have h1:=ZCh hN h o x hx hh;have h2:(Yw (Qb N h o)).b=((Qb N h o).length:Int):=rfl;rw[Tr.txt,Tr.txtO_getD,hk,if_neg h0,Tr.bytes,Tr.bytesO_getD,hk,<- hm,<- h1];simp only[Tr.txtL,lN,Tr.bytesL,List.length_nil,h2];omega
 | leaf h1 h2 hk=>rw[Tr.txt,Tr.txtO_getD,hk,Tr.bytes,Tr.bytesO_getD,hk];simp[Tr.txtL,Tr.bytesL,Mea.zero]
 | inner hh h2 h4 hl hb hv ih =>
  rename_i h l
  rw[Tr.txt,Tr.txtO,Tr.bytes,Tr.bytesO];simp only[if_true,lE,Mea.zero,List.length_nil]
  have:∀l:List Tr,(∀t∈l,((t.txt N).length:Int)=t.bytes)->((Tr.txtL N l).length:Int)=Tr.bytesL l:=by
   intro l
   induction l with
   | nil=>intro _;rfl
   | cons a l ih2 =>
    intro h
    have h1:=h a (by simp)
    have h2:=ih2 (fun t ht=>h t (by simp[ht]))
    rw[Tr.txtL,Tr.bytesL,lL];omega
  have:=this l ih
  omega
theorem ZOu{N:ZO}{s:B8}(h:ZB0 s):Val N (J8 s):=.leaf h.1 h.2 rfl
theorem ZBF(s:B8):(J8 s).bytes=s.length:=by simp[J8,Tr.bytes,Tr.bytesO,Mea.zero]
theorem ZOv(N:ZO)(s:B8):(J8 s).txt N=s:=by simp[J8,Tr.txt,Tr.txtO]
structure MergeOk(N:ZO)(x y:Tr)(r:List Tr):Prop where
 val:∀t∈r,Val N t
 h:∀t∈r,t.h=max x.h y.h
 len:r.length=1\/r.length=2
 bytes:Tr.bytesL r=x.bytes+y.bytes
 txt:Tr.txtL N r=x.txt N++y.txt N
 two:r.length=2->∀t∈r,Big t
 big:Big x\/Big y->∀t∈r,Big t
theorem ZnF{a b:B8}(ha:ZB0 a)(hb:ZB0 b):(∀s∈ZAC a b,ZB0 s)/\((ZAC a b).length=1\/(ZAC a b).length=2)/\(ZAC a b).flatten=a++b /\
 ((ZAC a b).length=2->∀s∈ZAC a b,8<=s.length)/\(8<=a.length\/8<=b.length->∀s∈ZAC a b,8<=s.length):=by
 unfold ZAC ZB0 at *
 split
 ·rename_i h
  refine⟨fun s hs=>?_,.inl Y,by simp,fun h=>by simp at h,fun q s hs=>?_⟩
  ·simp only[List.mem_singleton]at hs;subst hs;rw[lL];omega
  ·simp only[List.mem_singleton]at hs;subst hs;rw[lL];omega
 ·rename_i h
  split
  ·rename_i h2
   refine⟨fun s hs=>?_,.inr Y,by simp,fun _ s hs=>?_,fun q s hs=>?_⟩
   all_goals
    simp only[List.mem_cons,List.not_mem_nil,or_false]at hs
    rcases hs with rfl|rfl<;>omega
  ·rename_i h2
   refine⟨fun s hs=>?_,.inr Y,by simp,fun _ s hs=>?_,fun q s hs=>?_⟩
   all_goals
    simp only[List.mem_cons,List.not_mem_nil,or_false]at hs
    rcases hs with rfl|rfl
    ·rw[List.length_take,lL];omega
    ·rw[List.length_drop,lL];omega
theorem ZjB{N:ZO}{x y:Tr}(hx:Val N x)(hy:Val N y)(h1:x.h=0)(h2:y.h=0):MergeOk N x y (leavesM N x y):=by
 have hlx:=hx.line h1;have hly:=hy.line h2;unfold leavesM
 split
 ·rename_i h
  refine⟨?_,?_,.inr Y,by simp[Tr.bytesL],by simp[Tr.txtL],fun _=>?_,fun _=>?_⟩
  all_goals
   intro t ht;simp only[List.mem_cons,List.not_mem_nil,or_false]at ht
  ·rcases ht with rfl|rfl<;>assumption
  ·rcases ht with rfl|rfl<;>omega
  ·rcases ht with rfl|rfl<;>(intro _;omega)
  ·rcases ht with rfl|rfl<;>(intro _;omega)
 ·obtain⟨j1,j2,j3,j4,j5⟩:=ZnF hlx.2 hly.2
  generalize ZAC (Qg N x) (Qg N y)=j at *
  have hf:∀l:List B8,Tr.bytesL (l.map J8)=(l.flatten.length:Int)/\Tr.txtL N (l.map J8)=l.flatten:=by
   intro l
   induction l with
   | nil=>exact⟨rfl,rfl⟩
   | cons a l ih =>
    rw[jC,Tr.bytesL,Tr.txtL,ih.1,ih.2,ZBF,ZOv,List.flatten_cons,lL]
    exact⟨by omega,rfl⟩
  refine⟨?_,?_,by simpa using j2,?_,?_,?_,?_⟩
  ·intro t ht
   obtain⟨s,hs,rfl⟩:=List.mem_map.1 ht;exact ZOu (j1 s hs)
  ·intro t ht
   obtain⟨s,hs,rfl⟩:=List.mem_map.1 ht;rw[h1,h2];rfl
  ·rw[(hf j).1,j3,lL];omega
  ·rw[(hf j).2,j3,ZJU hx h1,ZJU hy h2]
  ·intro hl t ht
   obtain⟨s,hs,rfl⟩:=List.mem_map.1 ht
   have:=j4 (by simpa using hl) s hs
   intro _;rw[ZBF];omega
  ·intro hb t ht
   obtain⟨s,hs,rfl⟩:=List.mem_map.1 ht
   have := j5 (by rcases hb with hb | hb
                  ·have:=hb h1;omega
                  ·have:=hb h2;omega) s hs
   intro _;rw[ZBF];omega
noncomputable def mergeF(N:ZO):Nat->Tr->Tr->List Tr
 | 0,x,y=>leavesM N x y
 | n+1,x,y =>
  if x.h=y.h then (if (childs N x).length+(childs N y).length<=4 then [grp (childs N x++childs N y)] else [x,y])
  else if y.h<x.h then foldM ((childs N x).take ((childs N x).length-1)++mergeF N n ((childs N x)[(childs N x).length-1]?.getD .zero) y)
  else foldM (mergeF N n x ((childs N y)[0]?.getD .zero)++(childs N y).drop 1)
theorem ZGO(N:ZO){l:List Tr}(h:2<=l.length):(grp l).txt N=Tr.txtL N l:=by
 rw[ZGN h,Tr.txt,Tr.txtO];rfl
theorem ZhZ{N:ZO}{l:List Tr}{h:Nat}(h1:2<=l.length)(h2:l.length<=8)(hh:h+1<=16)(hl:∀t∈l,Val N t/\t.h=h/\Big t):
 (∀t∈foldM l,Val N t/\t.h=h+1)/\((foldM l).length=1\/(foldM l).length=2)/\Tr.bytesL (foldM l)=Tr.bytesL l/\Tr.txtL N (foldM l)=Tr.txtL N l:=by
 unfold foldM
 split
 ·rename_i h4
  obtain⟨a,b,c⟩:=ZCV h1 h4 hh hl
  refine⟨?_,.inl Y,by simp[Tr.bytesL,c],by simp[Tr.txtL,ZGO N h1]⟩
  intro t ht;simp only[List.mem_singleton]at ht;subst ht;exact⟨a,b⟩
 ·rename_i h4
  have e1:(l.take ((l.length+1) / 2)).length=(l.length+1) / 2:=by rw[List.length_take];omega
  have e2:(l.drop ((l.length+1) / 2)).length=l.length-(l.length+1) / 2:=by rw[List.length_drop]
  obtain⟨a1,b1,c1⟩:=ZCV (l:=l.take ((l.length+1) / 2)) (by omega) (by omega) hh (fun t ht=>hl t (List.mem_of_mem_take ht))
  obtain⟨a2,b2,c2⟩:=ZCV (l:=l.drop ((l.length+1) / 2)) (by omega) (by omega) hh (fun t ht=>hl t (List.mem_of_mem_drop ht))
  refine⟨?_,.inr Y,?_,?_⟩
  ·intro t ht
   simp only[List.mem_cons,List.not_mem_nil,or_false]at ht
   rcases ht with rfl|rfl
   ·exact⟨a1,b1⟩
   ·exact⟨a2,b2⟩
  ·conv=>rhs;rw[<- List.take_append_drop ((l.length+1) / 2) l,Tr.bytesL_append]
   simp only[Tr.bytesL,c1,c2];omega
  ·conv=>rhs;rw[<- List.take_append_drop ((l.length+1) / 2) l,Tr.txtL_append]
   simp only[Tr.txtL,ZGO N (show 2<=(l.take ((l.length+1) / 2)).length by omega),ZGO N (show 2<=(l.drop ((l.length+1) / 2)).length by omega),lN]
theorem ZML{α:Type}{l:List α}{z:α}(h:1<=l.length):l=l.take (l.length-1)++[l[l.length-1]?.getD z]:=by
 have hlt:l.length-1<l.length:=by omega
 have e:l[l.length-1]?.getD z=l[l.length-1]:=by rw[jE hlt];rfl
 rw[e]
 conv=>lhs;rw[<- List.take_append_drop (l.length-1) l]
 congr 1
 rw[List.drop_eq_getElem_cons hlt,List.drop_of_length_le (by omega)]
theorem ZjC{α:Type}{l:List α}{z:α}(h:1<=l.length):l=[l[0]?.getD z]++l.drop 1:=by
 match l,h with
 | a::r,_=>rfl
theorem ZZ4{t:Tr}(h:1<=t.h):Big t:=fun q=>by omega
theorem Xv{N:ZO}(hN:GoodN N):∀n x y,Val N x->Val N y->n=x.h+y.h->MergeOk N x y (mergeF N n x y)
 | 0,x,y,hx,hy,hn=>ZjB hx hy (by omega) (by omega)
 | n+1,x,y,hx,hy,hn=>by
  have hx16:=hx.h16;have hy16:=hy.h16;rw[mergeF]
  split
  ·rename_i hxy
   obtain⟨cx1,cx2,cx3,cx4⟩:=Jz hN hx (by omega)
   obtain⟨cy1,cy2,cy3,cy4⟩:=Jz hN hy (by omega)
   split
   ·rename_i h4
    have hl:∀t∈childs N x++childs N y,Val N t/\t.h=x.h-1/\Big t:=by
     intro t ht
     rcases List.mem_append.1 ht with q|q
     ·obtain⟨a,b,c⟩:=cx1 t q;exact⟨a,by omega,c⟩
     ·obtain⟨a,b,c⟩:=cy1 t q;exact⟨a,by omega,c⟩
    obtain⟨a,b,c⟩:=ZCV (l:=childs N x++childs N y) (by rw[lL];omega) (by rw[lL];omega) (show x.h-1+1<=16 by omega) hl
    refine⟨?_,?_,.inl Y,?_,?_,fun q=>by simp at q,?_⟩
    ·intro t ht;simp only[List.mem_singleton]at ht;subst ht;exact a
    ·intro t ht;simp only[List.mem_singleton]at ht;subst ht;omega
    ·simp only[Tr.bytesL,c,Tr.bytesL_append,cx4,cy4];omega
    ·simp only[Tr.txtL,lN]
     rw[ZGO N (by rw[lL];omega),Tr.txtL_append,<- ZBE hN hx (by omega),<- ZBE hN hy (by omega)]
    ·intro _ t ht;simp only[List.mem_singleton]at ht;subst ht;exact ZZ4 (by omega)
   ·refine⟨?_,?_,.inr Y,by simp[Tr.bytesL],by simp[Tr.txtL],?_,?_⟩
    ·intro t ht
     simp only[List.mem_cons,List.not_mem_nil,or_false]at ht
     rcases ht with rfl|rfl<;>assumption
    ·intro t ht
     simp only[List.mem_cons,List.not_mem_nil,or_false]at ht
     rcases ht with rfl|rfl<;>omega
    ·intro _ t ht
     simp only[List.mem_cons,List.not_mem_nil,or_false]at ht
     rcases ht with rfl|rfl<;>exact ZZ4 (by omega)
    ·intro _ t ht
     simp only[List.mem_cons,List.not_mem_nil,or_false]at ht
     rcases ht with rfl|rfl<;>exact ZZ4 (by omega)
  ·split
   ·rename_i hxy hlt
    obtain⟨c1,c2,c3,c4⟩:=Jz hN hx (by omega)
    have ht:=ZBE hN hx (by omega)
    generalize childs N x=l at *
    have hs:=ZML (l:=l) (z:=Tr.zero) (by omega)
    generalize hu:l[l.length-1]?.getD Tr.zero=u at *
    have hum:u∈l:=by rw[hs];simp
    have hlt':(l.take (l.length-1)).length=l.length-1:=by rw[List.length_take];omega
    generalize hq:l.take (l.length-1)=q at *
    obtain⟨u1,u2,u3⟩:=c1 u hum
    have ih:=Xv hN n u y u1 hy (by omega)
    generalize mergeF N n u y=r at *
    have hr:r.length<=2/\1<=r.length:=by rcases ih.len with w|w<;>omega
    have hall:∀t∈q++r,Val N t/\t.h=x.h-1/\Big t:=by
     intro t ht
     rcases List.mem_append.1 ht with w|w
     ·obtain⟨a,b,c⟩:=c1 t (by rw[hs];simp[w]);exact⟨a,by omega,c⟩
     ·exact⟨ih.val t w,by rw[ih.h t w];omega,ih.big (.inl u3) t w⟩
    obtain⟨f1,f2,f3,f4⟩:=ZhZ (l:=q++r) (by rw[lL];omega) (by rw[lL];omega) (show x.h-1+1<=16 by omega) hall
    refine⟨fun t ht=>(f1 t ht).1,fun t ht=>by rw[(f1 t ht).2];omega,f2,?_,?_,fun _ t ht=>ZZ4 (by rw[(f1 t ht).2];omega),fun _ t ht=>ZZ4 (by rw[(f1 t ht).2];omega)⟩
    ·rw[f3,Tr.bytesL_append,ih.bytes,<- c4]
     conv=>rhs;rw[hs,Tr.bytesL_append]
     simp only[Tr.bytesL];omega
    ·rw[f4,Tr.txtL_append,ih.txt,ht]
     conv=>rhs;rw[hs,Tr.txtL_append]
     simp only[Tr.txtL,lN,List.append_assoc]
   ·rename_i hxy hlt
    obtain⟨c1,c2,c3,c4⟩:=Jz hN hy (by omega)
    have ht:=ZBE hN hy (by omega)
    generalize childs N y=l at *
    have hs:=ZjC (l:=l) (z:=Tr.zero) (by omega)
    generalize hu:l[0]?.getD Tr.zero=u at *
    have hum:u∈l:=by rw[hs];simp
    have hlt':(l.drop 1).length=l.length-1:=by rw[List.length_drop]
    generalize hq:l.drop 1=q at *
    obtain⟨u1,u2,u3⟩:=c1 u hum
    have ih:=Xv hN n x u hx u1 (by omega)
    generalize mergeF N n x u=r at *
    have hr:r.length<=2/\1<=r.length:=by rcases ih.len with w|w<;>omega
    have hall:∀t∈r++q,Val N t/\t.h=y.h-1/\Big t:=by
     intro t ht
     rcases List.mem_append.1 ht with w|w
     ·exact⟨ih.val t w,by rw[ih.h t w];omega,ih.big (.inr u3) t w⟩
     ·obtain⟨a,b,c⟩:=c1 t (by rw[hs];simp[w]);exact⟨a,by omega,c⟩
    obtain⟨f1,f2,f3,f4⟩:=ZhZ (l:=r++q) (by rw[lL];omega) (by rw[lL];omega) (show y.h-1+1<=16 by omega) hall
    refine⟨fun t ht=>(f1 t ht).1,fun t ht=>by rw[(f1 t ht).2];omega,f2,?_,?_,fun _ t ht=>ZZ4 (by rw[(f1 t ht).2];omega),fun _ t ht=>ZZ4 (by rw[(f1 t ht).2];omega)⟩
    ·rw[f3,Tr.bytesL_append,ih.bytes,<- c4]
     conv=>rhs;rw[hs,Tr.bytesL_append]
     simp only[Tr.bytesL];omega
    ·rw[f4,Tr.txtL_append,ih.txt,ht]
     conv=>rhs;rw[hs,Tr.txtL_append]
     simp only[Tr.txtL,lN,List.append_assoc]
theorem Sl.cur{L:List Blk}{l:List Tr}(hg:L[ix]?=some (.arr 7 ver (l.map Tr.av)))(hn:n=l.length):Sl ⟨A,ro,L⟩ (.ref A.length ix ver 0 n) l:=by
 refine .ref (es:=l.map Tr.av) (by rw[St.get_cur,hg];rfl) hn (by simp;omega) ?_
 rw[List.drop_zero,List.take_of_length_le (by simp;omega)]
section
variable {O:Orc}{k:List Fr}{Q:YD}{e:Env}{A:List (Bool × List Blk)}{L:List Blk}{keep:List Nat}{is:List PI}{d:Nat}
theorem ZnG{x:Opd}{l:List Tr}(hx:Ze e x=some (.lit (l.map Tr.av)))(hl:1<=l.length)(h:Is O is keep k Q ((d,.lit ((l.drop 1).map Tr.av))::e) st):
 Is O (⟨some d,none,false,.w .blind (.slc 7 x (some (.v (.int .i64 1))) none)⟩::is) keep k Q e st:=by
 refine Zi3 ?_ h
 have hlt:((1:Int)<=((l.map Tr.av).length:Nat)):=by simp;omega
 have ho:ZDc e (some (Opd.v (.int .i64 1)))=some (.int .i64 1):=rfl;have hn:ZDc e none=none:=rfl
 simp only[QC,PO.reads,if_true,evalPO,ZH hx,ho,hn,slcV,Je,oS,if_pos (show (0:Int)<=1/\(1:Int)<=((l.map Tr.av).length:Nat) from ⟨by decide,hlt⟩),Y2,Qd,QU,Int.toNat_one,List.map_drop]
 rw[List.take_of_length_le (by simp)]
end
theorem ZqC{N:ZO}(hN:GoodN N):∀(n:Nat) {st:St} {lv ix:Nat} (hr:Rd st lv ix N) {x y:Tr} (hx:Val N x) (hy:Val N y) (hn:n=x.h+y.h),
 S Tb ZAk [.ptr lv ix 0 0 0,x.av,y.av] st=some (.tup [.lit ((mergeF N n x y).map Tr.av),.int .i64 0],st):=by
 intro n
 induction n with
 | zero =>
  intro st lv ix hr x y hx hy hn
  have h1:x.h=0:=by omega
  have h2:y.h=0:=by omega
  refine QK Y (fun A hA=>?_)
  have hLv:=fun L=>ZnD (hr.push hA (ro:=false) (L:=L)) hx hy h1 h2
  rw[mergeF]
  generalize leavesM N x y=r at *
  repeat'(first|refine ZE ?_|refine ZD ?_|refine ZF Y ?_|refine ZU Y Y ?_|refine QB Y ?_|refine Zl Y Y Y Y ?_|refine Zr Y Y ?_|refine ZB Y ?_|refine ZC ?_|(refine cm0 Y Y Y ?_ ?_<;>intro _<;>try omega)|refine ZS Y ?_|refine Ql Y Y (Zp _) ?_|refine ZV Y Y Y (Zp _) ?_|refine Z0 Y (Z6 _) (QJ _) ?_|refine ZV Y Y Y (Xh _) ?_|refine ZA Y Y (by first|rfl|(simp only[lE,lN,lC,Zg,ZX,ZY];first|done|rfl)) (hLv _) ?_|refine ZP ?_|refine ZL ?_|refine Zb ?_)
  all_goals try omega
  all_goals refine Zf hA (by simp) Y Y Y Y ?_
  all_goals rfl
 | succ n ih =>
  intro st lv ix hr x y hx hy hn;have hx16:=hx.h16;have hy16:=hy.h16
  refine QK Y (fun A hA=>?_)
  rw[mergeF]
  have hrp:=fun L=>hr.push hA (ro:=false) (L:=L)
  rcases Nat.lt_trichotomy x.h y.h with hlt|heq|hgt
  ·rw[if_neg (by omega),if_neg (by omega)]
   obtain⟨c1,c2,c3,c4⟩:=Jz hN hy (by omega)
   have hC:=fun L=>ZBD (hrp L) hy (by omega)
   generalize childs N y=l at *
   have hlt':(l.drop 1).length=l.length-1:=by rw[List.length_drop]
   have hlm:(l.map Tr.av).length=l.length:=by simp
   repeat'(first|refine ZE ?_|refine ZD ?_|refine ZF Y ?_|refine ZU Y Y ?_|refine QB Y ?_|refine Q6 Y Y ?_|refine Zl Y Y Y Y ?_|refine Zr Y Y ?_|refine ZB Y ?_|refine ZC ?_|(refine cm0 Y Y Y ?_ ?_<;>intro _<;>try omega)|(refine cm0 Y Y Y ?_ ?_<;>intro _<;>try omega)|(refine cm0 Y Y Y ?_ ?_<;>intro _<;>try omega)|(refine cm0 Y Y Y ?_ ?_<;>intro _<;>try omega)|refine ZS Y ?_|refine ZG Y ?_|refine YQ Y Y (by omega) Z6 (fun _ _=>?_)|refine QF Y (Zp _) ?_|refine Ql Y Y (Zp _) ?_|refine ZV Y Y Y (Zp _) ?_|refine Z0 Y (Z6 _) (QJ _) ?_|refine ZV Y Y Y (Xh _) ?_|refine ZA Y Y (by first|rfl|(simp only[lE,lN,lC,Zg,ZX,ZY];first|done|rfl)) (hC _) ?_|refine ZI ?_|refine ZJ ?_|refine Zz ?_)
   all_goals try omega
   all_goals
    rename_i u hu
    have hu2:l[0]?=some u:=hu;rw[hu2];obtain⟨u1,u2,u3⟩:=c1 u (jM hu2)
    have hM:=fun L=>ih (hrp L) hx u1 (show n=x.h+u.h by omega)
    have hMo:=Xv hN n x u hx u1 (by omega)
    simp only[Option.getD_some]at hMo ⊢
    generalize mergeF N n x u=r at *
    have hr2:r.length<=2:=by rcases hMo.len with w|w<;>omega
    have hh:∀t∈r++l.drop 1,t.h<=65536:=by
     intro t ht
     rcases List.mem_append.1 ht with q|q
     ·have:=hMo.h t q;omega
     ·have:=(c1 t (List.mem_of_mem_drop q)).2.1;omega
    have hF:=fun {v:AV} {st:St} (hv:Sl st v (r++l.drop 1))=>ZnE (by rw[lL];omega) hh hv
    repeat'(first|refine ZE ?_|refine ZD ?_|refine ZF Y ?_|refine Zr Y Y ?_|refine ZB Y ?_|refine ZC ?_|(refine cm0 Y Y Y ?_ ?_<;>intro _<;>try omega)|refine ZG Y ?_|refine ZA Y Y (by first|rfl|(simp only[lE,lN,lC,Zg,ZX,ZY];first|done|rfl)) (hM _) ?_|refine ZnG Y (by omega) ?_|refine Zi3 Y ?_|refine ZMK Y Y (.lit _) (by omega) ?_|refine ZJv Y Y Y Y (.lit _) (by omega) ?_|refine ZA Y Y (by first|rfl|(simp only[lE,lN,lC,Zg,ZX,ZY];first|done|rfl)) (hF (Sl.cur rfl rfl)) ?_|refine ZI ?_|refine ZP ?_|refine ZL ?_)
    all_goals try omega
    all_goals refine Zf hA (by simp) Y Y Y Y ?_
    all_goals rfl
  ·rw[if_pos heq]
   obtain⟨cx1,cx2,cx3,cx4⟩:=Jz hN hx (by omega)
   obtain⟨cy1,cy2,cy3,cy4⟩:=Jz hN hy (by omega)
   have hCx:=fun L=>ZBD (hrp L) hx (by omega)
   have hCy:=fun L=>ZBD (hrp L) hy (by omega)
   have hhx:∀t∈childs N x++childs N y,t.h<=65536:=by
    intro t ht
    rcases List.mem_append.1 ht with q|q
    ·have:=(cx1 t q).2.1;omega
    ·have:=(cy1 t q).2.1;omega
   generalize childs N x=kx at *
   generalize childs N y=ky at *
   have hGr:=fun {v:AV} {st:St} (hv:Sl st v (kx++ky))=>ZAK (by rw[lL];omega) hhx hv
   repeat'(first|refine ZE ?_|refine ZD ?_|refine ZF Y ?_|refine ZU Y Y ?_|refine QB Y ?_|refine Q6 Y Y ?_|refine Zl Y Y Y Y ?_|refine Zr Y Y ?_|refine ZB Y ?_|refine ZC ?_|refine QL Y ?_|(refine cm0 Y Y Y ?_ ?_<;>intro _<;>try omega)|(refine cm0 Y Y Y ?_ ?_<;>intro _<;>try omega)|(refine cm0 Y Y Y ?_ ?_<;>intro _<;>try omega)|(refine cm0 Y Y Y ?_ ?_<;>intro _<;>try omega)|refine ZS Y ?_|refine ZG Y ?_|refine Zj Y Y (by omega) ?_|refine QX Y Y Y Y ?_|refine Ql Y Y (Zp _) ?_|refine ZV Y Y Y (Zp _) ?_|refine Z0 Y (Z6 _) (QJ _) ?_|refine ZV Y Y Y (Xh _) ?_|refine ZA Y Y (by first|rfl|(simp only[lE,lN,lC,Zg,ZX,ZY];first|done|rfl)) (hCx _) ?_|refine ZA Y Y (by first|rfl|(simp only[lE,lN,lC,Zg,ZX,ZY];first|done|rfl)) (hCy _) ?_|refine Zdb Y Y (.lit _) (by omega) ?_|refine ZJv Y Y Y Y (.lit _) (by omega) ?_|refine ZA Y Y (by first|rfl|(simp only[lE,lN,lC,Zg,ZX,ZY];first|done|rfl)) (hGr (Sl.cur rfl rfl)) ?_|refine ZCg Y ?_|refine ZJx Y Y ?_|refine ZI ?_|refine ZP ?_|refine ZJ ?_|refine ZL ?_|refine Zb ?_|refine Qk ?_)
   all_goals try omega
   all_goals refine Zf hA (by simp) Y Y Y Y ?_
   ·rw[if_pos (by omega)]
   ·rw[if_neg (by omega)]
  ·rw[if_neg (by omega),if_pos hgt]
   obtain⟨c1,c2,c3,c4⟩:=Jz hN hx (by omega)
   have hC:=fun L=>ZBD (hrp L) hx (by omega)
   generalize childs N x=l at *
   have hs:=ZML (l:=l) (z:=Tr.zero) (by omega)
   have hlt':(l.take (l.length-1)).length=l.length-1:=by rw[List.length_take];omega
   have hSl:∀L,Sl ⟨A,false,L⟩ (.lit ((l.map Tr.av).take (((l.length:Nat):Int)-1).toNat)) (l.take (l.length-1)):=by
    intro L
    rw[show (((l.length:Nat):Int)-1).toNat=l.length-1 by omega,<- List.map_take]
    exact .lit _
   have hlm:(l.map Tr.av).length=l.length:=by simp
   repeat'(first|refine ZE ?_|refine ZD ?_|refine ZF Y ?_|refine ZU Y Y ?_|refine Q6 Y Y ?_|refine Zl Y Y Y Y ?_|refine Zr Y Y ?_|refine ZB Y ?_|refine ZC ?_|refine QL Y ?_|(refine cm0 Y Y Y ?_ ?_<;>intro _<;>try omega)|(refine cm0 Y Y Y ?_ ?_<;>intro _<;>try omega)|(refine cm0 Y Y Y ?_ ?_<;>intro _<;>try omega)|(refine cm0 Y Y Y ?_ ?_<;>intro _<;>try omega)|refine ZS Y ?_|refine ZG Y ?_|refine YE Y Y (by omega) ?_|refine YQ Y Y (by omega) Z6 (fun _ _=>?_)|refine QF Y (Zp _) ?_|refine Ql Y Y (Zp _) ?_|refine ZV Y Y Y (Zp _) ?_|refine Z0 Y (Z6 _) (QJ _) ?_|refine ZV Y Y Y (Xh _) ?_|refine ZA Y Y (by first|rfl|(simp only[lE,lN,lC,Zg,ZX,ZY];first|done|rfl)) (hC _) ?_|refine ZI ?_|refine ZJ ?_)
   all_goals try omega
   rename_i u hu
   have hu2:l[l.length-1]?=some u:=by rw[show l.length-1=(((l.length:Nat):Int)-1).toNat by omega];exact hu
   rw[hu2];obtain⟨u1,u2,u3⟩:=c1 u (jM hu2)
   have hM:=fun L=>ih (hrp L) u1 hy (show n=u.h+y.h by omega)
   have hMo:=Xv hN n u y u1 hy (by omega)
   simp only[Option.getD_some]at hMo ⊢
   generalize mergeF N n u y=r at *
   have hr2:r.length<=2:=by rcases hMo.len with w|w<;>omega
   have hh:∀t∈l.take (l.length-1)++r,t.h<=65536:=by
    intro t ht
    rcases List.mem_append.1 ht with q|q
    ·have:=(c1 t (List.mem_of_mem_take q)).2.1;omega
    ·have:=hMo.h t q;omega
   have hF:=fun {v:AV} {st:St} (hv:Sl st v (l.take (l.length-1)++r))=>ZnE (by rw[lL];omega) hh hv
   repeat'(first|refine ZE ?_|refine ZD ?_|refine ZF Y ?_|refine Zr Y Y ?_|refine ZB Y ?_|refine ZC ?_|(refine cm0 Y Y Y ?_ ?_<;>intro _<;>try omega)|refine ZG Y ?_|refine QX Y Y Y Y ?_|refine ZA Y Y (by first|rfl|(simp only[lE,lN,lC,Zg,ZX,ZY];first|done|rfl)) (hM _) ?_|refine ZFL Y Y (by omega) (Y2 _) ?_|refine Zdb Y Y (hSl _) (by omega) ?_|refine ZJv Y Y Y Y (.lit _) (by omega) ?_|refine ZA Y Y (by first|rfl|(simp only[lE,lN,lC,Zg,ZX,ZY];first|done|rfl)) (hF (Sl.cur rfl rfl)) ?_|refine ZI ?_|refine ZP ?_|refine ZL ?_|refine Zb ?_|refine Qk ?_)
   all_goals try omega
   all_goals refine Zf hA (by simp) Y Y Y Y ?_
   all_goals rfl
end Go.Q15
