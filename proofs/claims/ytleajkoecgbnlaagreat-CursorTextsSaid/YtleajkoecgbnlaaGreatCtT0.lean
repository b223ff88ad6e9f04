/- A part of the proof: RNa. No condition. -/
import Derived.RangeFuncNested
import Derived.RangeFuncBound
import Derived.RangeFuncCalls
import Derived.RangeFuncLeaves
import Derived.RangeFuncFrom
import Derived.Shelf.Abstract
import Derived.WalkKit
import Derived.OwnWalkIn
import Derived.TacticsInMore
import Derived.LoopNIn
import Derived.LoopIn
import Derived.Test.YtleajkoecgbnlaaGreatProg
set_option linter.unusedSectionVars false
set_option linter.unusedVariables false
set_option linter.unusedSimpArgs false
namespace Go.Proofs
open Go.RowKit Go.Shelf
attribute [local go_sem] Oper.semAt_some
set_option maxRecDepth 100000 in
set_option maxHeartbeats 2000000 in
theorem Tryz.cont_in (F:Fence) (n:Nat) (h:F.fn 195) (hro:F.round=none) (c:Int) (w:World):CallsIn F n Tryz.prog 195 #[.int .u8 c] w fun e w'=>e=.returned (.bool (decide (128<=c) && decide (c<=191)))/\w'=w:=by
 refine callsIn_of_wp Tryz.func195 rfl h ?_ hro;simp only [Tryz.ntmps195,List.size_toArray,List.length_cons,List.length_nil,Nat.reduceAdd,Nat.reduceSub,Array.replicate_succ,Array.replicate_zero,List.push_toArray,List.append_toArray,List.nil_append,List.cons_append]
 gi_wp2
 all_goals
  refine bodyPost_ret (results_tmp rfl _ _ _) rfl ?_
 ·rename_i hx
  exact ⟨by simp [hx],rfl⟩
 ·rename_i hx
  exact ⟨by simp [show ¬ 128<=c by omega],rfl⟩
theorem eqK (a b:Nat):(((a:Nat):Int) == ((b:Nat):Int))=decide (a=b):=by
 by_cases h:a=b
 ·subst h;simp
 ·rw [decide_eq_false h]
  exact beq_eq_false_iff_ne.2 (fun q=>h (by omega))
def Za2 (s:ByteArray) (a:Nat):Bool:=if h:a<s.size then !(decide (128<=(s[a].toNat:Int)) && decide ((s[a].toNat:Int)<=191)) else decide (a=s.size)
set_option maxRecDepth 100000 in
set_option maxHeartbeats 2000000 in
theorem Tryz.bnd_in (F:Fence) (n:Nat) (h:F.fn 193) (h2:F.fn 195) (hro:F.round=none) (hn:1<=n) (s:ByteArray) (a:Nat) (w:World):CallsIn F n Tryz.prog 193 #[.string s,.int .i64 a] w fun e w'=>e=.returned (.bool (Za2 s a))/\w'=w:=by
 refine callsIn_of_wp Tryz.func193 rfl h ?_ hro;simp only [Tryz.ntmps193,List.size_toArray,List.length_cons,List.length_nil,Nat.reduceAdd,Nat.reduceSub,Array.replicate_succ,Array.replicate_zero,List.push_toArray,List.append_toArray,List.nil_append,List.cons_append];have h0:(0:Int)<=a:=Int.natCast_nonneg a
 by_cases h1:(a:Int)<s.size
 ·gi_wp2
  refine (Tryz.cont_in F (n-1) h2 hro _ _).mono ?_
  rintro e w' ⟨rfl,rfl⟩
  gi_wp2
  all_goals refine bodyPost_ret (results_tmp rfl _ _ _) rfl ?_
  all_goals refine ⟨?_,rfl⟩
  all_goals have h3:a<s.size:=by omega
  ·rename_i q
   have:¬ (a=s.size):=by omega
   unfold Za2;rw [dif_pos h3]
   simp_all
   omega
  ·rename_i q
   unfold Za2;rw [dif_pos h3]
   simp_all
   omega
 ·gi_wp2
  all_goals refine bodyPost_ret (results_tmp rfl _ _ _) rfl ?_
  all_goals refine ⟨?_,rfl⟩
  all_goals unfold Za2
  all_goals rw [dif_neg (by omega)]
  all_goals rw [eqK]
  all_goals rfl
def ZFo (s:ByteArray):Nat->Nat->Option Nat
 | 0,_=>none
 | f+1,a=>if s.size<a then none else if Za2 s a=true then some a else ZFo s f (a+1)
set_option maxRecDepth 100000 in
set_option maxHeartbeats 2000000 in
theorem Tryz.ris1_in (F:Fence) (n:Nat) (h192:F.fn 192) (h193:F.fn 193) (h195:F.fn 195) (hro:F.round=none) (hn:2<=n) (l Bs Bf n₀:Nat) (s:ByteArray) (a:Nat) (hb1:Bs<n₀) (hb2:Bf<n₀) (J Jx:List Nat->World->Prop)
 (hY:∀ pre x W,J pre W->pre.length<s.size+1->YieldAt F (n-1) Tryz.prog l #[.int .i64 (x:Nat)] W fun e W' =>
  (e=.returned (.bool true)/\J (pre++[x]) W'/\Below n₀ W W')\/(e=.returned (.bool false)/\Jx (pre++[x]) W'))
 (W:World) (hBs:W.cell? ⟨Bs,0,none⟩=some (.string s)) (hBf:W.cell? ⟨Bf,0,none⟩=some (.int .i64 (a:Nat))) (ha:a<=s.size) (hsz:s.size<1000000000) (h0:J [] W) :
 CallsIn F n Tryz.prog 192 #[.func (.yield l) #[] #[],.pointer (some ⟨Bf,0,none⟩),.pointer (some ⟨Bs,0,none⟩)] W fun e W'=>(∃ v,e=.returned v) /\
  ((∃ ys,(ys≠[]->ys.head?=ZFo s (s.size+1-a) a)/\(ys=[]->ZFo s (s.size+1-a) a=none)/\J ys W')\/(∃ pre,pre≠[]/\pre.head?=ZFo s (s.size+1-a) a/\Jx pre W')):=by
 refine callsIn_of_wp Tryz.func192 rfl h192 ?_ hro;simp only [Tryz.ntmps192,List.size_toArray,List.length_cons,List.length_nil,Nat.reduceAdd,Nat.reduceSub,Array.replicate_succ,Array.replicate_zero,List.push_toArray,List.append_toArray,List.nil_append,List.cons_append]
 gi_wp2
 gi_loopw [4] (fun i wr=>∃ (k:Nat) (pre:List Nat),a<=k/\k<=s.size+1/\i=.int .i64 k/\J pre wr/\Below n₀ W wr/\pre.length<=k-a/\(pre=[]->ZFo s (s.size+1-a) a=ZFo s (s.size+1-k) k)/\(pre≠[]->pre.head?=ZFo s (s.size+1-a) a))
  (fun i _=>s.size+1-(intOf i).toNat)
 case atStart=>exact ⟨a,[],Nat.le_refl _,by omega,rfl,h0,Below.refl _ _,by simp,fun _=>rfl,fun h=>absurd rfl h⟩
 case round =>
  obtain ⟨k,pre,hk1,hk2,rfl,hJs,hnx,hlen,hp1,hp2⟩:=hrel;have hs':wr.cell? ⟨Bs,0,none⟩=some (.string s):=(hnx.cell (p:=⟨Bs,0,none⟩) hb1).trans hBs
  by_cases hk:(k:Int)<=s.size
  ·cases hb:Za2 s k with
   | false =>
    gi_wp2
    refine ⟨fun _=>by omega,(Tryz.bnd_in F (n-1) h193 h195 hro (by omega) s k _).mono ?_⟩
    rintro e w' ⟨rfl,rfl⟩
    rw [hb]
    gi_wp2
    refine ⟨fun _ h=>(by cases h),?_⟩
    gi_wp2
    go_roundw
    case rel =>
     refine ⟨k+1,pre,by omega,by omega,by simp,hJs,hnx,by omega,fun h=>?_,hp2⟩
     rw [hp1 h,show s.size+1-k=(s.size+1-(k+1))+1 by omega,ZFo,if_neg (by omega),hb]
     rfl
    case measure=>simp [intOf];omega
   | true =>
    obtain ⟨fn,tmps,assign,body,hy,hR⟩:=hY pre k wr hJs (by omega)
    gi_wp2
    refine ⟨fun _=>by omega,(Tryz.bnd_in F (n-1) h193 h195 hro (by omega) s k _).mono ?_⟩
    rintro e w' ⟨rfl,rfl⟩
    rw [hb]
    gi_wp2
    have hhd:pre=[]->ZFo s (s.size+1-a) a=some k:=fun h=>by
     rw [hp1 h,show s.size+1-k=(s.size+1-(k+1))+1 by omega,ZFo,if_neg (by omega),if_pos hb]
    have hhd2:(pre++[k]).head?=ZFo s (s.size+1-a) a:=by
     cases pre with
     | nil=>rw [hhd rfl];rfl
     | cons z zs=>rw [<- hp2 (by simp)];rfl
    refine ⟨fun _=>by omega,hR.mono ?_⟩
    rintro e W3 (⟨rfl,hJ3,hk3⟩|⟨rfl,hJx3⟩)
    ·gi_wp2
     go_roundw
     case rel=>exact ⟨k+1,pre++[k],by omega,by omega,by simp,hJ3,hnx.trans hk3,by simp;omega,fun h=>by simp at h,fun _=>hhd2⟩
     case measure=>simp [intOf];omega
    ·gi_wp2
     refine bodyPost_ret (results_none rfl _ _ _) rfl ?_
     exact ⟨⟨_,rfl⟩,.inr ⟨pre++[k],by simp,hhd2,hJx3⟩⟩
  ·gi_wp2
   go_end0
   refine ⟨⟨_,rfl⟩,.inl ⟨pre,fun h=>hp2 h,fun h=>?_,hJs⟩⟩
   rw [hp1 h,show s.size+1-k=0 by omega];rfl
theorem ZkG {W:World} {B:Nat} {v:Value} {t:TypeId} (h:W.heap[B]?=some (.cells #[v] t (0,0))):W.cell? ⟨B,0,none⟩=some v/\W.frozen? ⟨B,0,none⟩=false:=by
 constructor<;>simp [World.cell?,World.frozen?,h]
theorem ZH0 (W:World) (v:Value) (t:TypeId):(W.alloc (.cells #[v] t)).cell? ⟨W.heap.size,0,none⟩=some v/\(W.alloc (.cells #[v] t)).frozen? ⟨W.heap.size,0,none⟩=false :=
 ZkG (World.alloc_heap_new W _)
theorem Jh {W:World} {a:Addr} {v:Value} (o:Obj) (h:W.cell? a=some v):(W.alloc o).cell? a=some v:=cell_kept h (World.grownBy_alloc W o none) (fun r e=>by cases e)
theorem XF {W:World} {a:Addr} {v:Value} (o:Obj) (h:W.cell? a=some v) (hf:W.frozen? a=false):(W.alloc o).frozen? a=false:=(frozen_kept h (World.grownBy_alloc W o none) (fun r e=>by cases e)).trans hf
set_option maxRecDepth 100000 in
set_option maxHeartbeats 2000000 in
theorem Tryz.rising_in (F:Fence) (n:Nat) (h122:F.fn 122) (hro:F.round=none) (s:ByteArray) (a:Nat) (w:World):CallsIn F n Tryz.prog 122 #[.string s,.int .i64 a] w fun e w'=>e=.returned (.func (.func 192) #[] #[.pointer (some ⟨w.heap.size+1,0,none⟩),.pointer (some ⟨w.heap.size,0,none⟩)])/\w'=(w.alloc (.cells #[.string s] 9)).alloc (.cells #[.int .i64 a] 3):=by
 refine callsIn_of_wp Tryz.func122 rfl h122 ?_ hro;simp only [Tryz.ntmps122,List.size_toArray,List.length_cons,List.length_nil,Nat.reduceAdd,Nat.reduceSub,Array.replicate_succ,Array.replicate_zero,List.push_toArray,List.append_toArray,List.nil_append,List.cons_append]
 gi_wp2
 refine bodyPost_ret (results_tmp rfl _ _ _) rfl ?_;exact ⟨rfl,rfl⟩
theorem Tryz.ris_stops (F:Fence) (n:Nat) (h192:F.fn 192) (h193:F.fn 193) (h195:F.fn 195) (hro:F.round=none) (hn:2<=n) (Bs Bf n₀:Nat) (s:ByteArray) (a:Nat) (w:World) (hb1:Bs<n₀) (hb2:Bf<n₀) (hn₀:n₀<=w.heap.size)
 (hBs:w.cell? ⟨Bs,0,none⟩=some (.string s)) (hBf:w.cell? ⟨Bf,0,none⟩=some (.int .i64 (a:Nat))) (ha:a<=s.size) (hsz:s.size<1000000000) :
 SeqStopsK F n Tryz.prog 192 #[.pointer (some ⟨Bf,0,none⟩),.pointer (some ⟨Bs,0,none⟩)] (fun x:Nat=>#[Value.int .i64 x]) (Below n₀) (fun ys=>(ys≠[]->ys.head?=ZFo s (s.size+1-a) a)/\(ys=[]->ZFo s (s.size+1-a) a=none)) (fun pre=>pre≠[]/\pre.head?=ZFo s (s.size+1-a) a) (s.size+1) w:=fun l J Jx W hW _ _ hY h0=>by
 refine (Tryz.ris1_in F n h192 h193 h195 hro hn l Bs Bf n₀ s a hb1 hb2 J Jx hY W ((hW.cell (p:=⟨Bs,0,none⟩) (by simp;omega)).trans hBs) ((hW.cell (p:=⟨Bf,0,none⟩) (by simp;omega)).trans hBf) ha hsz h0).mono ?_
 rintro e W' ⟨h1,h2⟩
 refine ⟨h1,?_⟩
 rcases h2 with ⟨ys,k1,k2,k3⟩|⟨pre,k1,k2,k3⟩
 ·exact .inl ⟨ys,⟨k1,k2⟩,k3⟩
 ·exact .inr ⟨pre,⟨k1,k2⟩,k3⟩
set_option maxRecDepth 100000 in
set_option maxHeartbeats 2000000 in
theorem Tryz.next_in (F:Fence) (n:Nat) (h54:F.fn 54) (h122:F.fn 122) (h192:F.fn 192) (h193:F.fn 193) (h195:F.fn 195) (hro:F.round=none) (hn:4<=n) (s:ByteArray) (a b:Nat) (w:World) (ha:a<s.size) (hsz:s.size<1000000000) (hb:ZFo s (s.size+1-(a+1)) (a+1)=some b) :
 CallsIn F n Tryz.prog 54 #[.string s,.int .i64 a] w fun e W'=>e=.returned (.tuple #[.int .i64 b,.bool true])/\Below w.heap.size w W':=by
 have h1:1<=n:=by omega
 have hai:(a:Int)<s.size:=by omega
 refine callsIn_of_wp_marks Tryz.func54 rfl h54 ?_ hro;simp only [Tryz.ntmps54,List.size_toArray,List.length_cons,List.length_nil,Nat.reduceAdd,Nat.reduceSub,Array.replicate_succ,Array.replicate_zero,List.push_toArray,List.append_toArray,List.nil_append,List.cons_append]
 gi_wp2
 have hr:=Tryz.rising_in F (n-1) h122 hro s (a+1) ((w.alloc (Obj.cells #[Value.int IntKind.i64 0] 3)).alloc (Obj.cells #[Value.bool false] 4))
 rw [show (((a+1:Nat):Int))=(a:Int)+1 from rfl] at hr
 refine hr.mono ?_
 rintro e w' ⟨rfl,rfl⟩
 gi_wp2
 have c0:=ZH0 w (.int .i64 0) 3;have c1:=ZH0 (w.alloc (.cells #[.int .i64 0] 3)) (.bool false) 4;have c2:=ZH0 ((w.alloc (.cells #[.int .i64 0] 3)).alloc (.cells #[.bool false] 4)) (.string s) 9;have c3:=ZH0 (((w.alloc (.cells #[.int .i64 0] 3)).alloc (.cells #[.bool false] 4)).alloc (.cells #[.string s] 9)) (.int .i64 ((a:Int)+1)) 3;simp only [World.size_alloc] at c1 c2 c3
 have hB0:Below w.heap.size w ((((w.alloc (.cells #[.int .i64 0] 3)).alloc (.cells #[.bool false] 4)).alloc (.cells #[.string s] 9)).alloc (.cells #[.int .i64 ((a:Int)+1)] 3)):=((((Below.refl _ w).alloc (Nat.le_refl _) _).alloc (by simp) _).alloc (by simp;omega) _).alloc (by simp;omega) _
 refine wpIn_rangeFunc_ownF hro h1 (gf:=192) (lb:=#[.pointer (some ⟨w.heap.size+1+1+1,0,none⟩),.pointer (some ⟨w.heap.size+1+1,0,none⟩)]) rfl h192 (enters_of Tryz.func192 (by kernel_rfl) rfl)
  (Tryz.ris_stops F (n-1) h192 h193 h195 hro (by omega) (w.heap.size+1+1) (w.heap.size+1+1+1) (w.heap.size+1+1+1+1) s (a+1) _ (by omega) (by omega) (by simp) (Jh _ c2.1) c3.1 (by omega) hsz) belowK_t (belowK_b (by simp)) (Below.refl _ _) (fun _=>rfl)
  (fun pre W=>(pre=[]/\W.cell? ⟨w.heap.size,0,none⟩=some (.int .i64 0)/\W.frozen? ⟨w.heap.size,0,none⟩=false/\W.cell? ⟨w.heap.size+1,0,none⟩=some (.bool false)/\W.frozen? ⟨w.heap.size+1,0,none⟩=false)/\Below w.heap.size w W)
  (fun c pre W=>(c=.ret/\∃ x,pre=[x]/\W.cell? ⟨w.heap.size,0,none⟩=some (.int .i64 (x:Nat))/\W.cell? ⟨w.heap.size+1,0,none⟩=some (.bool true))/\Below w.heap.size w W)
  (OwnFrom.and (Own.from (fun s A B row hs hg hr=>⟨hs.1,cell_kept hs.2.1 hg hr,(frozen_kept hs.2.1 hg hr).trans hs.2.2.1,cell_kept hs.2.2.2.1 hg hr,(frozen_kept hs.2.2.2.1 hg hr).trans hs.2.2.2.2⟩) _) (ownFrom_below (Nat.le_refl _) (by simp;omega)))
  (fun c=>OwnFrom.and (Own.from (fun s A B row hs hg hr=>by
   obtain ⟨h1,x,h2,h3,h4⟩:=hs
   exact ⟨h1,x,h2,cell_kept h3 hg hr,cell_kept h4 hg hr⟩) _) (ownFrom_below (Nat.le_refl _) (by simp;omega)))
  ⟨⟨rfl,Jh _ (Jh _ (Jh _ c0.1)),XF _ (Jh _ (Jh _ c0.1)) (XF _ (Jh _ c0.1) (XF _ c0.1 c0.2)),Jh _ (Jh _ c1.1),XF _ (Jh _ c1.1) (XF _ c1.1 c1.2)⟩,hB0⟩
  (fun x=>{ tmps:=#[.string s,.int .i64 a,undef,undef,.pointer (some ⟨w.heap.size,0,none⟩),.pointer (some ⟨w.heap.size+1,0,none⟩),.int .i64 (x:Nat),.int .i64 a,.string s,.int .i64 s.size,.bool false,.string s,.int .i64 a,.int .i64 a,.int .i64 ((a:Int)+1),.func (.func 192) #[] #[.pointer (some ⟨w.heap.size+1+1+1,0,none⟩),.pointer (some ⟨w.heap.size+1+1,0,none⟩)],.int .i64 (x:Nat),undef],defers:=[] }) ?assign ?body ?done ?stop
 case assign =>
  intro l x W K hK
  gi_wp2
  exact hK
 case body =>
  rintro l pre x W ⟨⟨hp,hc0,hf0,hc1,hf1⟩,hB⟩ _
  gi_wp2
  subst hp
  exact ⟨(KeepsOthers.setCell _ _ _).trans (KeepsOthers.setCell _ _ _),⟨rfl,x,rfl,(World.cell?_setCell_other _ _ _ _ (by simp)).trans (World.cell?_setCell_same' _ _ _ (by rw [hc0];rfl)),World.cell?_setCell_same' _ _ _ (by rw [World.cell?_setCell_other _ _ _ _ (by simp),hc1];rfl)⟩,(hB.setCell (p:=⟨w.heap.size,0,none⟩) (Nat.le_refl _) _).setCell (p:=⟨w.heap.size+1,0,none⟩) (by simp) _⟩
 case done =>
  rintro D ys W hD ⟨hy1,hy2⟩ ⟨⟨hp,hc0,hf0,hc1,hf1⟩,hB⟩ hK
  exfalso
  have:=hy2 hp
  rw [hb] at this
  exact absurd this (by simp)
 case stop =>
  rintro D c pre W hD ⟨hp1,hp2⟩ ⟨⟨rfl,x,rfl,hc0,hc1⟩,hB⟩ hK
  gi_wp2
  rw [hb] at hp2
  obtain rfl:x=b:=by simpa using hp2
  refine ⟨by simp,.inl ⟨_,_,rfl,run_takeDeferred hK,?_⟩⟩
  have hk0:=cell_kept hc0 (grownBy_putObj' _ D (.deferred none)) (fun r e=>by cases e;exact ⟨_,hK,rfl⟩)
  have hk1:=cell_kept hc1 (grownBy_putObj' _ D (.deferred none)) (fun r e=>by cases e;exact ⟨_,hK,rfl⟩)
  refine ⟨.tuple #[.int .i64 x,.bool true],?_,rfl,hB.trans (belowK_b (w:=w) (Nat.le_refl _) W D _ _ (by simp at hD;omega) hK rfl rfl)⟩
  simp [results,Tryz.f54,go_sem,hk0,hk1]
end Go.Proofs
