/- A part of the proof: SQf, SQg, SQh, TYu. No condition. -/
import Derived.Test.YtbmllhocajbcfaaSpT7
set_option linter.unusedVariables false
set_option linter.unusedSimpArgs false
namespace Go.Q15
open Go Go.QAbs
set_option maxRecDepth 100000
set_option maxHeartbeats 16000000
def beyondP (texts:List (List UInt8)) (ys:List Ed):Prop:=longP texts∨manyQ ys∨12<ys.length
noncomputable instance (texts:List (List UInt8)) (ys:List Ed):Decidable (beyondP texts ys):=Classical.propDecidable _
theorem Beyond_c (texts:List (List UInt8)) (ys:List Ed) (hb:texts.length<9223372036854775808) (hbs:∀ s∈texts,s.length<9223372036854775808) (hy:ys.length<9223372036854775808) (hys:∀ y∈ys,y.text.length<9223372036854775808) (st:St) :
 S Tb F_quartolaw16_Beyond [.lit (texts.map .str),.lit (ys.map Ed.av)] st=some (.bool (decide (beyondP texts ys)),st):=by
 refine s_of rfl (fun A hA=>?_)
 have hLg:=fun st=>long_c texts hb hbs st
 have hMn:=fun st=>many16_c ys hy hys st
 by_cases hl:longP texts
 ·rw [decide_eq_true (show beyondP texts ys from .inl hl)]
  simp only [decide_eq_true hl] at hLg
  repeat' (first|refine ru_seq ?_|refine ru_reg ?_|refine is_mv rfl ?_|refine is_gF rfl rfl ?_|refine is_pick rfl rfl rfl rfl ?_|refine is_nil rfl ?_|refine rk_seq ?_|refine is_callE rfl rfl rfl (hLg _) ?_|refine ru_ret ?_|refine rk_nil ?_)
  all_goals try contradiction
  all_goals refine end_st hA (by first|exact .inl rfl|exact .inr rfl) rfl rfl rfl rfl ?_
  all_goals rfl
 simp only [decide_eq_false hl] at hLg
 by_cases hm:manyQ ys
 ·rw [decide_eq_true (show beyondP texts ys from .inr (.inl hm))]
  simp only [decide_eq_true hm] at hMn
  repeat' (first|refine ru_seq ?_|refine ru_reg ?_|refine is_mv rfl ?_|refine is_gT rfl ?_|refine is_gF rfl rfl ?_|refine is_pick rfl rfl rfl rfl ?_|refine is_nil rfl ?_|refine rk_seq ?_|refine is_callE rfl rfl rfl (hLg _) ?_|refine is_callE rfl rfl rfl (hMn _) ?_|refine ru_ret ?_|refine rk_nil ?_)
  all_goals try contradiction
  all_goals refine end_st hA (by first|exact .inl rfl|exact .inr rfl) rfl rfl rfl rfl ?_
  all_goals rfl
 simp only [decide_eq_false hm] at hMn
 by_cases h12:12<ys.length
 ·rw [decide_eq_true (show beyondP texts ys from .inr (.inr h12))]
  repeat' (first|refine len1L rfl ?_|refine ru_seq ?_|refine ru_reg ?_|refine is_mv rfl ?_|refine is_gT rfl ?_|refine is_pick rfl rfl rfl rfl ?_|refine is_nil rfl ?_|refine rk_seq ?_|(refine is_gtr rfl rfl (fun _=>?_) (fun _=>?_)<;>try (exfalso;omega))|refine is_callE rfl rfl rfl (hLg _) ?_|refine is_callE rfl rfl rfl (hMn _) ?_|refine ru_ret ?_|refine rk_nil ?_)
  all_goals try contradiction
  all_goals try (exfalso;omega)
  all_goals refine end_st hA (by first|exact .inl rfl|exact .inr rfl) rfl rfl rfl rfl ?_
  all_goals rfl
 ·rw [decide_eq_false (show ¬ beyondP texts ys from fun q=>q.elim hl fun q=>q.elim hm h12)]
  repeat' (first|refine len1L rfl ?_|refine ru_seq ?_|refine ru_reg ?_|refine is_mv rfl ?_|refine is_gT rfl ?_|refine is_pick rfl rfl rfl rfl ?_|refine is_nil rfl ?_|refine rk_seq ?_|(refine is_gtr rfl rfl (fun _=>?_) (fun _=>?_)<;>try (exfalso;omega))|refine is_callE rfl rfl rfl (hLg _) ?_|refine is_callE rfl rfl rfl (hMn _) ?_|refine ru_ret ?_|refine rk_nil ?_)
  all_goals try contradiction
  all_goals try (exfalso;omega)
  all_goals refine end_st hA (by first|exact .inl rfl|exact .inr rfl) rfl rfl rfl rfl ?_
  all_goals rfl
theorem Pick_c (x n:Int) (h0:0≤n) (h1:n<4611686018427387904) (st:St):S Tb F_quartolaw16_Pick [.int .i64 x,.int .i64 n] st=some (.int .i64 (pickM x n),st):=by
 refine s_of rfl (fun A hA=>?_)
 have hP:=fun st=>pick_c x n h0 h1 st
 repeat' (first|refine ru_seq ?_|refine ru_reg ?_|refine is_mv rfl ?_|refine is_nil rfl ?_|refine rk_seq ?_|refine is_callE rfl rfl rfl (hP _) ?_|refine ru_ret ?_|refine rk_nil ?_)
 refine end_st hA (by first|exact .inl rfl|exact .inr rfl) rfl rfl rfl rfl ?_
 rfl
theorem sp_child {A:List (Bool × List Blk)} {L:List Blk} {bx j:Nat} {ks:List Kid} {hh:Int} {t:List UInt8} (hg:L[bx]?=some (.arr 3 0 [.agg [.int .i64 hh,.str t,.lit (ks.map Kid.av)]])) (hk4:ks.length<100) {path:List Nat} {h':Nat} (hp:path[j+1]?=some h') (hpl:path.length<1000) (hex:∃ (i:Nat) (k:Kid),ks[i]?=some k∧k.at_=h') {v9 v10 v13 v14:AV} {k:List Fr} {Q:Post}
 (hQ:Rk (S Tb) k Q .norm [(9,v9),(10,v10),(13,v13),(14,v14),(16,.lit (path.map hnAV)),(20,.int .i64 j),(21,.ptr A.length bx 0 0 0),(23,.bool true),(24,.int .i64 ks.length),(233,.bool false)] ⟨A,false,L⟩) :
 Ru (S Tb) p_quartolaw17_SeekPaths_30.loop (.blk 2::k) Q [(9,v9),(10,v10),(13,v13),(14,v14),(16,.lit (path.map hnAV)),(20,.int .i64 j),(21,.ptr A.length bx 0 0 0),(23,.bool false),(24,.int .i64 0)] ⟨A,false,L⟩:=by
 refine ru_loopP (α:=Nat) (fun n=>[(9,v9),(10,v10),(13,v13),(14,v14),(16,.lit (path.map hnAV)),(20,.int .i64 j),(21,.ptr A.length bx 0 0 0),(23,.bool (decide (∃ k∈ks.take n,k.at_=h'))),(24,.int .i64 n)]) (fun n=>⟨A,false,L⟩) (fun n=>n≤ks.length) (fun n=>ks.length-n) 0 (by simp) rfl (Nat.zero_le _) ?_
 intro n hn
 replace hn:n≤ks.length:=hn
 have hpj:=(List.getElem?_eq_some_iff.1 hp).1
 have qp:0≤((j:Int)+1)∧path[((j:Int)+1).toNat]?=some h':=⟨by omega,by rw [show ((j:Int)+1).toNat=j+1 by omega];exact hp⟩
 rcases Nat.lt_or_ge n ks.length with hlt|hge
 ·obtain ⟨kd,hk⟩:∃ k,ks[n]?=some k:=⟨ks[n]'hlt,List.getElem?_eq_getElem _⟩
  have qk:0≤((n:Nat):Int)∧ks[((n:Nat):Int).toNat]?=some kd:=⟨by omega,by rw [show ((n:Nat):Int).toNat=n by omega];exact hk⟩
  by_cases hc:∃ k∈ks.take n,k.at_=h'
  ·have hc2:∃ k∈ks.take (n+1),k.at_=h':=by obtain ⟨z,z1,z2⟩:=hc;exact ⟨z,by rw [take_succ_get hk];exact List.mem_append_left _ z1,z2⟩
   simp only [decide_eq_true hc]
   repeat' (first|refine is_ldc rfl hg rfl rfl ?_|refine len1L rfl ?_|refine ru_seq ?_|refine ru_reg ?_|refine is_mv rfl ?_|refine is_fadr rfl rfl ?_|refine is_gT rfl ?_|refine is_gF rfl rfl ?_|refine is_pick rfl rfl rfl rfl ?_|refine is_nil rfl ?_|refine rk_seq ?_|(refine is_lss rfl rfl (fun _=>?_) (fun _=>?_)<;>try (exfalso;omega))|refine ru_iteT rfl ?_|refine is_addS rfl rfl (by omega) ?_|refine ru_skip ?_|refine ru_block ?_|refine rk_blk ?_|refine rk_inv ?_)
   all_goals try contradiction
   all_goals try (exfalso;omega)
   refine ⟨n+1,⟨?_,rfl⟩,by omega,by omega⟩
   rw [decide_eq_true hc2];rfl
  ·simp only [decide_eq_false hc]
   by_cases he:kd.at_=h'
   ·have hc2:∃ k∈ks.take (n+1),k.at_=h':=⟨kd,by rw [take_succ_get hk];simp,he⟩
    repeat' (first|refine is_ldc rfl hg rfl rfl ?_|refine len1L rfl ?_|refine is_ixKn (f:=hnAV) rfl rfl qp (fun _=>rfl) ?_|refine is_ixKn (f:=Kid.av) rfl rfl qk (fun _=>rfl) ?_|refine ru_seq ?_|refine ru_reg ?_|refine is_mv rfl ?_|refine is_fadr rfl rfl ?_|refine is_gT rfl ?_|refine is_pick rfl rfl rfl rfl ?_|refine is_nil rfl ?_|refine rk_seq ?_|refine is_ldl rfl rfl ?_|(refine is_lss rfl rfl (fun _=>?_) (fun _=>?_)<;>try (exfalso;omega))|(refine is_eql rfl rfl (fun _=>?_) (fun _=>?_)<;>try (exfalso;omega))|refine ru_iteT rfl ?_|refine is_addS rfl rfl (by omega) ?_|refine ru_skip ?_|refine ru_block ?_|refine rk_blk ?_|refine rk_inv ?_)
    all_goals try contradiction
    all_goals try (exfalso;omega)
    refine ⟨n+1,⟨?_,rfl⟩,by omega,by omega⟩
    rw [decide_eq_true hc2];rfl
   ·have hc2 : ¬ ∃ k ∈ ks.take (n + 1), k.at_ = h' := fun ⟨z, z1, z2⟩ => by
     rw [take_succ_get hk] at z1
     rcases List.mem_append.1 z1 with w|w
     ·exact hc ⟨z,w,z2⟩
     ·rw [List.mem_singleton.1 w] at z2;exact he z2
    repeat' (first|refine is_ldc rfl hg rfl rfl ?_|refine len1L rfl ?_|refine is_ixKn (f:=hnAV) rfl rfl qp (fun _=>rfl) ?_|refine is_ixKn (f:=Kid.av) rfl rfl qk (fun _=>rfl) ?_|refine ru_seq ?_|refine ru_reg ?_|refine is_mv rfl ?_|refine is_fadr rfl rfl ?_|refine is_gT rfl ?_|refine is_pick rfl rfl rfl rfl ?_|refine is_nil rfl ?_|refine rk_seq ?_|refine is_ldl rfl rfl ?_|(refine is_lss rfl rfl (fun _=>?_) (fun _=>?_)<;>try (exfalso;omega))|(refine is_eql rfl rfl (fun _=>?_) (fun _=>?_)<;>try (exfalso;omega))|refine ru_iteT rfl ?_|refine is_addS rfl rfl (by omega) ?_|refine ru_skip ?_|refine ru_block ?_|refine rk_blk ?_|refine rk_inv ?_)
    all_goals try contradiction
    all_goals try (exfalso;omega)
    refine ⟨n+1,⟨?_,rfl⟩,by omega,by omega⟩
    rw [decide_eq_false hc2];rfl
 ·obtain rfl:n=ks.length:=by omega
  have hc:∃ k∈ks.take ks.length,k.at_=h':=by
   obtain ⟨i,z,z1,z2⟩:=hex
   exact ⟨z,by rw [List.take_length];exact List.mem_of_getElem? z1,z2⟩
  simp only [decide_eq_true hc]
  repeat' (first|refine is_ldc rfl hg rfl rfl ?_|refine len1L rfl ?_|refine ru_seq ?_|refine ru_reg ?_|refine is_mv rfl ?_|refine is_fadr rfl rfl ?_|refine is_gF rfl rfl ?_|refine is_pick rfl rfl rfl rfl ?_|refine is_nil rfl ?_|refine rk_seq ?_|(refine is_lss rfl rfl (fun _=>?_) (fun _=>?_)<;>try (exfalso;omega))|refine ru_iteF rfl ?_|refine ru_exit ?_|refine rk_seq_ex ?_|refine rk_blk_eq rfl ?_|refine rk_inv_ex ?_)
  all_goals try contradiction
  all_goals try (exfalso;omega)
  exact hQ
end Go.Q15
namespace Go.Q15
open Go Go.QAbs
set_option maxRecDepth 100000
set_option maxHeartbeats 16000000
theorem sp_loop {st:St} {A:List (Bool × List Blk)} (hA:A=st.A++[(st.ro,st.L)]) {r:AR} {v n w:Nat} {ros:List Ro} {ss:List (List UInt8)} {G0 G1:List Blk} (hG:GoodN r.nodes) {z:Int} (hz:0≤z∧z<n) (hn:n<65536) {ro:Ro} (hro:ros[z.toNat]?=some ro) (h13:ro.h≤13) {path:List Nat} {leaf:List UInt8}
 (h1:path.length=ro.h+1) (h3:∀ j h,path[j]?=some h→∃ y,lk r.nodes h=some y∧y.h+j=ro.h∧(y.h=0→y.text=leaf)∧∀ h',path[j+1]?=some h'→∃ (i:Nat) (k:Kid),y.ks[i]?=some k∧k.at_=h') :
 Ru (S Tb) p_quartolaw17_SeekPaths_34.loop [Fr.blk 0,Fr.seq (p_quartolaw17_SeekPaths_35.seq PC.ret)] (fun x e st'=>endK false [RV.s 8] (x,e,st')=some (AV.bool true,st))
  [(9,.ptr A.length 5 0 0 0),(10,.ref A.length 6 v 0 n),(13,.int .i64 z),(14,.str leaf),(16,.lit (path.map hnAV)),(20,.int .i64 0)] ⟨A,false,ltL A.length r v ros G0 w ss G1⟩:=by
 have hWk:=fun st=>works17_c st
 refine ru_loopP (α:=Nat × List Blk) (fun p=>[(9,.ptr A.length 5 0 0 0),(10,.ref A.length 6 v 0 n),(13,.int .i64 z),(14,.str leaf),(16,.lit (path.map hnAV)),(20,.int .i64 p.1)])
  (fun p=>⟨A,false,ltL A.length r v ros G0 w ss p.2⟩) (fun p=>p.1<path.length) (fun p=>path.length-p.1) (0,G1) rfl rfl (by simp only;omega) ?_
 rintro ⟨j,G⟩ hj
 simp only at hj ⊢
 obtain ⟨o,ho⟩:∃ x,path[j]?=some x:=⟨_,List.getElem?_eq_getElem hj⟩
 obtain ⟨y,y1,y2,y3,y4⟩:=h3 j o ho
 have hok:=(hG o y y1).1
 have hGt:=Get_c (lt_rd (A:=A) (r:=r) (v:=v) (ros:=ros) (G0:=G0) (w:=w) (ss:=ss) (G1:=G)) y1 hok.len
 have hcp:y.copy.av=.agg [.int .i64 y.h,.str y.text,.lit (y.ks.map Kid.av)]:=rfl
 rw [hcp] at hGt
 have hk4:=hok.len
 have f6:(ltL A.length r v ros G0 w ss G)[6]?=_:=lt_6
 have g6:(ros.map Ro.av)[0+z.toNat]?=some ro.av:=by rw [Nat.zero_add,List.getElem?_map,hro];rfl
 have q:0≤((j:Nat):Int)∧path[((j:Nat):Int).toNat]?=some o:=⟨by omega,by rw [show ((j:Nat):Int).toNat=j by omega];exact ho⟩
 have eb:=lt_box (n:=A.length) (r:=r) (v:=v) (ros:=ros) (G0:=G0) (w:=w) (ss:=ss) (G1:=G) (.arr 3 0 [.agg [.int .i64 y.h,.str y.text,.lit (y.ks.map Kid.av)]])
 generalize hX:ltL A.length r v ros G0 w ss G=X at *
 have f6':=fun b=>get_left (T:=[b]) f6
 have hbx:∀ b,(X++[b])[X.length]?=some b:=fun b=>List.getElem?_concat_length ..
 by_cases h0:y.h=0
 ·have ht:=y3 h0
  rw [h0] at hGt
  rw [ht] at hGt
  have hjl:j+1=path.length:=by omega
  repeat' (first|refine len1L rfl ?_|refine is_ixKn (f:=hnAV) rfl rfl q (fun _=>rfl) ?_|refine is_ixRc rfl rfl (by omega) (f6' _) ?_|refine is_ldc rfl (f6' _) g6 rfl ?_|refine ru_seq ?_|refine ru_reg ?_|refine is_mv rfl ?_|refine is_fadr rfl rfl ?_|refine is_gT rfl ?_|refine is_pick rfl rfl rfl rfl ?_|refine is_ext rfl rfl ?_|refine is_nil rfl ?_|refine rk_seq ?_|refine is_ldT rfl rfl rfl ?_|refine is_ldl rfl rfl ?_|(refine is_lss rfl rfl (fun _=>?_) (fun _=>?_)<;>try (exfalso;omega))|(refine is_eql rfl rfl (fun _=>?_) (fun _=>?_)<;>try (exfalso;omega))|(refine is_neq rfl rfl (fun _=>?_) (fun _=>?_)<;>try (exfalso;omega))|(refine is_eqlS rfl rfl (fun _=>?_) (fun _=>?_)<;>try contradiction)|refine ru_iteT rfl ?_|refine ru_iteF rfl ?_|refine is_subS rfl rfl (by omega) ?_|refine is_boxG rfl rfl rfl ?_|refine is_stT rfl rfl rfl rfl rfl rfl ?_|refine is_callE rfl rfl rfl (hGt) ?_|refine is_callE rfl rfl rfl (hWk _) ?_|refine ru_skip ?_|refine ru_ret ?_|refine ru_block ?_|refine rk_nil ?_|refine rk_seq_ret ?_|refine rk_blk_ret ?_|refine rk_inv_ret ?_)
  all_goals try contradiction
  all_goals try (exfalso;omega)
  all_goals first|exact absurd rfl ‹_›|(refine end_st hA (by first|exact .inl rfl|exact .inr rfl) rfl rfl rfl rfl ?_;rfl)
 ·have hj2:j+1<path.length:=by omega
  obtain ⟨h',hh'⟩:∃ x,path[j+1]?=some x:=⟨_,List.getElem?_eq_getElem hj2⟩
  have hex:=y4 h' hh'
  have hC:=fun k Q hQ=>sp_child (A:=A) (L:=X++[.arr 3 0 [.agg [.int .i64 y.h,.str y.text,.lit (y.ks.map Kid.av)]]]) (bx:=X.length) (j:=j) (hbx _) (by omega) hh' (by omega) hex (v9:=.ptr A.length 5 0 0 0) (v10:=.ref A.length 6 v 0 n) (v13:=.int .i64 z) (v14:=.str leaf) (k:=k) (Q:=Q) hQ
  repeat' (first|refine hC _ _ ?_|refine len1L rfl ?_|refine is_ixKn (f:=hnAV) rfl rfl q (fun _=>rfl) ?_|refine is_ixRc rfl rfl (by omega) (f6' _) ?_|refine is_ldc rfl (f6' _) g6 rfl ?_|refine ru_seq ?_|refine ru_reg ?_|refine is_mv rfl ?_|refine is_fadr rfl rfl ?_|refine is_gT rfl ?_|refine is_pick rfl rfl rfl rfl ?_|refine is_ext rfl rfl ?_|refine is_nil rfl ?_|refine rk_seq ?_|refine is_ldT rfl rfl rfl ?_|refine is_ldl rfl rfl ?_|(refine is_lss rfl rfl (fun _=>?_) (fun _=>?_)<;>try (exfalso;omega))|(refine is_eql rfl rfl (fun _=>?_) (fun _=>?_)<;>try (exfalso;omega))|(refine is_neq rfl rfl (fun _=>?_) (fun _=>?_)<;>try (exfalso;omega))|refine ru_iteT rfl ?_|refine ru_iteF rfl ?_|refine is_not rfl rfl ?_|refine is_addS rfl rfl (by omega) ?_|refine is_subS rfl rfl (by omega) ?_|refine is_boxG rfl rfl rfl ?_|refine is_stT rfl rfl rfl rfl rfl rfl ?_|refine is_callE rfl rfl rfl (hGt) ?_|refine ru_skip ?_|refine ru_block ?_|refine rk_blk ?_|refine rk_inv ?_)
  all_goals try contradiction
  all_goals try (exfalso;omega)
  exact ⟨(j+1,G++[.arr 3 0 [.agg [.int .i64 y.h,.str y.text,.lit (y.ks.map Kid.av)]]]),⟨rfl,congrArg (St.mk A false) eb⟩,by simp only;omega,by simp only;omega⟩
end Go.Q15
namespace Go.Q15
open Go Go.QAbs
set_option maxRecDepth 100000
set_option maxHeartbeats 16000000
theorem beyond_no {texts:List (List UInt8)} {ys:List Ed} (h:¬ beyondP texts ys):(texts.flatten.length≤900∧texts.length≤4)∧ys.length≤12∧∀ y∈ys,y.text.length≤200:=by
 have h1:¬ longP texts:=fun q=>h (.inl q)
 have h2:¬ manyQ ys:=fun q=>h (.inr (.inl q))
 have h3:¬ 12<ys.length:=fun q=>h (.inr (.inr q))
 obtain ⟨a,b,c⟩:=guards h1 h2
 exact ⟨a,by omega,c⟩
theorem SeekPaths_c (texts:List (List UInt8)) (ys:List Ed) (which at_:Int) (hb:texts.length<9223372036854775808) (hbs:∀ s∈texts,s.length<9223372036854775808) (hy:ys.length<9223372036854775808) (hys:∀ y∈ys,y.text.length<9223372036854775808) (st:St) :
 S Tb F_quartolaw17_SeekPaths [.lit (texts.map .str),.lit (ys.map Ed.av),.int .i64 which,.int .i64 at_] st=some (.bool true,st):=by
 refine s_of rfl (fun A hA=>?_)
 have hBy:=fun st=>Beyond_c texts ys hb hbs hy hys st
 have hWk:=fun st=>works17_c st
 by_cases hl:beyondP texts ys
 ·simp only [decide_eq_true hl] at hBy
  repeat' (first|refine ru_seq ?_|refine ru_reg ?_|refine is_mv rfl ?_|refine is_nil rfl ?_|refine rk_seq ?_|refine ru_iteT rfl ?_|refine is_callE rfl rfl rfl (hBy _) ?_|refine is_callE rfl rfl rfl (hWk _) ?_|refine ru_ret ?_|refine rk_nil ?_|refine rk_seq_ret ?_)
  all_goals try contradiction
  all_goals refine end_st hA (by first|exact .inl rfl|exact .inr rfl) rfl rfl rfl rfl ?_
  all_goals rfl
 simp only [decide_eq_false hl] at hBy
 obtain ⟨h9,h12,hy2⟩:=beyond_no hl
 obtain ⟨v,st',hMk,r,c,ros,ss,G0,G1,n,rfl,rfl,hI⟩:=Make_c texts ys h9 h12 hy2 A
 have hn20:=hI.n20
 have hrs:=hI.len
 have hsl:=hI.rts.1
 rcases Nat.eq_zero_or_pos n with hn0|hpos
 ·subst hn0
  repeat' (first|refine ru_seq ?_|refine ru_reg ?_|refine is_mv rfl ?_|refine is_ext rfl rfl ?_|refine is_nil rfl ?_|refine rk_seq ?_|refine is_lenR rfl ?_|(refine is_eql rfl rfl (fun _=>?_) (fun _=>?_)<;>try (exfalso;omega))|refine ru_iteT rfl ?_|refine ru_iteF rfl ?_|refine is_not rfl rfl ?_|refine is_callE rfl rfl rfl (hBy _) ?_|refine is_callE rfl rfl rfl (hWk _) ?_|refine is_callE rfl rfl rfl (hMk) ?_|refine ru_skip ?_|refine ru_ret ?_|refine rk_nil ?_|refine rk_seq_ret ?_)
  all_goals try contradiction
  all_goals try (exfalso;omega)
  all_goals refine end_st hA (by first|exact .inl rfl|exact .inr rfl) rfl rfl rfl rfl ?_
  all_goals rfl
 have hpb:=pickM_bounds (x:=which) (n:=(n:Int)-1) (by omega)
 have hPk:=fun st=>Pick_c which ((n:Int)-1) (by omega) (by omega) st
 generalize pickM which ((n:Int)-1)=z at *
 obtain ⟨ro,hro⟩:∃ x,ros[z.toNat]?=some x:=⟨_,List.getElem?_eq_getElem (by omega)⟩
 obtain ⟨s,hs⟩:∃ x,ss[z.toNat]?=some x:=⟨_,List.getElem?_eq_getElem (by omega)⟩
 have hRt:=hI.rts.2 z.toNat ro s hro hs
 have hsm:=hI.small s (List.mem_of_getElem? hs)
 have f6:(ltL A.length r n ros G0 c ss G1)[6]?=_:=lt_6
 have f7:(ltL A.length r n ros G0 c ss G1)[7+G0.length]?=_:=lt_7
 have g6:(ros.map Ro.av)[0+z.toNat]?=some ro.av:=by rw [Nat.zero_add,List.getElem?_map,hro];rfl
 have g7:(ss.map AV.str)[0+z.toNat]?=some (.str s):=by rw [Nat.zero_add,List.getElem?_map,hs];rfl
 rcases Nat.eq_zero_or_pos s.length with hs0|hspos
 ·obtain rfl:s=[]:=List.length_eq_zero_iff.1 hs0
  generalize ltL A.length r n ros G0 c ss G1=X at *
  repeat' (first|refine is_ixRc rfl rfl (by omega) f7 ?_|refine is_ldc rfl f7 g7 rfl ?_|refine ru_seq ?_|refine ru_reg ?_|refine is_mv rfl ?_|refine is_ext rfl rfl ?_|refine is_nil rfl ?_|refine rk_seq ?_|refine is_lenSF rfl rfl ?_|refine is_lenR rfl ?_|(refine is_eql rfl rfl (fun _=>?_) (fun _=>?_)<;>try (exfalso;omega))|refine ru_iteT rfl ?_|refine ru_iteF rfl ?_|refine is_not rfl rfl ?_|refine is_subS rfl rfl (by omega) ?_|refine is_callE rfl rfl rfl (hBy _) ?_|refine is_callE rfl rfl rfl (hWk _) ?_|refine is_callE rfl rfl rfl (hMk) ?_|refine is_callE rfl rfl rfl (hPk _) ?_|refine ru_skip ?_|refine ru_ret ?_|refine rk_nil ?_|refine rk_seq_ret ?_)
  all_goals try contradiction
  all_goals try (exfalso;omega)
  all_goals refine end_st hA (by first|exact .inl rfl|exact .inr rfl) rfl rfl rfl rfl ?_
  all_goals rfl
 have hab:=pickM_bounds (x:=at_) (n:=(s.length:Int)-1) (by omega)
 have hPa:=fun st=>Pick_c at_ ((s.length:Int)-1) (by omega) (by omega) st
 generalize pickM at_ ((s.length:Int)-1)=a at *
 have hmb:=(hRt.b hI.good).2
 have hR:=lt_rd (A:=A) (r:=r) (v:=n) (ros:=ros) (G0:=G0) (w:=c) (ss:=ss) (G1:=G1)
 have hLf:=Leaf_c hI.good (b:=0) hR hRt.rt a (by omega) (by omega) (by omega)
 obtain ⟨d,hd⟩:∃ x,s[a.toNat]?=some x:=⟨_,List.getElem?_eq_getElem (by omega)⟩
 have hBt:=Byte_t hI.good (b:=0) hR hRt hd (by omega)
 rw [show ((a.toNat:Nat):Int)=a by omega] at hBt
 obtain ⟨pre,leaf,post,t1,t2,t3,t4⟩:=seekB_text hI.good hRt (a:=a) (by omega) (by omega)
 obtain ⟨hz,x,x1,x2,x3,x4⟩:=hRt.rt.nz (by omega)
 obtain ⟨p1,p2,p3⟩:=seek_path (q:=Mea.b) comp_b hI.good ro.h ro.at_ x a x1 x3 (by omega) (by rw [x4];omega)
 have h13:=hRt.rt.h13 hI.good
 have hlp:=fun hh=>sp_loop hA hI.good (v:=n) (n:=n) (w:=c) (ss:=ss) (G0:=G0) (G1:=G1) (z:=z) hh (by omega) hro h13 p1 p3
 change ∀ hh,Ru (S Tb) p_quartolaw17_SeekPaths_34.loop _ _ [_,_,_,(14,.str (seekB r.nodes ro a).1.1),(16,.lit ((seekB r.nodes ro a).2.1.map hnAV)),_] _ at hlp
 change (seekB r.nodes ro a).2.1.length=_ at p1
 change (seekB r.nodes ro a).2.1[0]?=_ at p2
 have hd2:leaf[(a-pre.length).toNat]?=some d:=by
  rw [t1,List.append_assoc,List.getElem?_append_right (by omega),List.getElem?_append_left (by omega)] at hd
  rw [show (a-(pre.length:Int)).toNat=a.toNat-pre.length by omega];exact hd
 rw [t2] at hLf hlp
 simp only at hLf
 simp only at hlp
 generalize (seekB r.nodes ro a).2.1=path at *
 have hlp:=hlp (by omega)
 have q0:0≤(0:Int)∧path[(0:Int).toNat]?=some ro.at_:=⟨by decide,p2⟩
 have hll:s.length=pre.length+leaf.length+post.length:=by rw [t1];simp [Nat.add_assoc]
 have hsl3:(s.drop (a-(a-pre.length)).toNat).take (a-(a-(pre.length:Int))+leaf.length-(a-(a-pre.length))).toNat=leaf:=by
  rw [show (a-(a-(pre.length:Int))).toNat=pre.length by omega,show (a-(a-(pre.length:Int))+leaf.length-(a-(a-pre.length))).toNat=leaf.length by omega,t1,List.append_assoc,List.drop_left,List.take_left]
 generalize ltL A.length r n ros G0 c ss G1=X at *
 repeat' (first|exact hlp|refine is_ixRc rfl rfl (by omega) f7 ?_|refine is_ldc rfl f7 g7 rfl ?_|refine is_ixRc rfl rfl (by omega) f6 ?_|refine is_ldc rfl f6 g6 (ro_part _) ?_|refine is_ldc rfl f6 g6 rfl ?_|refine is_ixStr rfl rfl (by omega) hd2 ?_|refine is_ixStr rfl rfl (by omega) hd ?_|refine len1L rfl ?_|refine is_ixKn (f:=hnAV) rfl rfl q0 (fun _=>rfl) ?_|refine is_slcS_lh rfl rfl rfl (by omega) ?_|refine ru_seq ?_|refine ru_reg ?_|refine is_mv rfl ?_|refine is_fadr rfl rfl ?_|refine is_gT rfl ?_|refine is_pick rfl rfl rfl rfl ?_|refine is_ext rfl rfl ?_|refine is_nil rfl ?_|refine rk_seq ?_|refine is_lenS rfl ?_|refine is_lenR rfl ?_|refine is_ldl rfl rfl ?_|(refine is_lss rfl rfl (fun _=>?_) (fun _=>?_)<;>try (exfalso;omega))|(refine is_gtr rfl rfl (fun _=>?_) (fun _=>?_)<;>try (exfalso;omega))|(refine is_geq rfl rfl (fun _=>?_) (fun _=>?_)<;>try (exfalso;omega))|(refine is_eql rfl rfl (fun _=>?_) (fun _=>?_)<;>try (exfalso;omega))|(refine is_neq rfl rfl (fun _=>?_) (fun _=>?_)<;>try (exfalso;omega))|(refine is_neqS rfl rfl (fun _=>?_) (fun _=>?_)<;>try contradiction)|refine ru_iteF rfl ?_|refine is_not rfl rfl ?_|refine is_addS rfl rfl (by omega) ?_|refine is_subS rfl rfl (by omega) ?_|refine is_callE rfl rfl rfl (hBy _) ?_|refine is_callE rfl rfl rfl (hMk) ?_|refine is_callE rfl rfl rfl (hPk _) ?_|refine is_callE rfl rfl rfl (hPa _) ?_|refine is_callE rfl rfl rfl (hLf) ?_|refine is_callE rfl rfl rfl (hBt) ?_|refine ru_skip ?_|refine ru_block ?_)
 all_goals try contradiction
 all_goals try (exfalso;omega)
 all_goals first|exact absurd rfl ‹_›|exact absurd hsl3 ‹_›
end Go.Q15
namespace Go.Q15
open Go Go.QAbs
theorem seekPaths_run (ss:List (List UInt8)) (l:List (Nat × Int × Int × Int × List UInt8)) (which at_:Int) (h1:∀ s∈ss,s.length≤maxLen) (h2:ss.length≤maxLen) (h3:∀ s∈l,s.2.2.2.2.length≤maxLen) (h4:l.length≤maxLen) (_h5:(Lit.int .i64 which).wf=true) (_h6:(Lit.int .i64 at_).wf=true) :
 ∃ st',S Tb F_quartolaw17_SeekPaths [.lit (ss.map .str),.lit (l.map fun q=>.agg [.int .u8 q.1,.int .i64 q.2.1,.int .i64 q.2.2.1,.int .i64 q.2.2.2.1,.str q.2.2.2.2]),.int .i64 which,.int .i64 at_] .empty=some (.bool true,st'):=by
 have hm:maxLen<9223372036854775808:=by decide +kernel
 have:=SeekPaths_c ss (l.map mkEd) which at_ (by omega) (fun s hs=>by have:=h1 s hs;omega) (by rw [List.length_map];omega) (fun s hs=>by obtain ⟨q,hq,rfl⟩:=List.mem_map.1 hs;have:=h3 q hq;simp only [mkEd];omega) .empty
 rw [List.map_map] at this
 exact ⟨_,this⟩
end Go.Q15
