/- A part of the proof: SL, SM, TYt. No condition. -/
import Derived.Test.YtbmllhocajbcfaaRoT7
set_option linter.unusedVariables false
set_option linter.unusedSimpArgs false
namespace Go.Q15
open Go Go.QAbs
set_option maxRecDepth 100000
set_option maxHeartbeats 16000000
theorem laidV_nl (texts:List (List UInt8)) (hl:texts.flatten.length≤900):∀ i,i≤texts.length→(laidV (texts.take i)).1.nodes.length+(laidV (texts.take i)).1.n=1500:=by
 intro i
 induction i with
 | zero=>intro _;simp [laidV,newAR]
 | succ i ih =>
  intro hi
  obtain ⟨s,hs⟩:∃ s,texts[i]?=some s:=⟨texts[i]'(by omega),by simp [show i<texts.length by omega]⟩
  have hl2:=flat_le texts (i+1)
  have h:=laidV_ok texts hl i (by omega)
  obtain ⟨hn,_⟩:=laidF_ok (s:=s) h (by rw [← take_succ_get hs];omega)
  have hfl:=flat_get hs
  have hs2:s.length≤900:=by rw [hfl,List.length_append] at hl2;omega
  obtain ⟨b1,b2,b3⟩:=buildM_ok h.good (show s.length≤65536 by omega)
  obtain ⟨w1,_⟩:=wr_rt (has_cur [] [] [] _) h.ok h.good b1 (by rw [b3];omega) hn
  have h1:=w1.n
  have h2:=w1.nl
  have h3:=ih (by omega)
  rw [take_succ_get hs,laidV_snoc]
  show (wrV (buildM s) _).1.nodes.length+(wrV (buildM s) _).1.n=1500
  omega
theorem slots_tail {st:St} {A:List (Bool × List Blk)} (hA:A=st.A++[(st.ro,st.L)]) {N0:Nodes} {r:AR} {v n:Nat} {ros:List Ro} {G:List Blk} {which:Int} (hI:ShInv N0 r ros n) (h0:0<n) (hn:n<65536) (hnl:r.nodes.length≤65536) :
 Ru (S T3) (p_quartolaw16_RopeSlots_28.seq (p_quartolaw16_RopeSlots_29.seq (p_quartolaw16_RopeSlots_30.seq (p_quartolaw16_RopeSlots_31.seq (p_quartolaw16_RopeSlots_32.seq ((p_quartolaw16_RopeSlots_33.seq (.ite (.s 201) (p_quartolaw16_RopeSlots_34.seq .ret) .skip)).seq ((p_quartolaw16_RopeSlots_35.seq (.block 4 (.loop p_quartolaw16_RopeSlots_40))).seq (p_quartolaw16_RopeSlots_41.seq .ret)))))))) [] (fun x e st'=>endK false [RV.s 6] (x,e,st')=some (AV.bool true,st))
  [(2,.int .i64 which),(7,.ptr A.length 5 0 0 0),(8,.ref A.length 6 v 0 n),(140,.bool false)] ⟨A,false,shL A.length r v ros G⟩:=by
 have hrs:=hI.len
 obtain ⟨ro,hp,hmem,hplt⟩:=pickR_lt (x:=which) (ros:=ros) (fun e=>by subst e;simp at hrs;omega)
 have hpb:=pickM_bounds (x:=which) (n:=(ros.length:Int)-1) (by omega)
 have hPk:=fun st=>up3 (pick_c which ((ros.length:Int)-1) (by omega) (by omega) st)
 unfold pickR at hp
 rw [hrs] at hp hplt hpb hPk
 generalize pickM which ((n:Int)-1)=z at *
 have hR:=hI.rts ro hmem
 have f6:(shL A.length r v ros G)[6]?=_:=sh_6
 have g6:(ros.map Ro.av)[0+z.toNat]?=some ro.av:=by rw [Nat.zero_add,List.getElem?_map,hp];rfl
 have hH:=fun (r:AR) T=>(sh_has (A:=A) (r:=r) (v:=v) (ros:=ros) (G:=G++T))
 have hlive:∀ o∈onceV (nodesR r.nodes ro),∃ y,lk r.nodes o=some y:=fun o ho=>nodesR_live hI.good hR o (((onceV_spec _).2.1 o).1 ho)
 have hnd:=(onceV_spec (nodesR r.nodes ro)).1
 have hfew:=hI.ok.few hnd hlive
 have hNd:=Nodes_c hI.good (b:=0) (hH r [.arr 5 0 [ro.av]]).r.rd hR
 have o1:=hI.ok.n16
 have o2:=hI.ok.nn
 have hSt:=up3 (Stats_c (hH r [.arr 5 0 [ro.av]]).r hI.ok.nb o1 (by omega))
 have hFr:=rFree_c (hH r ([.arr 5 0 [ro.av]]++[.arr 7 0 [r.statsAV]])) hI.ok hI.good hR (by omega)
 have hF:=hI.ok.fok hnd hlive (by omega)
 have hlive2:=hF.live
 rw [← List.append_nil (onceV (nodesR r.nodes ro))] at hF
 obtain ⟨d1,d2,d3,d4⟩:=hF.dels
 rw [sh_set] at hFr
 generalize onceV (nodesR r.nodes ro)=l at *
 generalize delL r l=rD at *
 have e1:=slotsTo_len r.states 2 r.states.length
 have e2:=slotsTo_len rD.states 2 rD.states.length
 have e3:=d1.n16
 change (slotsL r.states 2).length≤_ at e1
 change (slotsL rD.states 2).length≤_ at e2
 have hD1:=hH rD ([Blk.arr 5 0 [ro.av]]++[.arr 7 0 [r.statsAV]])
 have hSt2:=up3 (Stats_c hD1.r d1.nb e3 (by omega))
 have hD2:=fun b=>(hH rD ([Blk.arr 5 0 [ro.av]]++[.arr 7 0 [r.statsAV]]++[b])).r
 have f21:∀ b,(shL A.length rD v ros (G++[.arr 5 0 [ro.av]]++[.arr 7 0 [r.statsAV]])++[b])[(shL A.length r v ros G++[Blk.arr 5 0 [ro.av]]).length]?=some (Blk.arr 7 0 [r.statsAV]):=fun b=>by
  rw [List.getElem?_append_left (by rw [sh_len,List.length_append,sh_len];simp;omega),← sh_box]
  rw [show (shL A.length r v ros G++[Blk.arr 5 0 [ro.av]]).length=(shL A.length rD v ros (G++[Blk.arr 5 0 [ro.av]])).length by rw [List.length_append,sh_len,sh_len];simp;omega]
  exact List.getElem?_concat_length ..
 have f18:∀ b,(shL A.length r v ros G++[.arr 5 0 [ro.av]]++[b])[(shL A.length r v ros G).length]?=some (.arr 5 0 [ro.av]):=fun b=>by
  rw [List.getElem?_append_left (by simp)];exact List.getElem?_concat_length ..
 rw [← List.append_assoc,← sh_box,← sh_box] at hFr
 rw [← sh_box] at hNd hSt
 rw [← List.append_assoc] at hSt2
 have hE:∀ o∈l,deadS rD o∧o<18446744073709551616:=fun o ho=>by
  obtain ⟨p1,_,x,p3⟩:=hlive2 o ho
  exact ⟨d4 o (.inr ho),(hI.ok.live p3).2⟩
 have hnl2:l.length≤16384:=hfew
 have hdN:rD.n+(slotsL rD.states 2).length=r.n+(slotsL r.states 2).length+l.length:=d2
 unfold AR.statsAV at *
 repeat' (first|refine is_ixRc rfl rfl (by omega) f6 ?_|refine is_ldc rfl f6 g6 rfl ?_|refine len1L rfl ?_|refine is_ldc rfl (f21 _) rfl rfl ?_|refine is_ldc rfl (f18 _) rfl rfl ?_|refine ru_seq ?_|refine ru_reg ?_|refine is_mv rfl ?_|refine is_fadr rfl rfl ?_|refine is_gT rfl ?_|refine is_pick rfl rfl rfl rfl ?_|refine is_ext rfl rfl ?_|refine is_nil rfl ?_|refine rk_seq ?_|refine is_lenR rfl ?_|refine is_ldT rfl rfl rfl ?_|(refine is_neq rfl rfl (fun _=>?_) (fun _=>?_)<;>try (exfalso;omega))|refine ru_iteF rfl ?_|refine is_addS rfl rfl (by omega) ?_|refine is_subS rfl rfl (by omega) ?_|refine is_boxG rfl rfl rfl ?_|refine is_stT rfl rfl rfl rfl rfl rfl ?_|refine is_callE rfl rfl rfl (hPk _) ?_|refine is_callE rfl rfl rfl (hNd) ?_|refine is_callE rfl rfl rfl (hSt) ?_|refine is_callE rfl rfl rfl (hFr) ?_|refine is_callE rfl rfl rfl (hSt2) ?_|refine ru_skip ?_|refine ru_block ?_)
 all_goals try contradiction
 all_goals try (exfalso;omega)
 have hD3:=hD2 (.arr 7 0 [rD.statsAV])
 rw [← List.append_assoc,← List.append_assoc,← sh_box] at hD3
 exact slots_dead hA hD3 d1.gl hE (by omega)
end Go.Q15
namespace Go.Q15
open Go Go.QAbs
set_option maxRecDepth 100000
set_option maxHeartbeats 16000000
theorem RopeSlots_c (texts:List (List UInt8)) (ys:List Ed) (which:Int) (hb:texts.length<9223372036854775808) (hbs:∀ s∈texts,s.length<9223372036854775808) (hy:ys.length<9223372036854775808) (hys:∀ y∈ys,y.text.length<9223372036854775808) (st:St) :
 S T3 F_quartolaw16_RopeSlots [.lit (texts.map .str),.lit (ys.map Ed.av),.int .i64 which] st=some (.bool true,st):=by
 refine s_of (le3 F_quartolaw16_RopeSlots (.pf p_quartolaw16_RopeSlots) rfl) (fun A hA=>?_)
 have hLg:=fun st=>up3 (long_c texts hb hbs st)
 have hMn:=fun st=>up3 (many16_c ys hy hys st)
 have hWk:=fun st=>works_c st
 by_cases hl:longP texts
 ·simp only [decide_eq_true hl] at hLg
  repeat' (first|refine ru_seq ?_|refine ru_reg ?_|refine is_mv rfl ?_|refine is_gF rfl rfl ?_|refine is_pick rfl rfl rfl rfl ?_|refine is_nil rfl ?_|refine rk_seq ?_|refine ru_iteT rfl ?_|refine is_callE rfl rfl rfl (hLg _) ?_|refine is_callE rfl rfl rfl (hWk _) ?_|refine ru_ret ?_|refine rk_nil ?_|refine rk_seq_ret ?_)
  all_goals try contradiction
  all_goals try (exfalso;omega)
  all_goals refine end_st hA (by first|exact .inl rfl|exact .inr rfl) rfl rfl rfl rfl ?_
  all_goals rfl
 simp only [decide_eq_false hl] at hLg
 by_cases hm:manyQ ys
 ·simp only [decide_eq_true hm] at hMn
  repeat' (first|refine ru_seq ?_|refine ru_reg ?_|refine is_mv rfl ?_|refine is_gT rfl ?_|refine is_gF rfl rfl ?_|refine is_pick rfl rfl rfl rfl ?_|refine is_nil rfl ?_|refine rk_seq ?_|refine ru_iteT rfl ?_|refine is_callE rfl rfl rfl (hLg _) ?_|refine is_callE rfl rfl rfl (hMn _) ?_|refine is_callE rfl rfl rfl (hWk _) ?_|refine ru_ret ?_|refine rk_nil ?_|refine rk_seq_ret ?_)
  all_goals try contradiction
  all_goals try (exfalso;omega)
  all_goals refine end_st hA (by first|exact .inl rfl|exact .inr rfl) rfl rfl rfl rfl ?_
  all_goals rfl
 simp only [decide_eq_false hm] at hMn
 obtain ⟨h9,hm60⟩:=guards hl hm
 obtain ⟨r0,ros0,G0,hLd,hok,hgd,hrt,hlv,_⟩:=laid_sh texts h9 A
 have hP:PlanOk r0.nodes ros0:=hrt.plan hgd (by have:=hrt.1;omega) (fun s hs=>by have:=laid_small h9.1 s hs;omega)
 have hrl:=hrt.1
 have hnl0:=laidV_nl texts h9.1 texts.length (Nat.le_refl _)
 rw [List.take_length,hlv] at hnl0
 replace hnl0:r0.nodes.length+r0.n=1500:=hnl0
 have hPl:=up3 (plans_c (b:=0) hgd (sh_rd (A:=A) (r:=r0) (v:=texts.length) (ros:=ros0) (G:=G0)) (get_top (sh_6 (r:=r0) (v:=texts.length) (G:=G0)) rfl) hP (ys:=ys) (by omega) hm60.2)
 rw [hrl] at hPl
 repeat' (first|refine len1L rfl ?_|refine ru_seq ?_|refine ru_reg ?_|refine is_mv rfl ?_|refine is_gT rfl ?_|refine is_pick rfl rfl rfl rfl ?_|refine is_ext rfl rfl ?_|refine is_nil rfl ?_|refine rk_seq ?_|(refine is_gtr rfl rfl (fun _=>?_) (fun _=>?_)<;>try (exfalso;omega))|refine ru_iteT rfl ?_|refine ru_iteF rfl ?_|refine is_not rfl rfl ?_|refine is_callE rfl rfl rfl (hLg _) ?_|refine is_callE rfl rfl rfl (hMn _) ?_|refine is_callE rfl rfl rfl (hWk _) ?_|refine is_callE rfl rfl rfl (hLd) ?_|refine is_callE rfl rfl rfl (hPl) ?_|refine ru_skip ?_|refine ru_ret ?_|refine ru_block ?_|refine rk_nil ?_|refine rk_seq_ret ?_)
 all_goals try contradiction
 all_goals try (exfalso;omega)
 ·refine end_st hA (by first|exact .inl rfl|exact .inr rfl) rfl rfl rfl rfl ?_
  rfl
 rename_i h15
 refine ru_loopP (α:=Nat × AR × List Blk) (fun q=>[(2,.int .i64 which),(7,.ptr A.length 5 0 0 0),(8,.ref A.length 6 texts.length 0 texts.length),(10,.lit ((ys.map (planV r0.nodes ros0)).map Tr.av)),(11,.int .i64 q.1)])
  (fun q=>⟨A,false,shL A.length q.2.1 texts.length ros0 q.2.2⟩) (fun q=>q.1≤ys.length∧ShInv r0.nodes q.2.1 ros0 texts.length∧q.2.1.nodes.length+q.2.1.n=1500∧(0≤q.2.1.allocs∧q.2.1.allocs≤10000000000)) (fun q=>ys.length-q.1) (0,r0,G0) rfl rfl ⟨Nat.zero_le _,⟨hok,hgd,Ext.refl _,fun ro hro=>?_,hrl⟩,hnl0,?_⟩ ?_
 ·obtain ⟨i,hi⟩:=List.mem_iff_getElem?.1 hro
  have hi1:i<ros0.length:=(List.getElem?_eq_some_iff.1 hi).1
  exact (hrt.2 i ro (texts[i]'(by omega)) hi (List.getElem?_eq_getElem (by omega))).rt
 ·have:=hok.al;have:=hok.fr;have:=hok.sl;show 0≤r0.allocs∧r0.allocs≤_;omega
 rintro ⟨i,r,G⟩ ⟨hi,hI,hnl,hal⟩
 simp only at hi hI hnl hal ⊢
 have hyl:(ys.map (planV r0.nodes ros0)).length=ys.length:=List.length_map ..
 have o1:=hI.ok.n16
 have o2:=hI.ok.nn
 have hH:=fun (r:AR) T=>(sh_has (A:=A) (r:=r) (v:=texts.length) (ros:=ros0) (G:=G++T))
 rcases Nat.lt_or_ge i ys.length with hlt|hge
 ·obtain ⟨y,hyi⟩:∃ y,ys[i]?=some y:=⟨ys[i]'(by omega),by simp [hlt]⟩
  have hy2:=hm60.2 y (List.mem_of_getElem? hyi)
  obtain ⟨hv,hvb⟩:=planV_ok hgd hP hy2
  have hti:(ys.map (planV r0.nodes ros0))[i]?=some (planV r0.nodes ros0 y):=by rw [List.getElem?_map,hyi];rfl
  generalize planV r0.nodes ros0 y=t at *
  generalize ys.map (planV r0.nodes ros0)=ts at *
  have q:0≤((i:Nat):Int)∧ts[((i:Nat):Int).toNat]?=some t:=⟨by omega,by rw [show ((i:Nat):Int).toNat=i by omega];exact hti⟩
  replace hv:=hv.ext hI.ext
  have hSt:=up3 (Stats_c (hH r []).r hI.ok.nb o1 (by omega))
  rw [List.append_nil] at hSt
  have hNw:=fun st=>up3 (New_ve hI.good hv (by omega) st)
  rcases Nat.lt_or_ge r.n (nw t) with hfull|hroom
  ·have hWr:=up3 (Write_full (hH r [.arr 7 0 [r.statsAV]]) hI.ok hI.good hv (by omega) hfull)
   have hSt2:=up3 (Stats_c (hH r ([.arr 7 0 [r.statsAV]]++[.arr 5 0 [Ro.zero.av]])).r hI.ok.nb o1 (by omega))
   have f12:∀ b,(shL A.length r texts.length ros0 G++[.arr 7 0 [r.statsAV]]++[.arr 5 0 [Ro.zero.av]]++[b])[(shL A.length r texts.length ros0 G).length]?=some (.arr 7 0 [r.statsAV]):=fun b=>by
    rw [List.getElem?_append_left (by simp),List.getElem?_append_left (by simp)];exact List.getElem?_concat_length ..
   have hEq:=eqStats r
   rw [← sh_box] at hWr
   rw [← List.append_assoc,← sh_box,← sh_box] at hSt2
   generalize shL A.length r texts.length ros0 G=X at *
   unfold AR.statsAV at *
   repeat' (first|refine len1L rfl ?_|refine is_ixKn rfl rfl q tr_wide ?_|refine is_ldc rfl (f12 _) rfl rfl ?_|refine is_eqs rfl rfl hEq rfl ?_|refine ru_seq ?_|refine ru_reg ?_|refine is_mv rfl ?_|refine is_fadr rfl rfl ?_|refine is_gT rfl ?_|refine is_pick rfl rfl rfl rfl ?_|refine is_ext rfl rfl ?_|refine is_nil rfl ?_|refine rk_seq ?_|refine is_ldT rfl rfl rfl ?_|(refine is_lss rfl rfl (fun _=>?_) (fun _=>?_)<;>try (exfalso;omega))|(refine is_gtr rfl rfl (fun _=>?_) (fun _=>?_)<;>try (exfalso;omega))|(refine is_eql rfl rfl (fun _=>?_) (fun _=>?_)<;>try (exfalso;omega))|refine ru_iteT rfl ?_|refine is_boxG rfl rfl rfl ?_|refine is_stT rfl rfl rfl rfl rfl rfl ?_|refine is_ldl rfl (tr_part _) ?_|refine is_callE rfl rfl (by first|rfl|(simp only [List.nil_append,List.append_nil,List.cons_append,weaks,tr_weak,forceL];first|done|rfl)) (hSt) ?_|refine is_callE rfl rfl (by first|rfl|(simp only [List.nil_append,List.append_nil,List.cons_append,weaks,tr_weak,forceL];first|done|rfl)) (hWr) ?_|refine is_callE rfl rfl (by first|rfl|(simp only [List.nil_append,List.append_nil,List.cons_append,weaks,tr_weak,forceL];first|done|rfl)) (hSt2) ?_|refine is_callP rfl rfl (wk1 _) (hNw _) ?_|refine is_callE rfl rfl (by first|rfl|(simp only [List.nil_append,List.append_nil,List.cons_append,weaks,tr_weak,forceL];first|done|rfl)) (hWk _) ?_|refine ru_skip ?_|refine ru_ret ?_|refine ru_block ?_|refine rk_nil ?_|refine rk_seq_ret ?_|refine rk_blk_ret ?_|refine rk_inv_ret ?_)
   all_goals try contradiction
   all_goals try (exfalso;omega)
   all_goals refine end_st hA (by first|exact .inl rfl|exact .inr rfl) rfl rfl rfl rfl ?_
   all_goals rfl
  ·have hWr:=up3 (Write_c (hH r [.arr 7 0 [r.statsAV]]) hI.ok hI.good hv (by omega) hroom)
   obtain ⟨w1,w2⟩:=wr_rt (hH r []) hI.ok hI.good hv (by omega) hroom
   rw [sh_set] at hWr
   have n1:=w1.ok.n16
   have n2:=w1.ok.nn
   have n3:=w1.n
   have n4:=w1.len
   have n5:=w1.allocs
   have n6:=w1.nl
   generalize (wrV t r).1=r2 at *
   generalize (wrV t r).2.1=ro at *
   generalize (wrV t r).2.2=hh at *
   have hSt2:=up3 (Stats_c (hH r2 ([.arr 7 0 [r.statsAV]]++[.arr 5 0 [ro.av]])).r w1.ok.nb n1 (by omega))
   have f12:∀ b,(shL A.length r2 texts.length ros0 (G++[.arr 7 0 [r.statsAV]])++[.arr 5 0 [ro.av]]++[b])[(shL A.length r texts.length ros0 G).length]?=some (.arr 7 0 [r.statsAV]):=fun b=>by
    rw [List.getElem?_append_left (by simp [sh_len];omega),List.getElem?_append_left (by simp [sh_len]),← sh_box,show (shL A.length r texts.length ros0 G).length=(shL A.length r2 texts.length ros0 G).length by rw [sh_len,sh_len]]
    exact List.getElem?_concat_length ..
   have hLr:=(hH r2 ([.arr 7 0 [r.statsAV]]++[.arr 5 0 [ro.av]]++[.arr 7 0 [r2.statsAV]])).r
   rw [← sh_box] at hWr
   rw [← List.append_assoc,← sh_box] at hSt2
   rw [← List.append_assoc,← List.append_assoc,← sh_box,← sh_box] at hLr
   have hG:shL A.length r2 texts.length ros0 (G++[.arr 7 0 [r.statsAV]])++[.arr 5 0 [ro.av]]++[.arr 7 0 [r2.statsAV]]=shL A.length r2 texts.length ros0 (G++[.arr 7 0 [r.statsAV]]++[.arr 5 0 [ro.av]]++[.arr 7 0 [r2.statsAV]]):=by rw [sh_box,sh_box]
   generalize hX:shL A.length r texts.length ros0 G=X at *
   generalize hX2:shL A.length r2 texts.length ros0 (G++[.arr 7 0 [r.statsAV]])=X2 at *
   unfold AR.statsAV at *
   repeat' (first|refine slots_live hLr w1.ok w1.has (by omega) ?_|refine len1L rfl ?_|refine is_ixKn rfl rfl q tr_wide ?_|refine is_ldc rfl (f12 _) rfl rfl ?_|refine ru_seq ?_|refine ru_reg ?_|refine is_mv rfl ?_|refine is_fadr rfl rfl ?_|refine is_gT rfl ?_|refine is_pick rfl rfl rfl rfl ?_|refine is_ext rfl rfl ?_|refine is_nil rfl ?_|refine rk_seq ?_|refine is_ldT rfl rfl rfl ?_|(refine is_lss rfl rfl (fun _=>?_) (fun _=>?_)<;>try (exfalso;omega))|(refine is_gtr rfl rfl (fun _=>?_) (fun _=>?_)<;>try (exfalso;omega))|(refine is_neq rfl rfl (fun _=>?_) (fun _=>?_)<;>try (exfalso;omega))|refine ru_iteT rfl ?_|refine ru_iteF rfl ?_|refine is_addS rfl rfl (by omega) ?_|refine is_subS rfl rfl (by omega) ?_|refine is_boxG rfl rfl rfl ?_|refine is_stT rfl rfl rfl rfl rfl rfl ?_|refine is_ldl rfl (tr_part _) ?_|refine is_callE rfl rfl (by first|rfl|(simp only [List.nil_append,List.append_nil,List.cons_append,weaks,tr_weak,forceL];first|done|rfl)) (hSt) ?_|refine is_callE rfl rfl (by first|rfl|(simp only [List.nil_append,List.append_nil,List.cons_append,weaks,tr_weak,forceL];first|done|rfl)) (hWr) ?_|refine is_callE rfl rfl (by first|rfl|(simp only [List.nil_append,List.append_nil,List.cons_append,weaks,tr_weak,forceL];first|done|rfl)) (hSt2) ?_|refine is_callP rfl rfl (wk1 _) (hNw _) ?_|refine is_callE rfl rfl (by first|rfl|(simp only [List.nil_append,List.append_nil,List.cons_append,weaks,tr_weak,forceL];first|done|rfl)) (hNw _) ?_|refine ru_skip ?_|refine ru_block ?_|refine rk_blk ?_|refine rk_inv ?_)
   all_goals try contradiction
   all_goals try (exfalso;omega)
   have a1:=w1.ok.al
   have a2:=w1.ok.fr
   have a3:=w1.ok.sl
   exact ⟨(i+1,r2,G++[.arr 7 0 [r.statsAV]]++[.arr 5 0 [ro.av]]++[.arr 7 0 [r2.statsAV]]),⟨rfl,congrArg (St.mk A false) hG⟩,⟨by simp only;omega,⟨w1.ok,w1.good,hI.ext.trans w1.ext,fun x hx=>(hI.rts x hx).ext w1.ext,hI.len⟩,by simp only;omega,by simp only;omega⟩,by simp only;omega⟩
 ·obtain rfl:i=ys.length:=by omega
  repeat' (first|exact slots_tail hA hI (by omega) (by omega) (by omega)|refine len1L rfl ?_|refine ru_seq ?_|refine ru_reg ?_|refine is_mv rfl ?_|refine is_nil rfl ?_|refine rk_seq ?_|refine is_lenR rfl ?_|(refine is_lss rfl rfl (fun _=>?_) (fun _=>?_)<;>try (exfalso;omega))|(refine is_eql rfl rfl (fun _=>?_) (fun _=>?_)<;>try (exfalso;omega))|refine ru_iteT rfl ?_|refine ru_iteF rfl ?_|refine is_callE rfl rfl rfl (hWk _) ?_|refine ru_skip ?_|refine ru_ret ?_|refine ru_exit ?_|refine rk_nil ?_|refine rk_seq_ret ?_|refine rk_seq_ex ?_|refine rk_blk_eq rfl ?_|refine rk_inv_ex ?_)
  all_goals try (exfalso;omega)
  refine end_st hA (by first|exact .inl rfl|exact .inr rfl) rfl rfl rfl rfl ?_
  rfl
end Go.Q15
namespace Go.Q15
open Go Go.QAbs
theorem ropeSlots_run (ss:List (List UInt8)) (l:List (Nat × Int × Int × Int × List UInt8)) (which:Int) (h1:∀ s∈ss,s.length≤maxLen) (h2:ss.length≤maxLen) (h3:∀ s∈l,s.2.2.2.2.length≤maxLen) (h4:l.length≤maxLen) (h5:(Lit.int .i64 which).wf=true) :
 ∃ st',S T3 F_quartolaw16_RopeSlots [.lit (ss.map .str),.lit (l.map fun q=>.agg [.int .u8 q.1,.int .i64 q.2.1,.int .i64 q.2.2.1,.int .i64 q.2.2.2.1,.str q.2.2.2.2]),.int .i64 which] .empty=some (.bool true,st'):=by
 have hm:maxLen<9223372036854775808:=by decide +kernel
 have:=RopeSlots_c ss (l.map mkEd) which (by omega) (fun s hs=>by have:=h1 s hs;omega) (by rw [List.length_map];omega) (fun s hs=>by obtain ⟨q,hq,rfl⟩:=List.mem_map.1 hs;have:=h3 q hq;simp only [mkEd];omega) .empty
 rw [List.map_map] at this
 exact ⟨_,this⟩
end Go.Q15
