/- A part of the proof: SF, TYs. No condition. -/
import Derived.Test.YtbmllhocajbcfaaRsT7
set_option linter.unusedVariables false
set_option linter.unusedSimpArgs false
namespace Go.Q15
open Go Go.QAbs
set_option maxRecDepth 100000
set_option maxHeartbeats 16000000
theorem guards {texts:List (List UInt8)} {ys:List Ed} (hl:¬ longP texts) (hm:¬ manyQ ys):(texts.flatten.length≤900∧texts.length≤4)∧ys.length≤60∧∀ y∈ys,y.text.length≤200:=by
 refine ⟨?_,manyQ_no hm⟩
 have:=longP_no hl
 rw [List.length_flatten]
 omega
theorem laid_sh (texts:List (List UInt8)) (h9:texts.flatten.length≤900∧texts.length≤4) (A:List (Bool × List Blk)) :
 ∃ r0 ros0 G0,S T3 F_quartolaw16_laid [.lit (texts.map .str)] ⟨A,false,[]⟩=some (.tup [.ptr A.length 5 0 0 0,.ref A.length 6 texts.length 0 texts.length,.bool true],⟨A,false,shL A.length r0 texts.length ros0 G0⟩) ∧
  AROk r0∧GoodN r0.nodes∧Rts r0.nodes ros0 texts∧laidV texts=(r0,ros0)∧G0=boxesR ros0:=by
 have hLd:=up3 (laid_c texts h9.1 h9.2 A [])
 have hLok:=laidV_ok texts h9.1 texts.length (Nat.le_refl _)
 rw [List.take_length] at hLok
 obtain ⟨r0,ros0,hV⟩:∃ r0 ros0,laidV texts=(r0,ros0):=⟨_,_,rfl⟩
 rw [hV] at hLd hLok
 exact ⟨r0,ros0,_,hLd,hLok.ok,hLok.good,hLok.rts,hV,rfl⟩
theorem laid_small {texts:List (List UInt8)} (h9:texts.flatten.length≤900):∀ s∈texts,s.length≤900:=by
 intro s hs
 obtain ⟨i,hi,rfl⟩:=List.getElem_of_mem hs
 have h1:=flat_get (l:=texts) (List.getElem?_eq_getElem hi)
 have h2:=flat_le texts (i+1)
 rw [h1,List.length_append] at h2
 omega
theorem RopeShape_c (texts:List (List UInt8)) (ys:List Ed) (hb:texts.length<9223372036854775808) (hbs:∀ s∈texts,s.length<9223372036854775808) (hy:ys.length<9223372036854775808) (hys:∀ y∈ys,y.text.length<9223372036854775808) (st:St) :
 S T3 F_quartolaw16_RopeShape [.lit (texts.map .str),.lit (ys.map Ed.av)] st=some (.bool true,st):=by
 refine s_of (le3 F_quartolaw16_RopeShape (.pf p_quartolaw16_RopeShape) rfl) (fun A hA=>?_)
 have hLg:=fun st=>up3 (long_c texts hb hbs st)
 have hMn:=fun st=>up3 (many16_c ys hy hys st)
 have hWk:=fun st=>works_c st
 by_cases hl:longP texts
 ·simp only [decide_eq_true hl] at hLg
  repeat' (first|refine ru_seq ?_|refine ru_reg ?_|refine is_mv rfl ?_|refine is_gF rfl rfl ?_|refine is_pick rfl rfl rfl rfl ?_|refine is_nil rfl ?_|refine rk_seq ?_|refine ru_iteT rfl ?_|refine is_callE rfl rfl rfl (hLg _) ?_|refine is_callE rfl rfl rfl (hWk _) ?_|refine ru_ret ?_|refine rk_nil ?_|refine rk_seq_ret ?_)
  all_goals try contradiction
  all_goals try (exfalso;omega)
  all_goals refine end_st hA (by first|exact .inl rfl|exact .inr rfl) rfl rfl rfl rfl ?_
  all_goals rfl
 simp only [decide_eq_false hl] at hLg
 by_cases hm:manyQ ys
 ·simp only [decide_eq_true hm] at hMn
  repeat' (first|refine ru_seq ?_|refine ru_reg ?_|refine is_mv rfl ?_|refine is_gT rfl ?_|refine is_gF rfl rfl ?_|refine is_pick rfl rfl rfl rfl ?_|refine is_nil rfl ?_|refine rk_seq ?_|refine ru_iteT rfl ?_|refine is_callE rfl rfl rfl (hLg _) ?_|refine is_callE rfl rfl rfl (hMn _) ?_|refine is_callE rfl rfl rfl (hWk _) ?_|refine ru_ret ?_|refine rk_nil ?_|refine rk_seq_ret ?_)
  all_goals try contradiction
  all_goals try (exfalso;omega)
  all_goals refine end_st hA (by first|exact .inl rfl|exact .inr rfl) rfl rfl rfl rfl ?_
  all_goals rfl
 simp only [decide_eq_false hm] at hMn
 obtain ⟨h9,hm60⟩:=guards hl hm
 obtain ⟨r0,ros0,G0,hLd,hok,hgd,hrt,_,_⟩:=laid_sh texts h9 A
 have hP:PlanOk r0.nodes ros0:=hrt.plan hgd (by have:=hrt.1;omega) (fun s hs=>by have:=laid_small h9.1 s hs;omega)
 have hrl:=hrt.1
 have hPl:=up3 (plans_c (b:=0) hgd (sh_rd (A:=A) (r:=r0) (v:=texts.length) (ros:=ros0) (G:=G0)) (get_top (sh_6 (r:=r0) (v:=texts.length) (G:=G0)) rfl) hP (ys:=ys) (by omega) hm60.2)
 rw [hrl] at hPl
 repeat' (first|refine len1L rfl ?_|refine ru_seq ?_|refine ru_reg ?_|refine is_mv rfl ?_|refine is_gT rfl ?_|refine is_pick rfl rfl rfl rfl ?_|refine is_ext rfl rfl ?_|refine is_nil rfl ?_|refine rk_seq ?_|(refine is_gtr rfl rfl (fun _=>?_) (fun _=>?_)<;>try (exfalso;omega))|refine ru_iteT rfl ?_|refine ru_iteF rfl ?_|refine is_not rfl rfl ?_|refine is_callE rfl rfl rfl (hLg _) ?_|refine is_callE rfl rfl rfl (hMn _) ?_|refine is_callE rfl rfl rfl (hWk _) ?_|refine is_callE rfl rfl rfl (hLd) ?_|refine is_callE rfl rfl rfl (hPl) ?_|refine ru_skip ?_|refine ru_ret ?_|refine ru_block ?_|refine rk_nil ?_|refine rk_seq_ret ?_)
 all_goals try contradiction
 all_goals try (exfalso;omega)
 ·refine end_st hA (by first|exact .inl rfl|exact .inr rfl) rfl rfl rfl rfl ?_
  rfl
 rename_i h15
 refine ru_loopP (α:=Nat × AR × List Ro × List Blk) (fun q=>[(5,.ptr A.length 5 0 0 0),(6,.ref A.length 6 (texts.length+q.1) 0 (texts.length+q.1)),(8,.lit ((ys.map (planV r0.nodes ros0)).map Tr.av)),(9,.int .i64 q.1)])
  (fun q=>⟨A,false,shL A.length q.2.1 (texts.length+q.1) q.2.2.1 q.2.2.2⟩) (fun q=>q.1≤ys.length∧ShInv r0.nodes q.2.1 q.2.2.1 (texts.length+q.1)) (fun q=>ys.length-q.1) (0,r0,ros0,G0) rfl rfl ⟨Nat.zero_le _,hok,hgd,Ext.refl _,fun ro hro=>?_,hrl⟩ ?_
 ·obtain ⟨i,hi⟩:=List.mem_iff_getElem?.1 hro
  have hi1:i<ros0.length:=(List.getElem?_eq_some_iff.1 hi).1
  exact (hrt.2 i ro (texts[i]'(by omega)) hi (List.getElem?_eq_getElem (by omega))).rt
 rintro ⟨i,r,ros,G⟩ ⟨hi,hI⟩
 simp only at hi hI ⊢
 have hrs:=hI.len
 have hyl:(ys.map (planV r0.nodes ros0)).length=ys.length:=List.length_map ..
 rcases Nat.lt_or_ge i ys.length with hlt|hge
 ·obtain ⟨y,hyi⟩:∃ y,ys[i]?=some y:=⟨ys[i]'(by omega),by simp [hlt]⟩
  have hy2:=hm60.2 y (List.mem_of_getElem? hyi)
  obtain ⟨hv,hvb⟩:=planV_ok hgd hP hy2
  have hti:(ys.map (planV r0.nodes ros0))[i]?=some (planV r0.nodes ros0 y):=by rw [List.getElem?_map,hyi];rfl
  generalize planV r0.nodes ros0 y=t at *
  generalize ys.map (planV r0.nodes ros0)=ts at *
  have q:0≤((i:Nat):Int)∧ts[((i:Nat):Int).toNat]?=some t:=⟨by omega,by rw [show ((i:Nat):Int).toNat=i by omega];exact hti⟩
  replace hv:=hv.ext hI.ext
  rcases Nat.lt_or_ge r.n (nw t) with hfull|hroom
  ·have hWr:=up3 (Write_full (sh_has (A:=A) (r:=r) (v:=texts.length+i) (ros:=ros) (G:=G)) hI.ok hI.good hv (by omega) hfull)
   generalize shL A.length r (texts.length+i) ros G=L1 at *
   repeat' (first|refine len1L rfl ?_|refine is_ixKn rfl rfl q tr_wide ?_|refine ru_seq ?_|refine ru_reg ?_|refine is_mv rfl ?_|refine is_gT rfl ?_|refine is_pick rfl rfl rfl rfl ?_|refine is_ext rfl rfl ?_|refine is_nil rfl ?_|refine rk_seq ?_|(refine is_lss rfl rfl (fun _=>?_) (fun _=>?_)<;>try (exfalso;omega))|(refine is_eql rfl rfl (fun _=>?_) (fun _=>?_)<;>try (exfalso;omega))|(refine is_neq rfl rfl (fun _=>?_) (fun _=>?_)<;>try (exfalso;omega))|refine ru_iteT rfl ?_|refine is_boxG rfl rfl rfl ?_|refine is_stT rfl rfl rfl rfl rfl rfl ?_|refine is_ldl rfl (tr_part _) ?_|refine is_callE rfl rfl (by first|rfl|(simp only [List.nil_append,List.append_nil,List.cons_append,weaks,tr_weak,forceL];first|done|rfl)) (hWr) ?_|refine is_callE rfl rfl (by first|rfl|(simp only [List.nil_append,List.append_nil,List.cons_append,weaks,tr_weak,forceL];first|done|rfl)) (hWk _) ?_|refine ru_skip ?_|refine ru_ret ?_|refine ru_block ?_|refine rk_nil ?_|refine rk_seq_ret ?_|refine rk_blk_ret ?_|refine rk_inv_ret ?_)
   all_goals try contradiction
   all_goals try (exfalso;omega)
   all_goals refine end_st hA (by first|exact .inl rfl|exact .inr rfl) rfl rfl rfl rfl ?_
   all_goals rfl
  ·have hWr:=up3 (Write_c (sh_has (A:=A) (r:=r) (v:=texts.length+i) (ros:=ros) (G:=G)) hI.ok hI.good hv (by omega) hroom)
   rw [sh_set] at hWr
   obtain ⟨w1,w2⟩:=wr_rt (sh_has (A:=A) (r:=r) (v:=texts.length+i) (ros:=ros) (G:=G)) hI.ok hI.good hv (by omega) hroom
   have f6:(shL A.length (wrV t r).1 (texts.length+i) ros G)[6]?=_:=sh_6
   generalize hL2:shL A.length (wrV t r).1 (texts.length+i) ros G=L2 at *
   generalize shL A.length r (texts.length+i) ros G=L1 at *
   generalize (wrV t r).1=r2 at *
   generalize (wrV t r).2.1=ro at *
   generalize (wrV t r).2.2=hh at *
   have hl6:=(List.getElem?_eq_some_iff.1 f6).1
   repeat' (first|refine len1L rfl ?_|refine is_ixKn rfl rfl q tr_wide ?_|refine ru_seq ?_|refine ru_reg ?_|refine is_mv rfl ?_|refine is_ext rfl rfl ?_|refine is_nil rfl ?_|refine rk_seq ?_|refine is_ldT rfl rfl rfl ?_|(refine is_lss rfl rfl (fun _=>?_) (fun _=>?_)<;>try (exfalso;omega))|(refine is_neq rfl rfl (fun _=>?_) (fun _=>?_)<;>try (exfalso;omega))|refine ru_iteT rfl ?_|refine ru_iteF rfl ?_|refine is_boxG rfl rfl rfl ?_|refine is_stT rfl rfl rfl rfl rfl rfl ?_|refine is_bslFO rfl rfl rfl rfl ?_|refine is_ldl rfl (tr_part _) ?_|refine is_callE rfl rfl (by first|rfl|(simp only [List.nil_append,List.append_nil,List.cons_append,weaks,tr_weak,forceL];first|done|rfl)) (hWr) ?_|refine ru_skip ?_|refine ru_block ?_)
   all_goals try contradiction
   all_goals try (exfalso;omega)
   refine is_appG (es:=ros.map Ro.av) (ys:=[ro.av]) rfl rfl (get_left f6) (by rw [List.length_map];omega) rfl rfl (by rw [List.length_map,List.length_singleton];omega) (by decide) ?_
   repeat' (first|refine ru_reg ?_|refine is_mv rfl ?_|refine is_nil rfl ?_|refine rk_seq ?_|refine is_addS rfl rfl (by omega) ?_|refine rk_blk ?_|refine rk_inv ?_)
   refine ⟨(i+1,r2,ros++[ro],G++[.arr 5 0 [ro.av]]),⟨rfl,?_⟩,⟨by simp only;omega,w1.ok,w1.good,hI.ext.trans w1.ext,fun x hx=>?_,by simp only [List.length_append,List.length_singleton];omega⟩,by simp only;omega⟩
   ·show (⟨A,false,(L2++[Blk.arr 5 0 [ro.av]]).set 6 (Blk.arr 5 (texts.length+i+1) (ros.map Ro.av++[ro.av]))⟩:St)=_
    rw [← hL2,sh_box,sh_set6]
    rfl
   ·rcases List.mem_append.1 hx with p|p
    ·exact (hI.rts x p).ext w1.ext
    ·rw [List.mem_singleton.1 p];exact w2.rt
 ·obtain rfl:i=ys.length:=by omega
  repeat' (first|refine len1L rfl ?_|refine ru_seq ?_|refine ru_reg ?_|refine is_mv rfl ?_|refine is_nil rfl ?_|refine rk_seq ?_|(refine is_lss rfl rfl (fun _=>?_) (fun _=>?_)<;>try (exfalso;omega))|refine ru_iteF rfl ?_|refine ru_exit ?_|refine ru_block ?_|refine rk_seq_ex ?_|refine rk_blk_eq rfl ?_|refine rk_inv_ex ?_)
  all_goals try (exfalso;omega)
  exact shape_loop2 hA hI (by omega)
end Go.Q15
namespace Go.Q15
open Go Go.QAbs
theorem ropeShape_run (ss:List (List UInt8)) (l:List (Nat × Int × Int × Int × List UInt8)) (h1:∀ s∈ss,s.length≤maxLen) (h2:ss.length≤maxLen) (h3:∀ s∈l,s.2.2.2.2.length≤maxLen) (h4:l.length≤maxLen) :
 ∃ st',S T3 F_quartolaw16_RopeShape [.lit (ss.map .str),.lit (l.map fun q=>.agg [.int .u8 q.1,.int .i64 q.2.1,.int .i64 q.2.2.1,.int .i64 q.2.2.2.1,.str q.2.2.2.2])] .empty=some (.bool true,st') :=
 run_to RopeShape_c ss l h1 h2 h3 h4
end Go.Q15
