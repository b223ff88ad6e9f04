/- A part of the proof: M12, PB, M13, M14, M15, M16, M17, M18, PO, M19, M2b, M20, M21, M22, M23, M24, M25, M26, M27, M28, M29, M30, M31, M32. No condition. -/
import Derived.Test.YtajokjfjifcdkaaT6
set_option linter.unusedVariables false
set_option linter.unusedSimpArgs false
namespace Go.Q15
open Go Go.QAbs
set_option maxRecDepth 100000
set_option maxHeartbeats 8000000
section
variable {O:Orc} {k:List Fr} {Q:Post} {e:Env} {A:List (Bool × List Blk)} {L:List Blk} {keep:List Nat} {is:List PI} {d:Nat}
theorem is_hideLd {a b:Opd} {agg:Bool} {n ix ver i o jx vb ib ob w:Nat} {es:List AV} {x v:AV} (ha:opdO e a=some (.ptr A.length ix ver i o)) (hb:opdO e b=some (.ptr A.length jx vb ib ob)) (hne:Nat.beq ix jx=false)
 (hg:L[ix]?=some (Blk.arr w ver es)) (hx:es[i]?=some x) (hv:partOf x agg o n=some v) (h:Is O is keep k Q ((d,v)::e) ⟨A,false,L⟩):Is O (⟨some d,none,false,.w (.hide [b]) (.ld agg n a)⟩::is) keep k Q e ⟨A,false,L⟩:=by
 refine is_w ?_ h
 have hp:anyPtr (gets e [b]) A.length ix=false:=by
  have hxy:ix≠jx:=fun q=>by subst q;simp at hne
  simp [anyPtr,gets,opdO_some hb,atPtr,hxy]
 have hgt:(St.hide (anyPtr (gets e [b])) ⟨A,false,L⟩).get A.length ix=some (Blk.arr w ver es):=by
  rw [hide_get,hp,St.get_cur,hg];rfl
 simp only [evalW,PO.reads,if_true,evalPO,opdO_some ha,loadP,hgt,loadB,hx,hv,Option.bind_some,ret1,pureK]
theorem is_plainSt {a x:Opd} {n ix ver i o w:Nat} {es:List AV} {v v' y:AV} (hg:L[ix]?=some (Blk.arr w ver es)) (ha:opdO e a=some (.ptr A.length ix ver i o)) (hx:opdO e x=some v) (hy:es[i]?=some y) (him:imm 6 v=true)
 (hs:sealV deep (A.length+1) ⟨A,false,L⟩ v=some (v,⟨A,false,L⟩)) (hv:(elemSet w y o n v).bind forceV=some v') (h:Is O is keep k Q e ⟨A,false,L.set ix (Blk.arr w ver (es.set i v'))⟩):Is O (⟨none,none,false,.w (.plain a) (.st n a x)⟩::is) keep k Q e ⟨A,false,L⟩:=by
 have hlt:ix<L.length:=by
  rw [List.getElem?_eq_some_iff] at hg;exact hg.1
 have hv':elemSet w y o n v=some v':=by
  simp only [Option.bind_eq_some_iff] at hv
  obtain ⟨u,h1,h2⟩:=hv
  rw [h1,forceV_some h2]
 refine is_of (od:=none) (v:=.undef) (st':=⟨A,false,L.set ix (Blk.arr w ver (es.set i v'))⟩) ?_ h
 have hsb:sameBlk (.ptr A.length ix ver i o) (.ptr A.length ix ver i o)=true:=by simp [sameBlk]
 simp only [evalPI,evalW,plainW,opdO_some ha,opdO_some hx,hsb,him,and_self,if_true]
 simp only [evalPO,opdO_some ha,opdO_some hx,storeP,hs,Option.bind_some,storeK,St.get_cur,hg,vis,storeB,if_true,hy,hv',St.put,if_false,Bool.false_eq_true,if_pos hlt,retU]
end
theorem end_tr2 {e:Env} {A:List (Bool × List Blk)} {st:St} {L:List Blk} {x:Ex} {b b2 c ix ver w ix2 ver2 w2:Nat} {t t2:Tr} {k:IntKind} {n:Int} {u:AV} (hA:A=st.A++[(st.ro,st.L)]) (hx:x=.norm∨x=.ret) (ht:lookO e b=some (.ptr A.length ix ver 0 0)) (hg:L[ix]?=some (.arr w ver [t.av]))
 (ht2:lookO e b2=some (.ptr A.length ix2 ver2 0 0)) (hg2:L[ix2]?=some (.arr w2 ver2 [t2.av])) (hc:lookO e c=some (.int k n)) (hu:.tup [t.av,t2.av,.int k n]=u):endK false [.c b true 7,.c b2 true 7,.s c] (x,e,⟨A,false,L⟩)=some (u,st):=by
 subst hu
 refine end_of (v:=.tup [t.av,t2.av,.int k n]) (ro:=false) (L':=L) hA hx ?_ ?_ rfl
 ·simp only [result,resL,result_tr ht hg,result_tr ht2 hg2,Option.bind_some]
  simp only [resV,lookO_some hc,Option.bind_some,Option.map_some,tupOf]
 ·show (mapSt (sealV 5 A.length) _ _).bind tupK=_
  rw [mapSt,tr_sealN 3,Option.bind_some,mapSt,tr_sealN 3]
  rfl
theorem cut_c {N:Nodes} (hN:GoodN N):∀ (n:Nat) {st:St} {lv ix:Nat} (hr:Rd st lv ix N) {t:Tr} (ht:VE N t) (hn:t.h=n) (a:Int) (h0:0≤a) (h1:a≤t.bytes) (hb:t.bytes≤65536),
 S Tb F_plan_cut [.ptr lv ix 0 0 0,t.av,.int .i64 a] st=some (.tup [(cutF N n t a).1.av,(cutF N n t a).2.av,.int .i64 0],st):=by
 intro n
 induction n with
 | zero =>
  intro st lv ix hr t ht hn a h0 h1 hb
  refine s_of rfl (fun A hA=>?_)
  have hrp:=fun L=>hr.push hA (ro:=false) (L:=L)
  have hB:=fun st=>bytes_c t ht.pos.1 (by omega) st
  rw [cutF]
  by_cases ha:a=0
  ·rw [if_pos ha]
   repeat' (first|refine ru_seq ?_|refine ru_reg ?_|refine is_mv rfl ?_|refine is_nil rfl ?_|refine rk_seq ?_|(refine is_eql rfl rfl (fun _=>?_) (fun _=>?_)<;>try (exfalso;omega))|refine ru_iteT rfl ?_|refine is_buildO rfl rfl rfl ?_|refine is_box rfl rfl rfl ?_|refine is_stb rfl rfl rfl (tr_seal _ _ _) (tr_put _ _) rfl ?_|refine is_boxG rfl (tr_wide _) (tr_force _) ?_|refine is_hideLd rfl rfl rfl rfl rfl (tr_part _) ?_|refine is_plainSt rfl rfl rfl rfl rfl rfl rfl ?_|refine ru_ret ?_|refine rk_nil ?_|refine rk_seq_ret ?_)
   all_goals try (exfalso;omega)
   exact end_tr2 (t:=.zero) hA (.inr rfl) rfl rfl rfl rfl rfl rfl
  ·rw [if_neg ha]
   by_cases ha2:a=t.bytes
   ·rw [if_pos ha2]
    repeat' (first|refine ru_seq ?_|refine ru_reg ?_|refine is_mv rfl ?_|refine is_nil rfl ?_|refine rk_seq ?_|(refine is_eql rfl rfl (fun _=>?_) (fun _=>?_)<;>try (exfalso;omega))|refine ru_iteT rfl ?_|refine ru_iteF rfl ?_|refine is_buildO rfl rfl rfl ?_|refine is_box rfl rfl rfl ?_|refine is_stb rfl rfl rfl rfl rfl rfl ?_|refine is_ldc rfl rfl rfl (tr_part _) ?_|refine is_stb rfl rfl rfl (tr_seal _ _ _) (tr_put _ _) rfl ?_|refine is_boxG rfl (tr_wide _) (tr_force _) ?_|refine is_callE rfl rfl (by first|rfl|(simp only [List.nil_append,List.append_nil,List.cons_append,weaks,tr_weak,forceL];first|done|rfl)) (hB _) ?_|refine ru_skip ?_|refine ru_ret ?_|refine rk_nil ?_|refine rk_seq_ret ?_)
    all_goals try (exfalso;omega)
    exact end_tr2 (t2:=.zero) hA (.inr rfl) rfl rfl rfl rfl rfl rfl
   ·rw [if_neg ha2]
    have hv:=ht.val (by omega)
    have hl:=hv.line hn
    have hL:=fun L=>line_c (hrp L) hv
    have hC:=fun st=>Cut_c (lineOf N t) a st
    rw [← cutV_ok hl.2 (by omega)] at hC
    generalize lineOf N t=s at *
    repeat' (first|refine ru_seq ?_|refine ru_reg ?_|refine is_mv rfl ?_|refine is_fadr rfl rfl ?_|refine is_ext rfl rfl ?_|refine is_nil rfl ?_|refine rk_seq ?_|(refine is_eql rfl rfl (fun _=>?_) (fun _=>?_)<;>try (exfalso;omega))|(refine is_neq rfl rfl (fun _=>?_) (fun _=>?_)<;>try (exfalso;omega))|refine ru_iteT rfl ?_|refine ru_iteF rfl ?_|refine is_buildO rfl rfl rfl ?_|refine is_box rfl rfl rfl ?_|refine is_stb rfl rfl rfl rfl rfl rfl ?_|refine is_ldc rfl rfl rfl (tr_part _) ?_|refine is_boxG rfl (tr_wide _) (tr_force _) ?_|refine is_ldc rfl rfl rfl (tr_hpart _) ?_|refine is_callE rfl rfl (by first|rfl|(simp only [List.nil_append,List.append_nil,List.cons_append,weaks,tr_weak,forceL];first|done|rfl)) (hB _) ?_|refine is_callE rfl rfl (by first|rfl|(simp only [List.nil_append,List.append_nil,List.cons_append,weaks,tr_weak,forceL];first|done|rfl)) (hL _) ?_|refine is_callE rfl rfl (by first|rfl|(simp only [List.nil_append,List.append_nil,List.cons_append,weaks,tr_weak,forceL];first|done|rfl)) (hC _) ?_|refine ru_skip ?_|refine ru_ret ?_|refine rk_nil ?_|refine rk_seq_ret ?_)
    all_goals try (exfalso;omega)
    exact end_tr2 (t:=leafT (s.take a.toNat)) (t2:=leafT (s.drop a.toNat)) hA (.inr rfl) rfl rfl rfl rfl rfl rfl
 | succ n ih =>
  intro st lv ix hr t ht hn a h0 h1 hb
  refine s_of rfl (fun A hA=>?_)
  have hrp:=fun L=>hr.push hA (ro:=false) (L:=L)
  have hB:=fun st=>bytes_c t ht.pos.1 (by omega) st
  rw [cutF]
  by_cases ha:a=0
  ·rw [if_pos ha]
   repeat' (first|refine ru_seq ?_|refine ru_reg ?_|refine is_mv rfl ?_|refine is_nil rfl ?_|refine rk_seq ?_|(refine is_eql rfl rfl (fun _=>?_) (fun _=>?_)<;>try (exfalso;omega))|refine ru_iteT rfl ?_|refine is_buildO rfl rfl rfl ?_|refine is_box rfl rfl rfl ?_|refine is_stb rfl rfl rfl (tr_seal _ _ _) (tr_put _ _) rfl ?_|refine is_boxG rfl (tr_wide _) (tr_force _) ?_|refine is_hideLd rfl rfl rfl rfl rfl (tr_part _) ?_|refine is_plainSt rfl rfl rfl rfl rfl rfl rfl ?_|refine ru_ret ?_|refine rk_nil ?_|refine rk_seq_ret ?_)
   all_goals try (exfalso;omega)
   exact end_tr2 (t:=.zero) hA (.inr rfl) rfl rfl rfl rfl rfl rfl
  ·rw [if_neg ha]
   by_cases ha2:a=t.bytes
   ·rw [if_pos ha2]
    repeat' (first|refine ru_seq ?_|refine ru_reg ?_|refine is_mv rfl ?_|refine is_nil rfl ?_|refine rk_seq ?_|(refine is_eql rfl rfl (fun _=>?_) (fun _=>?_)<;>try (exfalso;omega))|refine ru_iteT rfl ?_|refine ru_iteF rfl ?_|refine is_buildO rfl rfl rfl ?_|refine is_box rfl rfl rfl ?_|refine is_stb rfl rfl rfl rfl rfl rfl ?_|refine is_ldc rfl rfl rfl (tr_part _) ?_|refine is_stb rfl rfl rfl (tr_seal _ _ _) (tr_put _ _) rfl ?_|refine is_boxG rfl (tr_wide _) (tr_force _) ?_|refine is_callE rfl rfl (by first|rfl|(simp only [List.nil_append,List.append_nil,List.cons_append,weaks,tr_weak,forceL];first|done|rfl)) (hB _) ?_|refine ru_skip ?_|refine ru_ret ?_|refine rk_nil ?_|refine rk_seq_ret ?_)
    all_goals try (exfalso;omega)
    exact end_tr2 (t2:=.zero) hA (.inr rfl) rfl rfl rfl rfl rfl rfl
   ·rw [if_neg ha2]
    have vt:=ht.val (by omega)
    have h16:=vt.h16
    obtain ⟨c1,c2,c3,c4⟩:=childs_ok hN vt (by omega)
    have hC:=fun L=>children_c (hrp L) vt (by omega)
    generalize childs N t=l at *
    have hl:∀ u∈l,Val N u∧u.h=n∧Big u:=fun u hu=>⟨(c1 u hu).1,by have:=(c1 u hu).2.1;omega,(c1 u hu).2.2⟩
    have hpos:∀ u∈l,0≤u.bytes:=fun u hu=>by have:=(hl u hu).1.pos.2;omega
    obtain ⟨s1,s2,s3,s4⟩:=skipT_ok l a (by omega) hpos h0 (by omega)
    have key:∀ k Q p6 p7 L,
     (Rk (S Tb) k Q (.ex 0) [(0,.ptr lv ix 0 0 0),(2,.int .i64 (skipT l a).2),(6,.ptr A.length p6 0 0 0),(7,.ptr A.length p7 0 0 0),(13,.lit (l.map Tr.av)),(14,.int .i64 (skipT l a).1),(77,.bool false)] ⟨A,false,L⟩) →
     Ru (S Tb) (.loop p_plan_cut_18) k Q [(0,.ptr lv ix 0 0 0),(2,.int .i64 a),(6,.ptr A.length p6 0 0 0),(7,.ptr A.length p7 0 0 0),(13,.lit (l.map Tr.av)),(14,.int .i64 0)] ⟨A,false,L⟩:=by
     intro k Q p6 p7 L hex
     refine ru_loopP (α:=Nat × Int) (fun p=>[(0,.ptr lv ix 0 0 0),(2,.int .i64 p.2),(6,.ptr A.length p6 0 0 0),(7,.ptr A.length p7 0 0 0),(13,.lit (l.map Tr.av)),(14,.int .i64 p.1)]) (fun p=>⟨A,false,L⟩)
      (fun p=>p.1<l.length∧0≤p.2∧p.2≤a∧(skipT l a).1=p.1+(skipT (l.drop p.1) p.2).1∧(skipT l a).2=(skipT (l.drop p.1) p.2).2) (fun p=>l.length-p.1) (0,a) rfl rfl ⟨by simp only;omega,h0,Int.le_refl _,by simp,by simp⟩ ?_
     rintro ⟨i,b⟩ ⟨i1,i2,i3,i4,i5⟩
     simp only at i1 i2 i3 i4 i5 ⊢
     have hu:l[i]?=some l[i]:=by simp [i1]
     generalize l[i]=u at hu
     have hum:=List.mem_of_getElem? hu
     have hub:=hpos u hum
     have hu16:u.bytes≤65536:=by
      have e:=hu
      have e2:Tr.bytesL l=Tr.bytesL (l.take i)+(u.bytes+Tr.bytesL (l.drop (i+1))):=by
       conv=>lhs;rw [← List.take_append_drop (i+1) l,take_succ_get hu,Tr.bytesL_append,Tr.bytesL_append]
       simp [Tr.bytesL];omega
      have:=Tr.bytesL_nonneg (l:=l.take i) (fun w hw=>hpos w (List.mem_of_mem_take hw))
      have:=Tr.bytesL_nonneg (l:=l.drop (i+1)) (fun w hw=>hpos w (List.mem_of_mem_drop hw))
      omega
     have hBu:∀ w,l[((i:Nat):Int).toNat]?=some w→∀ st,S Tb F_plan_bytes [w.av] st=some (.int .i64 u.bytes,st):=by
      intro w hw st
      have hw2:l[i]?=some w:=hw
      rw [hu] at hw2
      have:=Option.some.inj hw2
      subst this
      exact bytes_c u (hl u hum).1.pos.1 (by omega) st
     have hd:l.drop i=u::l.drop (i+1):=by
      rw [List.drop_eq_getElem_cons i1]
      congr 1
      rw [List.getElem?_eq_getElem i1] at hu
      exact Option.some.inj hu
     repeat' (first|refine ru_seq ?_|refine ru_reg ?_|refine is_mv rfl ?_|refine is_gT rfl ?_|refine is_gF rfl rfl ?_|refine is_pick rfl rfl rfl rfl ?_|refine is_nil rfl ?_|refine rk_seq ?_|refine is_lenM rfl ?_|(refine is_lss rfl rfl (fun _=>?_) (fun _=>?_)<;>try (exfalso;omega))|(refine is_geq rfl rfl (fun _=>?_) (fun _=>?_)<;>try (exfalso;omega))|refine ru_iteT rfl ?_|refine ru_iteF rfl ?_|refine is_addS rfl rfl (by omega) ?_|refine is_subS rfl rfl (by omega) ?_|refine is_ixM rfl rfl (by omega) tr_wide (fun _ _=>?_)|refine is_ldl rfl (tr_part _) ?_|refine is_callE rfl rfl (by first|rfl|(simp only [List.nil_append,List.append_nil,List.cons_append,weaks,tr_weak,forceL];first|done|rfl)) (hBu _ (by assumption) _) ?_|refine ru_skip ?_|refine ru_exit ?_|refine ru_block ?_|refine rk_seq_ex ?_|refine rk_blk ?_|refine rk_inv ?_|refine rk_inv_ex ?_)
     all_goals try (exfalso;omega)
     ·rename_i g1 g2 g3 g4 g5 g6
      have hne:l.drop (i+1)≠[]:=by
       intro q
       have:=congrArg List.length q
       rw [List.length_drop] at this
       simp at this;omega
      have hsk:skipT (l.drop i) b=((skipT (l.drop (i+1)) (b-u.bytes)).1+1,(skipT (l.drop (i+1)) (b-u.bytes)).2):=by
       rw [hd]
       cases hq:l.drop (i+1) with
       | nil=>exact absurd hq hne
       | cons v r=>rw [skipT,if_pos (by omega)]
      refine ⟨(i+1,b-u.bytes),⟨rfl,rfl⟩,⟨by simp only;omega,by simp only;omega,by simp only;omega,?_,?_⟩,by simp only;omega⟩
      ·simp only [i4,hsk];omega
      ·simp only [i5,hsk]
     ·have hsk : skipT (l.drop i) b = (0, b) := by
       rw [hd]
       cases hq:l.drop (i+1) with
       | nil=>rfl
       | cons v r=>rw [skipT,if_neg (by omega)]
      rw [i4,i5,hsk] at hex
      exact hex
     ·have hq:l.drop (i+1)=[]:=List.drop_of_length_le (by omega)
      have hsk:skipT (l.drop i) b=(0,b):=by rw [hd,hq];rfl
      rw [i4,i5,hsk] at hex
      exact hex
    repeat' (first|refine ru_seq ?_|refine ru_reg ?_|refine is_mv rfl ?_|refine is_fadr rfl rfl ?_|refine is_ext rfl rfl ?_|refine is_nil rfl ?_|refine rk_seq ?_|(refine is_eql rfl rfl (fun _=>?_) (fun _=>?_)<;>try (exfalso;omega))|(refine is_neq rfl rfl (fun _=>?_) (fun _=>?_)<;>try (exfalso;omega))|refine ru_iteF rfl ?_|refine is_box rfl rfl rfl ?_|refine is_ldc rfl rfl rfl (tr_part _) ?_|refine is_boxG rfl (tr_wide _) (tr_force _) ?_|refine is_ldc rfl rfl rfl (tr_hpart _) ?_|refine is_callE rfl rfl (by first|rfl|(simp only [List.nil_append,List.append_nil,List.cons_append,weaks,tr_weak,forceL];first|done|rfl)) (hB _) ?_|refine is_callE rfl rfl (by first|rfl|(simp only [List.nil_append,List.append_nil,List.cons_append,weaks,tr_weak,forceL];first|done|rfl)) (hC _) ?_|refine ru_skip ?_|refine ru_block ?_)
    all_goals try (exfalso;omega)
    refine key _ _ _ _ _ ?_
    generalize hk:(skipT l a).1=k at *
    generalize hb2:(skipT l a).2=b at *
    have hlm:(l.map Tr.av).length=l.length:=by simp
    have hh1:∀ u∈l.take k,u.h≤65536:=fun u hu=>by have:=(hl u (List.mem_of_mem_take hu)).2.1;omega
    have hh2:∀ u∈l.drop k,u.h≤65536:=fun u hu=>by have:=(hl u (List.mem_of_mem_drop hu)).2.1;omega
    have hh3:∀ u∈l.drop (k+1),u.h≤65536:=fun u hu=>by have:=(hl u (List.mem_of_mem_drop hu)).2.1;omega
    have hG1:∀ st,S Tb F_plan_group [.lit ((l.map Tr.av).take ((k:Nat):Int).toNat)] st=some ((grp (l.take k)).av,st):=fun st=>group_c (by rw [List.length_take];omega) hh1 (by rw [Int.toNat_natCast,← List.map_take];exact .lit _)
    have hG2:∀ st,S Tb F_plan_group [.lit ((l.map Tr.av).drop ((k:Nat):Int).toNat)] st=some ((grp (l.drop k)).av,st):=fun st=>group_c (by rw [List.length_drop];omega) hh2 (by rw [Int.toNat_natCast,← List.map_drop];exact .lit _)
    have hG3:∀ st,S Tb F_plan_group [.lit ((l.map Tr.av).drop (((k:Nat):Int)+1).toNat)] st=some ((grp (l.drop (k+1))).av,st):=fun st=>group_c (by rw [List.length_drop];omega) hh3 (by rw [show (((k:Nat):Int)+1).toNat=k+1 by omega,← List.map_drop];exact .lit _)
    by_cases hz:b=0
    ·rw [if_pos hz]
     generalize grp (l.take k)=g1 at *
     generalize grp (l.drop k)=g2 at *
     repeat' (first|refine ru_seq ?_|refine ru_reg ?_|refine is_mv rfl ?_|refine is_nil rfl ?_|refine rk_seq ?_|(refine is_eql rfl rfl (fun _=>?_) (fun _=>?_)<;>try (exfalso;omega))|refine ru_iteT rfl ?_|refine is_stb rfl rfl rfl (tr_seal _ _ _) (tr_put _ _) rfl ?_|refine is_slcL_hi rfl rfl (by omega) (trs_wide _) ?_|refine is_slcL_lo rfl rfl (by omega) (trs_wide _) ?_|refine is_callP rfl rfl rfl (hG1 _) ?_|refine is_callE rfl rfl (by first|rfl|(simp only [List.nil_append,List.append_nil,List.cons_append,weaks,tr_weak,forceL];first|done|rfl)) (hG2 _) ?_|refine ru_ret ?_|refine rk_nil ?_|refine rk_seq_ret ?_|refine rk_blk_eq rfl ?_)
     all_goals try (exfalso;omega)
     exact end_tr2 hA (.inr rfl) rfl rfl rfl rfl rfl rfl
    ·rw [if_neg hz]
     obtain ⟨u,hu⟩:∃ u,l[k]?=some u:=⟨l[k],by simp [s1]⟩
     rw [hu]
     simp only [Option.getD_some]
     obtain ⟨u1,u2,u3⟩:=hl u (List.mem_of_getElem? hu)
     have hub:=s4 u hu
     have hsum:Tr.bytesL l=Tr.bytesL (l.take k)+(u.bytes+Tr.bytesL (l.drop (k+1))):=by
      conv=>lhs;rw [← List.take_append_drop (k+1) l,take_succ_get hu,Tr.bytesL_append,Tr.bytesL_append]
      simp [Tr.bytesL];omega
     have p1:=Tr.bytesL_nonneg (l:=l.take k) (fun w hw=>hpos w (List.mem_of_mem_take hw))
     have p2:=Tr.bytesL_nonneg (l:=l.drop (k+1)) (fun w hw=>hpos w (List.mem_of_mem_drop hw))
     have hc:=cutF_ok hN n u b (.inr u1) u2 s2 (by omega) (by omega)
     have hcut:∀ w,l[((k:Nat):Int).toNat]?=some w→∀ L,S Tb F_plan_cut [.ptr lv ix 0 0 0,w.av,.int .i64 b] ⟨A,false,L⟩=some (.tup [(cutF N n u b).1.av,(cutF N n u b).2.av,.int .i64 0],⟨A,false,L⟩):=by
      intro w hw L
      have hw2:l[k]?=some w:=hw
      rw [hu] at hw2
      have:=Option.some.inj hw2
      subst this
      exact ih (hrp L) (.inr u1) u2 b s2 (by omega) (by omega)
     have a1:=(grp_ve (N:=N) (l:=l.take k) (by rw [List.length_take];omega) (show n+1≤16 by omega) (fun u hu=>hl u (List.mem_of_mem_take hu))).1
     have d1:=(grp_ve (N:=N) (l:=l.drop (k+1)) (by rw [List.length_drop];omega) (show n+1≤16 by omega) (fun u hu=>hl u (List.mem_of_mem_drop hu))).1
     have hcl:=hc.l
     have hcr:=hc.r
     have hK1:=fun L=>concat_c hN (hrp L) a1 hcl
     have hK2:=fun L=>concat_c hN (hrp L) hcr d1
     generalize cutF N n u b=r at *
     obtain ⟨r1,r2⟩:=r
     simp only at *
     generalize grp (l.take k)=g1 at *
     generalize grp (l.drop (k+1))=g3 at *
     generalize concM N g1 r1=z1 at *
     generalize concM N r2 g3=z2 at *
     repeat' (first|refine ru_seq ?_|refine ru_reg ?_|refine is_mv rfl ?_|refine is_ext rfl rfl ?_|refine is_nil rfl ?_|refine rk_seq ?_|(refine is_eql rfl rfl (fun _=>?_) (fun _=>?_)<;>try (exfalso;omega))|(refine is_neq rfl rfl (fun _=>?_) (fun _=>?_)<;>try (exfalso;omega))|refine ru_iteF rfl ?_|refine is_addS rfl rfl (by omega) ?_|refine is_box rfl rfl rfl ?_|refine is_ixM rfl rfl (by omega) tr_wide (fun _ _=>?_)|refine is_ldl rfl (tr_part _) ?_|refine is_ldc rfl rfl rfl (tr_part _) ?_|refine is_stb rfl rfl rfl (tr_seal _ _ _) (tr_put _ _) rfl ?_|refine is_slcL_hi rfl rfl (by omega) (trs_wide _) ?_|refine is_slcL_lo rfl rfl (by omega) (trs_wide _) ?_|refine is_callP rfl rfl rfl (hG1 _) ?_|refine is_callP rfl rfl rfl (hG3 _) ?_|refine is_callE rfl rfl (by first|rfl|(simp only [List.nil_append,List.append_nil,List.cons_append,weaks,tr_weak,forceL];first|done|rfl)) (hcut _ (by assumption) _) ?_|refine is_callE rfl rfl (by first|rfl|(simp only [List.nil_append,List.append_nil,List.cons_append,weaks,tr_weak,forceL];first|done|rfl)) (hK1 _) ?_|refine is_callE rfl rfl (by first|rfl|(simp only [List.nil_append,List.append_nil,List.cons_append,weaks,tr_weak,forceL];first|done|rfl)) (hK2 _) ?_|refine is_hideLd rfl rfl rfl rfl rfl (tr_part _) ?_|refine is_plainSt rfl rfl rfl rfl (tr_imm 4 _) (tr_seal _ _ _) (tr_put _ _) ?_|refine ru_skip ?_|refine ru_ret ?_|refine rk_nil ?_|refine rk_blk_eq rfl ?_)
     all_goals try (exfalso;omega)
     exact end_tr2 hA (.inr rfl) rfl rfl rfl rfl rfl rfl
end Go.Q15
namespace Go.Q15
open Go Go.QAbs
set_option maxRecDepth 100000
set_option maxHeartbeats 1000000
def partI {α:Type} (l:List α) (g:Int) (i:Nat):List α:=(l.drop (posI l.length g i).toNat).take (sizeI l.length g i).toNat
def rowUp (row:List Tr):List Tr:=(List.range (groupsI row.length 4).toNat).map fun i=>grp (partI row (groupsI row.length 4) i)
def buildR:Nat→List Tr→List Tr
 | 0,row=>row
 | n+1,row=>if row.length≤1 then row else buildR n (rowUp row)
noncomputable def buildM (s:List UInt8):Tr:=grp (buildR s.length ((chunksL s).map leafT))
theorem chunkG_part (s:List UInt8) (g:Int) (i:Nat):chunkG s g i=partI s g i:=rfl
theorem parts_flat {α:Type} (l:List α) {g:Int} (hg:1≤g):∀ k:Nat,k≤g.toNat→((List.range k).map (partI l g)).flatten=l.take (posI l.length g k).toNat
 | 0,_=>by rw [posI_zero l.length g (by omega)];simp
 | k+1,h=>by
  rw [List.range_succ,List.map_append,List.flatten_append,parts_flat l hg k (by omega),posI_succ]
  have h1:=posI_bounds (n:=l.length) (g:=g) (by omega) (by omega) (i:=k) (by omega)
  have h2:=sizeI_nonneg (n:=l.length) (g:=g) (by omega) (by omega) k
  simp only [List.map_cons,List.map_nil,List.flatten_cons,List.flatten_nil,List.append_nil,partI]
  rw [Int.toNat_add h1.1 h2,List.take_add]
theorem parts_all {α:Type} (l:List α) {g:Int} (hg:1≤g):((List.range g.toNat).map (partI l g)).flatten=l:=by
 rw [parts_flat l hg g.toNat (Nat.le_refl _),posI_all l.length g (by omega)]
 simp
theorem part_len {α:Type} (l:List α) {g:Int} (hg:1≤g) {i:Nat} (hi:i<g.toNat):((partI l g i).length:Int)=sizeI l.length g i:=by
 have h1:=posI_bounds (n:=l.length) (g:=g) (by omega) (by omega) (i:=i+1) (by omega)
 have h0:=posI_bounds (n:=l.length) (g:=g) (by omega) (by omega) (i:=i) (by omega)
 have h2:=sizeI_nonneg (n:=l.length) (g:=g) (by omega) (by omega) i
 rw [posI_succ] at h1
 rw [partI,List.length_take,List.length_drop];omega
theorem size_bounds {n m:Int} (hm:1≤m) (hn:1≤n) {i:Nat}:sizeI n (groupsI n m) i≤m∧n / groupsI n m≤sizeI n (groupsI n m) i:=by
 have hg:=groupsI_pos hn hm
 have e1:groupsI n m*(n / groupsI n m)+n % groupsI n m=n:=Int.mul_ediv_add_emod n (groupsI n m)
 have e2:=Int.emod_nonneg n (show groupsI n m≠0 by omega)
 have e3:n≤m*groupsI n m:=by
  have a1:m*((n-1) / m)+(n-1) % m=n-1:=Int.mul_ediv_add_emod (n-1) m
  have a2:=Int.emod_lt_of_pos (n-1) (show 0<m by omega)
  unfold groupsI
  rw [Int.mul_add];omega
 refine ⟨?_,by unfold sizeI;split<;>omega⟩
 have e4:n / groupsI n m≤m:=by
  apply Int.ediv_le_of_le_mul (by omega)
  exact e3
 unfold sizeI
 split
 ·rename_i h
  rcases Int.lt_or_le (n / groupsI n m) m with q|q
  ·omega
  ·have:n / groupsI n m=m:=by omega
   rw [this] at e1
   have:groupsI n m*m=m*groupsI n m:=Int.mul_comm _ _
   omega
 ·omega
structure Row (N:Nodes) (row:List Tr) (h:Nat) (s:List UInt8):Prop where
 val:∀ t∈row,Val N t∧t.h=h
 big:2≤row.length→∀ t∈row,Big t
 txt:Tr.txtL N row=s
theorem txtL_flat (N:Nodes) (ls:List (List Tr)) (h:∀ l∈ls,2≤l.length):Tr.txtL N (ls.map grp)=Tr.txtL N ls.flatten:=by
 induction ls with
 | nil=>rfl
 | cons a r ih =>
  rw [List.map_cons,Tr.txtL,List.flatten_cons,Tr.txtL_append,grp_txt N (h a (by simp)),ih (fun l hl=>h l (by simp [hl]))]
theorem rowUp_ok {N:Nodes} {row:List Tr} {h:Nat} {s:List UInt8} (hr:Row N row h s) (h2:2≤row.length) (hh:h+1≤16):Row N (rowUp row) (h+1) s∧(rowUp row).length<row.length∧1≤(rowUp row).length:=by
 have hg:=groupsI_pos (n:=row.length) (most:=4) (by omega) (by omega)
 have hg4:groupsI row.length 4=((row.length:Int)-1) / 4+1:=rfl
 have hlen:(rowUp row).length=(groupsI row.length 4).toNat:=by unfold rowUp;simp
 have hsz:∀ i,i<(groupsI row.length 4).toNat→2≤(partI row (groupsI row.length 4) i).length∧(partI row (groupsI row.length 4) i).length≤4:=by
  intro i hi
  have h1:=part_len row hg.1 hi
  have h3:=size_bounds (n:=row.length) (m:=4) (by omega) (by omega) (i:=i)
  have h4:2≤(row.length:Int) / groupsI row.length 4:=by
   apply (Int.le_ediv_iff_mul_le (by omega)).2
   omega
  omega
 refine ⟨⟨?_,?_,?_⟩,by omega,by omega⟩
 ·intro t ht
  unfold rowUp at ht
  obtain ⟨i,hi,rfl⟩:=List.mem_map.1 ht
  rw [List.mem_range] at hi
  obtain ⟨a,b⟩:=hsz i hi
  obtain ⟨g1,g2,g3⟩:=grp_val (N:=N) (h:=h) a b hh (fun u hu=>by
   have hm:u∈row:=List.mem_of_mem_drop (List.mem_of_mem_take hu)
   exact ⟨(hr.val u hm).1,(hr.val u hm).2,hr.big h2 u hm⟩)
  exact ⟨g1,g2⟩
 ·intro _ t ht
  unfold rowUp at ht
  obtain ⟨i,hi,rfl⟩:=List.mem_map.1 ht
  rw [List.mem_range] at hi
  obtain ⟨a,b⟩:=hsz i hi
  rw [grp_two a]
  intro q;simp [Tr.h] at q
 ·have e:rowUp row=((List.range (groupsI row.length 4).toNat).map (partI row (groupsI row.length 4))).map grp:=by unfold rowUp;rw [List.map_map];rfl
  rw [e,txtL_flat N _ (fun l hl=>by
   obtain ⟨i,hi,rfl⟩:=List.mem_map.1 hl
   rw [List.mem_range] at hi
   exact (hsz i hi).1),parts_all row hg.1,hr.txt]
theorem buildR_ok {N:Nodes} (hN:GoodN N):∀ (n:Nat) (row:List Tr) (h:Nat) (s:List UInt8),Row N row h s→row.length≤n+1→s.length≤65536→∃ h',Row N (buildR n row) h' s∧(buildR n row).length≤1∧(1≤row.length→1≤(buildR n row).length)
 | 0,row,h,s,hr,hl,hs=>⟨h,hr,by rw [buildR];omega,fun q=>q⟩
 | n+1,row,h,s,hr,hl,hs=>by
  rw [buildR]
  split
  ·exact ⟨h,hr,by assumption,fun q=>q⟩
  ·rename_i h2
   have hh:h+1≤16:=by
    match row,h2,hr with
    | t::r,h2,hr =>
     have h1:=(hr.val t (by simp))
     have h3:=txt_len hN h1.1
     have h4:(t.txt N).length≤s.length:=by rw [← hr.txt,Tr.txtL,List.length_append];omega
     have:=h1.1.height hN (by omega)
     omega
    | [],h2,_=>simp at h2
   obtain ⟨a,b,c⟩:=rowUp_ok hr (by omega) hh
   obtain ⟨h',d,e,f⟩:=buildR_ok hN n (rowUp row) (h+1) s a (by omega) hs
   exact ⟨h',d,e,fun _=>f c⟩
theorem leafRow_ok {N:Nodes} (s:List UInt8):Row N ((chunksL s).map leafT) 0 s∧((chunksL s).map leafT).length≤s.length∧(s≠[]→1≤((chunksL s).map leafT).length):=by
 unfold chunksL
 split
 ·rename_i h
  have:s=[]:=List.length_eq_zero_iff.1 h
  subst this
  exact ⟨⟨fun t ht=>by simp at ht,fun h=>by simp at h,rfl⟩,by simp,fun q=>absurd rfl q⟩
 ·rename_i h
  have hg:=groupsI_pos (n:=s.length) (most:=16) (by omega) (by omega)
  have hsz:∀ i,i<(groupsI s.length 16).toNat→1≤(partI s (groupsI s.length 16) i).length∧(partI s (groupsI s.length 16) i).length≤16∧(2≤groupsI s.length 16→8≤(partI s (groupsI s.length 16) i).length):=by
   intro i hi
   have h1:=part_len s hg.1 hi
   have h3:=size_bounds (n:=s.length) (m:=16) (by omega) (by omega) (i:=i)
   have h4:1≤(s.length:Int) / groupsI s.length 16:=by
    apply (Int.le_ediv_iff_mul_le (by omega)).2
    omega
   refine ⟨by omega,by omega,fun h2=>?_⟩
   have hg4:groupsI s.length 16=((s.length:Int)-1) / 16+1:=rfl
   have h5:8≤(s.length:Int) / groupsI s.length 16:=by
    apply (Int.le_ediv_iff_mul_le (by omega)).2
    omega
   omega
  have hlen:(((List.range (groupsI s.length 16).toNat).map (chunkG s (groupsI s.length 16))).map leafT).length=(groupsI s.length 16).toNat:=by simp
  refine ⟨⟨?_,?_,?_⟩,by omega,fun _=>by omega⟩
  ·intro t ht
   obtain ⟨c,hc,rfl⟩:=List.mem_map.1 ht
   obtain ⟨i,hi,rfl⟩:=List.mem_map.1 hc
   rw [List.mem_range] at hi
   have:=hsz i hi
   exact ⟨leaf_val ⟨this.1,this.2.1⟩,rfl⟩
  ·intro h2 t ht
   obtain ⟨c,hc,rfl⟩:=List.mem_map.1 ht
   obtain ⟨i,hi,rfl⟩:=List.mem_map.1 hc
   rw [List.mem_range] at hi
   have:=(hsz i hi).2.2 (by omega)
   intro _
   rw [leaf_bytes,chunkG_part];omega
  ·have hf : ∀ l : List (List UInt8), Tr.txtL N (l.map leafT) = l.flatten := by
    intro l
    induction l with
    | nil=>rfl
    | cons a l ih=>rw [List.map_cons,Tr.txtL,ih,leaf_txt,List.flatten_cons]
   rw [hf]
   exact parts_all s hg.1
theorem buildM_ok {N:Nodes} (hN:GoodN N) {s:List UInt8} (hs:s.length≤65536):VE N (buildM s)∧(buildM s).txt N=s∧(buildM s).bytes=s.length:=by
 obtain ⟨a,b,c⟩:=leafRow_ok (N:=N) s
 obtain ⟨h',d,e,f⟩:=buildR_ok hN s.length _ 0 s a (by omega) hs
 unfold buildM
 generalize buildR s.length ((chunksL s).map leafT)=row at *
 match row,e,d with
 | [],_,d =>
  have:s=[]:=d.txt.symm
  subst this
  exact ⟨.inl zero_empty,rfl,rfl⟩
 | [t],_,d =>
  have h1:=(d.val t (by simp)).1
  have h2:=d.txt
  simp only [Tr.txtL,List.append_nil] at h2
  refine ⟨.inr h1,h2,?_⟩
  have:=txt_len hN h1
  rw [h2] at this
  exact this.symm
end Go.Q15
namespace Go.Q15
open Go Go.QAbs
set_option maxRecDepth 100000
set_option maxHeartbeats 8000000
theorem Check_ve {st:St} {lv ix:Nat} {N:Nodes} (hr:Rd st lv ix N) {t:Tr} (ht:VE N t) (hb:t.bytes≤65536):S Tb F_plan_Check [.ptr lv ix 0 0 0,t.av] st=some (.int .i64 0,st):=by
 rcases ht with h|h
 ·exact Check_empty h
 ·exact Check_val hr h hb
theorem both_c {N:Nodes} {st:St} {lv ix:Nat} (hr:Rd st lv ix N) {x y:Tr} (hx:VE N x) (hy:VE N y) (none:Bool) (hn:none=false→Val N x∧Val N y) (hb:x.bytes+y.bytes≤65536) :
 S Tb F_plan_both [.ptr lv ix 0 0 0,x.av,y.av,.bool none] st=some (.int .i64 0,st):=by
 refine s_of rfl (fun A hA=>?_)
 have hrp:=fun L=>hr.push hA (ro:=false) (L:=L)
 have hx0:=hx.pos.2
 have hy0:=hy.pos.2
 have hC1:=fun L=>Check_ve (hrp L) hx (by omega)
 have hC2:=fun L=>Check_ve (hrp L) hy (by omega)
 have hB1:=fun st=>bytes_c x hx.pos.1 (by omega) st
 have hB2:=fun st=>bytes_c y hy.pos.1 (by omega) st
 cases none with
 | true =>
  repeat' (first|refine ru_seq ?_|refine ru_reg ?_|refine is_mv rfl ?_|refine is_gF rfl rfl ?_|refine is_gU rfl ?_|refine is_pick rfl rfl rfl rfl ?_|refine is_nil rfl ?_|refine rk_seq ?_|refine is_lenF rfl rfl ?_|(refine is_lss rfl rfl (fun _=>?_) (fun _=>?_)<;>try (exfalso;omega))|(refine is_gtr rfl rfl (fun _=>?_) (fun _=>?_)<;>try (exfalso;omega))|(refine is_neq rfl rfl (fun _=>?_) (fun _=>?_)<;>try (exfalso;omega))|refine ru_iteT rfl ?_|refine ru_iteF rfl ?_|refine is_not rfl rfl ?_|refine is_addS rfl rfl (by omega) ?_|refine is_box rfl rfl rfl ?_|refine is_ldl rfl (tr_part _) ?_|refine is_ldT rfl rfl (tr_part _) ?_|refine is_ldc rfl rfl rfl (tr_part _) ?_|refine is_stb rfl rfl rfl (tr_seal _ _ _) (tr_put _ _) rfl ?_|refine is_boxG rfl (tr_wide _) (tr_force _) ?_|refine is_bslTr2 rfl rfl ?_|refine ru_unroll ?_|refine is_ixL rfl rfl (by simp) rfl (tr_wide _) ?_|refine is_callE rfl rfl (by first|rfl|(simp only [List.nil_append,List.append_nil,List.cons_append,weaks,tr_weak,forceL];first|done|rfl)) (hC1 _) ?_|refine is_callE rfl rfl (by first|rfl|(simp only [List.nil_append,List.append_nil,List.cons_append,weaks,tr_weak,forceL];first|done|rfl)) (hC2 _) ?_|refine is_callP rfl rfl (wk1 _) (hB1 _) ?_|refine is_callE rfl rfl (by first|rfl|(simp only [List.nil_append,List.append_nil,List.cons_append,weaks,tr_weak,forceL];first|done|rfl)) (hB2 _) ?_|refine ru_skip ?_|refine ru_ret ?_|refine ru_exit ?_|refine ru_block ?_|refine rk_nil ?_|refine rk_seq_ex ?_|refine rk_blk ?_|refine rk_blk_eq rfl ?_)
  all_goals try (exfalso;omega)
  all_goals refine end_st hA (by first|exact .inl rfl|exact .inr rfl) rfl rfl rfl rfl ?_
  all_goals rfl
 | false =>
  obtain ⟨vx,vy⟩:=hn rfl
  obtain ⟨k,hk,hK⟩:=vx.kindNe
  obtain ⟨k2,hk2,hK2⟩:=vy.kindNe
  repeat' (first|refine ru_seq ?_|refine ru_reg ?_|refine is_mv rfl ?_|refine is_gT rfl ?_|refine is_pick rfl rfl rfl rfl ?_|refine is_nil rfl ?_|refine rk_seq ?_|refine is_lenF rfl rfl ?_|(refine is_lss rfl rfl (fun _=>?_) (fun _=>?_)<;>try (exfalso;omega))|(refine is_gtr rfl rfl (fun _=>?_) (fun _=>?_)<;>try (exfalso;omega))|(refine is_eql rfl rfl (fun _=>?_) (fun _=>?_)<;>try (exfalso;omega))|(refine is_neq rfl rfl (fun _=>?_) (fun _=>?_)<;>try (exfalso;omega))|refine ru_iteT rfl ?_|refine ru_iteF rfl ?_|refine is_not rfl rfl ?_|refine is_addS rfl rfl (by omega) ?_|refine is_box rfl rfl rfl ?_|refine is_ldl rfl (tr_part _) ?_|refine is_ldT rfl rfl (tr_part _) ?_|refine is_ldc rfl rfl rfl (tr_part _) ?_|refine is_stb rfl rfl rfl (tr_seal _ _ _) (tr_put _ _) rfl ?_|refine is_boxG rfl (tr_wide _) (tr_force _) ?_|refine is_bslTr2 rfl rfl ?_|refine ru_unroll ?_|refine is_ixL rfl rfl (by simp) rfl (tr_wide _) ?_|refine is_callE rfl rfl (by first|rfl|(simp only [List.nil_append,List.append_nil,List.cons_append,weaks,tr_weak,forceL];first|done|rfl)) (hC1 _) ?_|refine is_callE rfl rfl (by first|rfl|(simp only [List.nil_append,List.append_nil,List.cons_append,weaks,tr_weak,forceL];first|done|rfl)) (hC2 _) ?_|refine is_callE rfl rfl (by first|rfl|(simp only [List.nil_append,List.append_nil,List.cons_append,weaks,tr_weak,forceL];first|done|rfl)) (hK _) ?_|refine is_callE rfl rfl (by first|rfl|(simp only [List.nil_append,List.append_nil,List.cons_append,weaks,tr_weak,forceL];first|done|rfl)) (hK2 _) ?_|refine is_callP rfl rfl (wk1 _) (hB1 _) ?_|refine is_callE rfl rfl (by first|rfl|(simp only [List.nil_append,List.append_nil,List.cons_append,weaks,tr_weak,forceL];first|done|rfl)) (hB2 _) ?_|refine ru_skip ?_|refine ru_ret ?_|refine ru_exit ?_|refine ru_block ?_|refine rk_nil ?_|refine rk_seq_ex ?_|refine rk_blk ?_|refine rk_blk_eq rfl ?_)
  all_goals try (exfalso;omega)
  all_goals refine end_st hA (by first|exact .inl rfl|exact .inr rfl) rfl rfl rfl rfl ?_
  all_goals rfl
theorem Concat_c {N:Nodes} (hN:GoodN N) {st:St} {lv ix:Nat} (hr:Rd st lv ix N) {x y:Tr} (hx:VE N x) (hy:VE N y) (hb:x.bytes+y.bytes≤65536) :
 S Tb F_plan_Concat [.ptr lv ix 0 0 0,x.av,y.av] st=some (.tup [(concM N x y).own.av,.int .i64 0],st):=by
 refine s_of rfl (fun A hA=>?_)
 have hrp:=fun L=>hr.push hA (ro:=false) (L:=L)
 have hBo:=fun L=>both_c (hrp L) hx hy true (fun q=>by cases q) hb
 have hCo:=fun L=>concat_c hN (hrp L) hx hy
 have hO:=fun st=>own_c (concM N x y) (concM_ok hN hx hy hb).ve.pos.1 st
 generalize concM N x y=z at *
 generalize z.own=zo at *
 repeat' (first|refine ru_seq ?_|refine ru_reg ?_|refine is_mv rfl ?_|refine is_ext rfl rfl ?_|refine is_nil rfl ?_|refine rk_seq ?_|(refine is_neq rfl rfl (fun _=>?_) (fun _=>?_)<;>try (exfalso;omega))|refine ru_iteF rfl ?_|refine is_box rfl rfl rfl ?_|refine is_ldc rfl rfl rfl (tr_part _) ?_|refine is_stb rfl rfl rfl (tr_seal _ _ _) (tr_put _ _) rfl ?_|refine is_boxG rfl (tr_wide _) (tr_force _) ?_|refine is_callE rfl rfl (by first|rfl|(simp only [List.nil_append,List.append_nil,List.cons_append,weaks,tr_weak,forceL];first|done|rfl)) (hBo _) ?_|refine is_callE rfl rfl (by first|rfl|(simp only [List.nil_append,List.append_nil,List.cons_append,weaks,tr_weak,forceL];first|done|rfl)) (hCo _) ?_|refine is_callE rfl rfl (by first|rfl|(simp only [List.nil_append,List.append_nil,List.cons_append,weaks,tr_weak,forceL];first|done|rfl)) (hO _) ?_|refine ru_skip ?_|refine ru_ret ?_|refine rk_nil ?_)
 all_goals try (exfalso;omega)
 exact end_tr1 hA (.inr rfl) rfl rfl rfl rfl
theorem Cut_c2 {N:Nodes} (hN:GoodN N) {st:St} {lv ix:Nat} (hr:Rd st lv ix N) {t:Tr} (ht:VE N t) (a:Int) (h0:0≤a) (h1:a≤t.bytes) (hb:t.bytes≤65536) :
 S Tb F_plan_Cut [.ptr lv ix 0 0 0,t.av,.int .i64 a] st=some (.tup [(cutF N t.h t a).1.own.av,(cutF N t.h t a).2.own.av,.int .i64 0],st):=by
 refine s_of rfl (fun A hA=>?_)
 have hrp:=fun L=>hr.push hA (ro:=false) (L:=L)
 have hC:=fun L=>Check_ve (hrp L) ht hb
 have hB:=fun st=>bytes_c t ht.pos.1 (by omega) st
 have hK:=fun L=>cut_c hN t.h (hrp L) ht rfl a h0 h1 hb
 have hok:=cutF_ok hN t.h t a ht rfl h0 h1 hb
 have hO1:=fun st=>own_c _ hok.l.pos.1 st
 have hO2:=fun st=>own_c _ hok.r.pos.1 st
 generalize cutF N t.h t a=r at *
 obtain ⟨r1,r2⟩:=r
 simp only at *
 generalize r1.own=o1 at *
 generalize r2.own=o2 at *
 repeat' (first|refine ru_seq ?_|refine ru_reg ?_|refine is_mv rfl ?_|refine is_gT rfl ?_|refine is_pick rfl rfl rfl rfl ?_|refine is_ext rfl rfl ?_|refine is_nil rfl ?_|refine rk_seq ?_|(refine is_lss rfl rfl (fun _=>?_) (fun _=>?_)<;>try (exfalso;omega))|(refine is_gtr rfl rfl (fun _=>?_) (fun _=>?_)<;>try (exfalso;omega))|(refine is_neq rfl rfl (fun _=>?_) (fun _=>?_)<;>try (exfalso;omega))|refine ru_iteF rfl ?_|refine is_box rfl rfl rfl ?_|refine is_ldc rfl rfl rfl (tr_part _) ?_|refine is_stb rfl rfl rfl (tr_seal _ _ _) (tr_put _ _) rfl ?_|refine is_boxG rfl (tr_wide _) (tr_force _) ?_|refine is_callE rfl rfl (by first|rfl|(simp only [List.nil_append,List.append_nil,List.cons_append,weaks,tr_weak,forceL];first|done|rfl)) (hC _) ?_|refine is_callE rfl rfl (by first|rfl|(simp only [List.nil_append,List.append_nil,List.cons_append,weaks,tr_weak,forceL];first|done|rfl)) (hB _) ?_|refine is_callE rfl rfl (by first|rfl|(simp only [List.nil_append,List.append_nil,List.cons_append,weaks,tr_weak,forceL];first|done|rfl)) (hK _) ?_|refine is_callP rfl rfl (wk1 _) (hO1 _) ?_|refine is_callE rfl rfl (by first|rfl|(simp only [List.nil_append,List.append_nil,List.cons_append,weaks,tr_weak,forceL];first|done|rfl)) (hO2 _) ?_|refine ru_skip ?_|refine ru_ret ?_|refine rk_nil ?_)
 all_goals try (exfalso;omega)
 exact end_tr2 hA (.inr rfl) rfl rfl rfl rfl rfl rfl
end Go.Q15
namespace Go.Q15
open Go Go.QAbs
set_option maxRecDepth 100000
set_option maxHeartbeats 8000000
theorem get_at {α:Type} (G:List α) (a:α) (r:List α):(G++a::r)[G.length]?=some a:=by
 rw [List.getElem?_append_right (Nat.le_refl _)];simp
theorem get_at1 {α:Type} (G:List α) (a b:α) (r:List α):(G++a::b::r)[G.length+1]?=some b:=by
 rw [List.getElem?_append_right (by omega)];simp
theorem set_at1 {α:Type} (G:List α) (a b c:α) (r:List α):(G++a::b::r).set (G.length+1) c=G++a::c::r:=by
 rw [List.set_append_right _ _ (by omega)];simp
theorem is_app1G {O:Orc} {k:List Fr} {Q:Post} {e:Env} {A:List (Bool × List Blk)} {L:List Blk} {keep:List Nat} {is:List PI} {d:Nat} {s x:Opd} {ix ver n:Nat} {l:List Tr} {t:Tr} (hs:opdO e s=some (.ref A.length ix ver 0 n)) (hx:opdO e x=some (.lit ([t].map Tr.av))) (hg:L[ix]?=some (Blk.arr 7 ver (l.map Tr.av))) (hb:n=l.length)
 (hl:l.length+1<4294967296) (h:Is O is keep k Q ((d,.ref A.length ix (ver+1) 0 (n+1))::e) ⟨A,false,L.set ix (Blk.arr 7 (ver+1) ((l++[t]).map Tr.av))⟩):Is O (⟨some d,none,false,.app 7 80 s x⟩::is) keep k Q e ⟨A,false,L⟩:=by
 subst hb
 refine is_appRef hs hg rfl hx (.lit _) (by simp;omega) ?_
 simpa using h
theorem is_onilG {O:Orc} {k:List Fr} {Q:Post} {e:Env} {A:List (Bool × List Blk)} {L:List Blk} {keep:List Nat} {is:List PI} {d w:Nat} (h:Is O is keep k Q ((d,.ref A.length L.length 0 0 0)::e) ⟨A,false,L++[Blk.arr w 0 []]⟩):Is O (⟨some d,none,false,.onil w⟩::is) keep k Q e ⟨A,false,L⟩ :=
 is_of (v:=.ref A.length L.length 0 0 0) (st':=⟨A,false,L++[Blk.arr w 0 []]⟩) (by simp only [evalPI,evalPO,Option.bind_some,St.new_cur,newRefK]) h
theorem buildLoop {N:Nodes} (hN:GoodN N) {A:List (Bool × List Blk)} {k:List Fr} {Q:Post} {s:List UInt8} (hs:s.length≤65536) (B:Blk) (row:List Tr) (n:Nat) (r:List Tr) (hrow:Row N row 0 s) (hn:row.length≤n+1) (h64:row.length≤65536) (hr:buildR n row=r)
 (hex:∀ (G:List Blk) (ver:Nat),Rk (S Tb) k Q (.ex 2) [(2,.ptr A.length 0 0 0 0),(4,.ref A.length (B::G).length ver 0 r.length),(31,.bool false)] ⟨A,false,B::G++[.arr 7 ver (r.map Tr.av)]⟩) (ver:Nat) (ex:Env) :
 Ru (S Tb) (.loop p_plan_Build_23) k Q ((2,.ptr A.length 0 0 0 0)::(4,.ref A.length 1 ver 0 row.length)::ex) ⟨A,false,[B,.arr 7 ver (row.map Tr.av)]⟩:=by
 refine ru_loopP (α:=List Tr × List Blk × Nat × Env) (fun p=>(2,.ptr A.length 0 0 0 0)::(4,.ref A.length (B::p.2.1).length p.2.2.1 0 p.1.length)::p.2.2.2) (fun p=>⟨A,false,B::p.2.1++[.arr 7 p.2.2.1 (p.1.map Tr.av)]⟩)
  (fun p=>p.1.length≤65536∧∃ k h,p.1.length≤k+1∧Row N p.1 h s∧buildR k p.1=r) (fun p=>p.1.length) (row,[],ver,ex) rfl rfl ⟨h64,n,0,hn,hrow,hr⟩ ?_
 rintro ⟨row,G,ver,ex⟩ ⟨h64,kk,h,hk,hR,hb⟩
 simp only at h64 hk hR hb ⊢
 repeat' (first|refine ru_seq ?_|refine ru_reg ?_|refine is_mv rfl ?_|refine is_nil rfl ?_|refine rk_seq ?_|refine is_lenR rfl ?_|(refine is_gtr rfl rfl (fun _=>?_) (fun _=>?_)<;>try (exfalso;omega))|refine ru_iteT rfl ?_|refine ru_iteF rfl ?_|refine ru_skip ?_|refine ru_exit ?_|refine ru_block ?_|refine rk_seq_ex ?_|refine rk_inv_ex ?_)
 ·rename_i hgt
  have hgt2:2≤row.length:=by omega
  obtain ⟨kk,rfl⟩:∃ j,kk=j+1:=⟨kk-1,by omega⟩
  rw [buildR,if_neg (by omega)] at hb
  have hh:h+1≤16:=by
   match row,hgt2,hR with
   | t::r,_,hR =>
    have h1:=(hR.val t (by simp))
    have h3:=txt_len hN h1.1
    have h4:(t.txt N).length≤s.length:=by rw [← hR.txt,Tr.txtL,List.length_append];omega
    have:=h1.1.height hN (by omega)
    omega
  obtain ⟨u1,u2,u3⟩:=rowUp_ok hR hgt2 hh
  refine is_callE rfl rfl rfl (Even_ok row.length 4 _ (by omega)) ?_
  have hg:=groupsI_pos (n:=row.length) (most:=4) (by omega) (by omega)
  have hget:=fun i hi=>sizesI_get (n:=row.length) (m:=4) (by omega) (i:=i) hi
  have hlen:=sizesI_len (n:=row.length) (m:=4) (by omega)
  have hpb:=fun (i:Nat) hi=>posI_bounds (n:=row.length) (g:=groupsI row.length 4) (by omega) (by omega) (i:=i) hi
  have hps:=posI_succ row.length (groupsI row.length 4)
  have hp0:=posI_zero row.length (groupsI row.length 4) (by omega)
  have hsn:=sizeI_nonneg (n:=row.length) (g:=groupsI row.length 4) (by omega) (by omega)
  have hrl:(rowUp row).length=(groupsI row.length 4).toNat:=by unfold rowUp;simp
  have hrg:∀ i,i<(groupsI row.length 4).toNat→(rowUp row)[i]?=some (grp (partI row (groupsI row.length 4) i)):=by
   intro i hi
   unfold rowUp
   rw [List.getElem?_map,List.getElem?_range hi];rfl
  have hpl:=fun i hi=>part_len row (g:=groupsI row.length 4) hg.1 (i:=i) hi
  have hpe:∀ i,partI row (groupsI row.length 4) i=(row.drop (posI row.length (groupsI row.length 4) i).toNat).take (sizeI row.length (groupsI row.length 4) i).toNat:=fun _=>rfl
  generalize sizesI (row.length:Int) 4=z at *
  generalize groupsI (row.length:Int) 4=g at *
  generalize rowUp row=up at *
  have hh2:∀ u∈row,u.h≤65536:=fun u hu=>by have:=(hR.val u hu).1.h16;omega
  repeat' (first|refine ru_seq ?_|refine ru_reg ?_|refine is_mv rfl ?_|refine is_ext rfl rfl ?_|refine is_nil rfl ?_|refine rk_seq ?_|refine is_lenM rfl ?_|(refine is_neq rfl rfl (fun _=>?_) (fun _=>?_)<;>try (exfalso;omega))|refine ru_iteF rfl ?_|refine is_onilG ?_|refine ru_skip ?_|refine ru_block ?_)
  all_goals try (exfalso;omega)
  refine ru_loopP (α:=Nat) (fun i=>[(2,.ptr A.length 0 0 0 0),(4,.ref A.length (B::G).length ver (posI row.length g i).toNat (row.length-(posI row.length g i).toNat)),(9,.ref A.length ((B::G).length+1) i 0 i),(42,intsV z),(43,.int .i64 z.length),(44,.int .i64 i)])
   (fun i=>⟨A,false,B::G++[.arr 7 ver (row.map Tr.av),.arr 7 i ((up.take i).map Tr.av)]⟩) (fun i=>i≤z.length) (fun i=>z.length-i) 0 ?_ ?_ (Nat.zero_le _) ?_
  ·simp [hp0]
  ·simp
  intro i hi
  repeat' (first|refine ru_seq ?_|refine ru_reg ?_|refine is_mv rfl ?_|refine is_nil rfl ?_|refine rk_seq ?_|refine is_ldl rfl rfl ?_|refine is_ixM rfl rfl (by omega) (fun _=>rfl) (fun _ _=>?_)|(refine is_lss rfl rfl (fun _=>?_) (fun _=>?_)<;>try (exfalso;omega))|refine ru_iteT rfl ?_|refine ru_iteF rfl ?_|refine ru_skip ?_|refine ru_exit ?_|refine ru_block ?_|refine rk_seq_ex ?_|refine rk_blk ?_|refine rk_blk_eq rfl ?_|refine rk_inv ?_|refine rk_inv_ex ?_)
  ·rename_i hlt x hx
   have hi2:i<g.toNat:=by omega
   have hx2:z[i]?=some x:=hx
   rw [hget i hi2] at hx2
   have hx3:=Option.some.inj hx2
   subst hx3
   have hb0:=hpb i (by omega)
   have hb1:=hpb (i+1) (by omega)
   rw [hps i] at hb1
   have hs0:=hsn i
   have hpl2:=hpl i hi2
   have hrg2:=hrg i hi2
   have hpe2:=hpe i
   have hps2:=hps i
   generalize posI (row.length:Int) g i=p at *
   generalize sizeI (row.length:Int) g i=q at *
   generalize partI row g i=part at *
   have hgetL:∀ b:Blk,(B::G++[.arr 7 ver (row.map Tr.av),b])[(B::G).length]?=some (.arr 7 ver (row.map Tr.av)):=fun b=>get_at _ _ _
   have hwi:wIs 7 ver (St.get ⟨A,false,B::G++[.arr 7 ver (row.map Tr.av),.arr 7 i ((up.take i).map Tr.av)]⟩ A.length (B::G).length)=true:=by
    rw [St.get_cur,hgetL];simp [vis,wIs]
   refine is_slcR_hi rfl rfl (by omega) hwi ?_
   have hSl:Sl ⟨A,false,B::G++[.arr 7 ver (row.map Tr.av),.arr 7 i ((up.take i).map Tr.av)]⟩ (.ref A.length (B::G).length ver p.toNat q.toNat) part:=by
    refine .ref (es:=row.map Tr.av) (by rw [St.get_cur,hgetL];rfl) (by omega) (by rw [List.length_map];omega) ?_
    rw [hpe2,← List.map_drop,← List.map_take]
   refine is_callE rfl rfl rfl (group_c (by omega) (fun u hu=>hh2 u (by rw [hpe2] at hu;exact List.mem_of_mem_drop (List.mem_of_mem_take hu))) hSl) ?_
   have hti:(up.take i).length=i:=by rw [List.length_take];omega
   refine is_bslTr1 rfl ?_
   refine is_app1G rfl rfl (get_at1 _ _ _ _) hti.symm (by omega) ?_
   rw [set_at1]
   have htk:=take_succ_get hrg2
   rw [← htk]
   repeat' (first|refine ru_reg ?_|refine is_mv rfl ?_|refine is_nil rfl ?_|refine rk_seq ?_)
   have hwi2:wIs 7 ver (St.get ⟨A,false,B::G++[.arr 7 ver (row.map Tr.av),.arr 7 (i+1) ((up.take (i+1)).map Tr.av)]⟩ A.length (B::G).length)=true:=by
    rw [St.get_cur,hgetL];simp [vis,wIs]
   refine is_slcR_lo rfl rfl (by omega) hwi2 ?_
   repeat' (first|refine ru_reg ?_|refine is_mv rfl ?_|refine is_nil rfl ?_|refine rk_seq ?_|refine is_addS rfl rfl (by omega) ?_|refine rk_blk ?_|refine rk_inv ?_)
   refine ⟨i+1,⟨?_,rfl⟩,by omega,by omega⟩
   rw [show p.toNat+q.toNat=(p+q).toNat by omega,show row.length-p.toNat-q.toNat=row.length-(p+q).toNat by omega]
   simp only [hps2]
   rfl
  ·have hi2:i=up.length:=by omega
   subst hi2
   rw [List.take_length]
   refine ⟨(up,G++[.arr 7 ver (row.map Tr.av)],up.length,[]),⟨?_,?_⟩,⟨by simp only;omega,kk,h+1,by simp only;omega,u1,hb⟩,by simp only;omega⟩
   ·simp
   ·simp
 ·have hrr : buildR kk row = row := by
   cases kk with
   | zero=>rfl
   | succ j=>rw [buildR,if_pos (by omega)]
  rw [hrr] at hb
  subst hb
  exact hex G ver
theorem chunksL_len (s:List UInt8):(chunksL s).length≤s.length:=by
 have:=(leafRow_ok (N:=[]) s).2.1
 simpa using this
theorem Build_c {N:Nodes} (hN:GoodN N) (s:List UInt8) (hs:s.length≤65536) (st:St):S Tb F_plan_Build [.str s] st=some (.tup [(buildM s).av,.int .i64 0],st):=by
 refine s_of rfl (fun A hA=>?_)
 have hcl:=chunksL_len s
 have hch:=fun st=>Chunks_c s st (by omega)
 obtain ⟨ra,rb,rc⟩:=leafRow_ok (N:=N) s
 obtain ⟨h',rd,re,rf⟩:=buildR_ok hN s.length _ 0 s ra (by omega) hs
 unfold buildM
 generalize hres:buildR s.length ((chunksL s).map leafT)=r at *
 have hG:=fun {v:AV} {st:St} (hv:Sl st v r)=>group_c (by omega) (fun u hu=>by have:=(rd.val u hu).1.h16;omega) hv
 have hlen:((chunksL s).map leafT).length=(chunksL s).length:=by simp
 generalize hc:chunksL s=c at *
 unfold strsV at hch
 repeat' (first|refine ru_seq ?_|refine ru_reg ?_|refine is_mv rfl ?_|refine is_nil rfl ?_|refine rk_seq ?_|refine is_lenS rfl ?_|refine is_lenM rfl ?_|(refine is_gtr rfl rfl (fun _=>?_) (fun _=>?_)<;>try (exfalso;omega))|refine ru_iteF rfl ?_|refine is_box rfl rfl rfl ?_|refine is_onil rfl ?_|refine is_callE rfl rfl (by first|rfl|(simp only [List.nil_append,List.append_nil,List.cons_append,weaks,tr_weak,forceL];first|done|rfl)) (hch _) ?_|refine ru_skip ?_|refine ru_block ?_)
 all_goals try (exfalso;omega)
 refine ru_loopP (α:=Nat) (fun i=>[(2,.ptr A.length 0 0 0 0),(4,.ref A.length 1 i 0 i),(17,.lit (c.map .str)),(18,.int .i64 c.length),(19,.int .i64 i)])
  (fun i=>⟨A,false,[.arr 7 0 [trZ],.arr 7 i ((c.take i).map fun s=>(leafT s).av)]⟩) (fun i=>i≤c.length) (fun i=>c.length-i) 0 rfl rfl (by simp) ?_
 rintro i hi
 repeat' (first|refine ru_seq ?_|refine ru_reg ?_|refine is_mv rfl ?_|refine is_nil rfl ?_|refine rk_seq ?_|refine is_ldl rfl rfl ?_|refine is_ixM rfl rfl (by omega) (fun _=>rfl) (fun _ _=>?_)|(refine is_lss rfl rfl (fun _=>?_) (fun _=>?_)<;>try (exfalso;omega))|refine ru_iteT rfl ?_|refine ru_iteF rfl ?_|refine is_addS rfl rfl (by omega) ?_|refine is_buildO rfl rfl rfl ?_|refine is_bslFO rfl rfl rfl rfl ?_|refine is_app1 rfl rfl rfl (by first|rfl|(simp;done)|(simp;omega)) (by first|omega|(simp<;>omega)) (by decide) rfl rfl rfl ?_|refine ru_skip ?_|refine ru_exit ?_|refine ru_block ?_|refine rk_seq_ex ?_|refine rk_blk ?_|refine rk_blk_eq rfl ?_|refine rk_inv ?_|refine rk_inv_ex ?_)
 ·rename_i x hx
  have hx2:c[i]?=some x:=hx
  refine ⟨i+1,⟨rfl,?_⟩,by omega,by omega⟩
  simp only [take_succ_get hx2,List.map_append,List.map_cons,List.map_nil]
  rfl
 ·have hi':i=c.length:=by omega
  subst hi'
  rw [List.take_length]
  have:=buildLoop hN hs (A:=A) (.arr 7 0 [trZ]) (c.map leafT) s.length r ra (by omega) (by omega) hres (k:=[.blk 2,.seq (.seq p_plan_Build_24 .ret)]) (Q:=fun x e st'=>endK false [.c 2 true 7,.s 3] (x,e,st')=some (.tup [(grp r).av,.int .i64 0],st)) (fun G ver=>?_) c.length [(17,.lit (c.map .str)),(18,.int .i64 c.length),(19,.int .i64 c.length),(20,.bool false)]
  ·rw [List.map_map,List.length_map] at this
   exact this
  ·repeat' (first|refine ru_seq ?_|refine ru_reg ?_|refine is_mv rfl ?_|refine is_nil rfl ?_|refine rk_seq ?_|refine is_stn rfl rfl rfl rfl (tr_seal _ _ _) (tr_put _ _) ?_|refine is_callE rfl rfl (by first|rfl|(simp only [List.nil_append,List.append_nil,List.cons_append,weaks,tr_weak,forceL];first|done|rfl)) (hG (Sl.cur (get_at _ _ _) rfl)) ?_|refine ru_ret ?_|refine rk_nil ?_|refine rk_blk_eq rfl ?_)
   exact end_tr1 hA (.inr rfl) rfl rfl rfl rfl
end Go.Q15
namespace Go.Q15
open Go Go.QAbs
set_option maxRecDepth 100000
set_option maxHeartbeats 8000000
noncomputable def replM (N:Nodes) (t:Tr) (a n:Int) (s:List UInt8):Tr :=
 if n=0∧s=[] then t
 else concM N (concM N (cutF N t.h t a).1 (buildM s)) (cutF N (cutF N t.h t a).2.h (cutF N t.h t a).2 n).2
structure ReplOk (N:Nodes) (t:Tr) (a n:Int) (s:List UInt8) (r:Tr):Prop where
 ve:VE N r
 txt:r.txt N=(t.txt N).take a.toNat++s++(t.txt N).drop (a+n).toNat
 bytes:r.bytes=t.bytes-n+s.length
theorem replM_ok {N:Nodes} (hN:GoodN N) {t:Tr} (ht:VE N t) {a n:Int} {s:List UInt8} (h0:0≤a) (h1:0≤n) (h2:a+n≤t.bytes) (hb:t.bytes≤65536) (hs:t.bytes-n+s.length≤65536):ReplOk N t a n s (replM N t a n s):=by
 unfold replM
 split
 ·rename_i h
  obtain ⟨rfl,rfl⟩:=h
  exact ⟨ht,by simp,by simp⟩
 ·have c1:=cutF_ok hN t.h t a ht rfl h0 (by omega) hb
  generalize cutF N t.h t a=q at *
  obtain ⟨l,m⟩:=q
  simp only at *
  have hm:=c1.rb
  have hl:=c1.lb
  simp only at hm hl
  have c2:=cutF_ok hN m.h m n c1.r rfl h1 (by omega) (by omega)
  generalize cutF N m.h m n=q at *
  obtain ⟨d,r⟩:=q
  simp only at *
  have hr:=c2.rb
  simp only at hr
  obtain ⟨b1,b2,b3⟩:=buildM_ok hN (s:=s) (by omega)
  have k1:=concM_ok hN c1.l b1 (by rw [b3];simp only;omega)
  have k2:=concM_ok hN k1.ve c2.r (by rw [k1.bytes,b3];simp only;omega)
  refine ⟨k2.ve,?_,by rw [k2.bytes,k1.bytes,b3];simp only;omega⟩
  rw [k2.txt,k1.txt,b2]
  have e1:=c1.lt
  have e2:=c1.rt
  have e3:=c2.rt
  simp only at e1 e2 e3 ⊢
  rw [e1,e3,e2,List.drop_drop,show a.toNat+n.toNat=(a+n).toNat by omega]
theorem Replace_c {N:Nodes} (hN:GoodN N) {st:St} {lv ix:Nat} (hr:Rd st lv ix N) {t:Tr} (ht:VE N t) {a n:Int} {s:List UInt8} (h0:0≤a) (h1:0≤n) (h2:a+n≤t.bytes) (hb:t.bytes≤65536) (hs:t.bytes-n+s.length≤65536) :
 S Tb F_plan_Replace [.ptr lv ix 0 0 0,t.av,.int .i64 a,.int .i64 n,.str s] st=some (.tup [(replM N t a n s).own.av,.int .i64 0],st):=by
 refine s_of rfl (fun A hA=>?_)
 have hrp:=fun L=>hr.push hA (ro:=false) (L:=L)
 have hC:=fun L=>Check_ve (hrp L) ht hb
 have hB:=fun st=>bytes_c t ht.pos.1 (by omega) st
 have hpos:=ht.pos.2
 by_cases hz:n=0∧s=[]
 ·have he:replM N t a n s=t:=by unfold replM;rw [if_pos hz]
  rw [he]
  obtain ⟨rfl,rfl⟩:=hz
  have hO:=fun st=>own_c t ht.pos.1 st
  generalize t.own=o at *
  repeat' (first|refine ru_seq ?_|refine ru_reg ?_|refine is_mv rfl ?_|refine is_gT rfl ?_|refine is_gF rfl rfl ?_|refine is_pick rfl rfl rfl rfl ?_|refine is_nil rfl ?_|refine rk_seq ?_|refine is_lenSF rfl rfl ?_|(refine is_lss rfl rfl (fun _=>?_) (fun _=>?_)<;>try (exfalso;omega))|(refine is_gtr rfl rfl (fun _=>?_) (fun _=>?_)<;>try (exfalso;omega))|(refine is_eql rfl rfl (fun _=>?_) (fun _=>?_)<;>try (exfalso;omega))|(refine is_neq rfl rfl (fun _=>?_) (fun _=>?_)<;>try (exfalso;omega))|(refine is_eqlS rfl rfl (fun _=>?_) (fun _=>?_)<;>try contradiction)|refine ru_iteT rfl ?_|refine ru_iteF rfl ?_|refine is_subS rfl rfl (by omega) ?_|refine is_buildO rfl rfl rfl ?_|refine is_box rfl rfl rfl ?_|refine is_stb rfl rfl rfl rfl rfl rfl ?_|refine is_ldc rfl rfl rfl (tr_part _) ?_|refine is_stb rfl rfl rfl (tr_seal _ _ _) (tr_put _ _) rfl ?_|refine is_boxG rfl (tr_wide _) (tr_force _) ?_|refine is_callE rfl rfl (by first|rfl|(simp only [List.nil_append,List.append_nil,List.cons_append,weaks,tr_weak,forceL];first|done|rfl)) (hC _) ?_|refine is_callE rfl rfl (by first|rfl|(simp only [List.nil_append,List.append_nil,List.cons_append,weaks,tr_weak,forceL];first|done|rfl)) (hB _) ?_|refine is_callE rfl rfl (by first|rfl|(simp only [List.nil_append,List.append_nil,List.cons_append,weaks,tr_weak,forceL];first|done|rfl)) (hO _) ?_|refine is_mnx rfl rfl ?_|refine ru_skip ?_|refine ru_ret ?_|refine rk_nil ?_|refine rk_seq_ret ?_)
  all_goals try (simp only [Bool.false_eq_true,if_false] at *)
  all_goals try (exfalso;omega)
  all_goals first|(exact end_tr1 hA (.inr rfl) rfl rfl rfl rfl)|(exact absurd ⟨by assumption,by assumption⟩ hz)
 ·have hK1:=fun L=>cut_c hN t.h (hrp L) ht rfl a h0 (by omega) hb
  have c1:=cutF_ok hN t.h t a ht rfl h0 (by omega) hb
  have hrm:replM N t a n s=concM N (concM N (cutF N t.h t a).1 (buildM s)) (cutF N (cutF N t.h t a).2.h (cutF N t.h t a).2 n).2:=by unfold replM;rw [if_neg hz]
  have hO0:=(replM_ok hN ht h0 h1 h2 hb hs).ve.pos.1
  generalize cutF N t.h t a=q at *
  obtain ⟨l,m⟩:=q
  simp only at *
  have hm:=c1.rb
  have hl:=c1.lb
  have vl:=c1.l
  have vm:=c1.r
  simp only at hm hl vl vm
  have hK2:=fun L=>cut_c hN m.h (hrp L) vm rfl n h1 (by omega) (by omega)
  have c2:=cutF_ok hN m.h m n vm rfl h1 (by omega) (by omega)
  generalize cutF N m.h m n=q at *
  obtain ⟨d,r⟩:=q
  simp only at *
  have vr:=c2.r
  have hrb:=c2.rb
  simp only at vr hrb
  obtain ⟨b1,b2,b3⟩:=buildM_ok hN (s:=s) (by omega)
  have hBu:=fun st=>Build_c hN s (by omega) st
  generalize buildM s=b at *
  have hc1:=fun L=>concat_c hN (hrp L) vl b1
  have k1:=(concM_ok hN vl b1 (by omega)).ve
  generalize concM N l b=z1 at *
  have hc2:=fun L=>concat_c hN (hrp L) k1 vr
  generalize concM N z1 r=z2 at *
  rw [hrm] at hO0 ⊢
  have hO:=fun st=>own_c z2 hO0 st
  generalize z2.own=zo at *
  have hmin:∀ x:Int,min x 65536≤x∧min x 65536≤65536∧(min x 65536=x∨min x 65536=65536):=fun x=>by omega
  have hmin2:=hmin s.length
  repeat' (first|refine ru_seq ?_|refine ru_reg ?_|refine is_mv rfl ?_|refine is_gT rfl ?_|refine is_gF rfl rfl ?_|refine is_pick rfl rfl rfl rfl ?_|refine is_ext rfl rfl ?_|refine is_nil rfl ?_|refine rk_seq ?_|refine is_lenS rfl ?_|(refine is_lss rfl rfl (fun _=>?_) (fun _=>?_)<;>try (exfalso;omega))|(refine is_gtr rfl rfl (fun _=>?_) (fun _=>?_)<;>try (exfalso;omega))|(refine is_eql rfl rfl (fun _=>?_) (fun _=>?_)<;>try (exfalso;omega))|(refine is_neq rfl rfl (fun _=>?_) (fun _=>?_)<;>try (exfalso;omega))|(refine is_eqlS rfl rfl (fun _=>?_) (fun _=>?_)<;>try contradiction)|refine ru_iteT rfl ?_|refine ru_iteF rfl ?_|refine is_subS rfl rfl (by omega) ?_|refine is_buildO rfl rfl rfl ?_|refine is_box rfl rfl rfl ?_|refine is_stb rfl rfl rfl rfl rfl rfl ?_|refine is_ldc rfl rfl rfl (tr_part _) ?_|refine is_stb rfl rfl rfl (tr_seal _ _ _) (tr_put _ _) rfl ?_|refine is_boxG rfl (tr_wide _) (tr_force _) ?_|refine is_callE rfl rfl (by first|rfl|(simp only [List.nil_append,List.append_nil,List.cons_append,weaks,tr_weak,forceL];first|done|rfl)) (hC _) ?_|refine is_callE rfl rfl (by first|rfl|(simp only [List.nil_append,List.append_nil,List.cons_append,weaks,tr_weak,forceL];first|done|rfl)) (hB _) ?_|refine is_callE rfl rfl (by first|rfl|(simp only [List.nil_append,List.append_nil,List.cons_append,weaks,tr_weak,forceL];first|done|rfl)) (hK1 _) ?_|refine is_callE rfl rfl (by first|rfl|(simp only [List.nil_append,List.append_nil,List.cons_append,weaks,tr_weak,forceL];first|done|rfl)) (hK2 _) ?_|refine is_callE rfl rfl (by first|rfl|(simp only [List.nil_append,List.append_nil,List.cons_append,weaks,tr_weak,forceL];first|done|rfl)) (hBu _) ?_|refine is_callE rfl rfl (by first|rfl|(simp only [List.nil_append,List.append_nil,List.cons_append,weaks,tr_weak,forceL];first|done|rfl)) (hc1 _) ?_|refine is_callE rfl rfl (by first|rfl|(simp only [List.nil_append,List.append_nil,List.cons_append,weaks,tr_weak,forceL];first|done|rfl)) (hc2 _) ?_|refine is_callE rfl rfl (by first|rfl|(simp only [List.nil_append,List.append_nil,List.cons_append,weaks,tr_weak,forceL];first|done|rfl)) (hO _) ?_|refine is_mnx rfl rfl ?_|refine ru_skip ?_|refine ru_ret ?_|refine rk_nil ?_|refine rk_seq_ret ?_)
  all_goals try (simp only [Bool.false_eq_true,if_false] at *)
  all_goals try (exfalso;omega)
  all_goals first|(exact end_tr1 hA (.inr rfl) rfl rfl rfl rfl)|(exact absurd ⟨by assumption,by assumption⟩ hz)
end Go.Q15
namespace Go.Q15
open Go Go.QAbs
set_option maxRecDepth 100000
set_option maxHeartbeats 8000000
structure Out (st:St) (lv jb jx:Nat) (ver:Nat) (s:List UInt8):Prop where
 wr:st.wr lv
 box:st.get lv jb=some (.arr 1 0 [.ref lv jx ver 0 s.length])
 blk:st.get lv jx=some (.arr 1 ver (bytesAV s))
 ne:jx≠jb
def putOut (st:St) (lv jb jx ver:Nat) (s:List UInt8):St:=(st.upd lv jx (.arr 1 ver (bytesAV s))).upd lv jb (.arr 1 0 [.ref lv jx ver 0 s.length])
theorem bytes_wide (s:List UInt8):sameW 1 (bytesAV s)=true:=by
 induction s with
 | nil=>rfl
 | cons b s ih=>rw [bytesAV,List.map_cons,sameW,List.all_cons];exact Bool.and_eq_true_iff.2 ⟨rfl,ih⟩
theorem bytes_seal (b:Nat) (st:St) (s:List UInt8):mapSt (sealV deep b) st (bytesAV s)=some (bytesAV s,st):=by
 induction s with
 | nil=>rfl
 | cons x s ih =>
  show mapSt (sealV deep b) st (AV.int .u8 x.toNat::bytesAV s)=_
  rw [mapSt]
  show ((some (AV.int .u8 x.toNat,st)).bind fun r=>(mapSt (sealV deep b) r.2 (bytesAV s)).bind (consK r.1))=_
  rw [Option.bind_some,ih];rfl
theorem bytesAV_append (s t:List UInt8):bytesAV (s++t)=bytesAV s++bytesAV t:=by simp [bytesAV]
theorem bytesAV_len (s:List UInt8):(bytesAV s).length=s.length:=by simp [bytesAV]
theorem vis_arr {w v:Nat} {es:List AV}:vis (some (Blk.arr w v es))=some (Blk.arr w v es):=rfl
theorem Out.put {st:St} {lv jb jx ver:Nat} {s:List UInt8} (h:Out st lv jb jx ver s) (ver':Nat) (t:List UInt8):Out (putOut st lv jb jx ver' t) lv jb jx ver' t:=by
 have g1:∀ l' i',(st.upd lv jx (.arr 1 ver' (bytesAV t))).get l' i'=if l'=lv∧i'=jx then some (.arr 1 ver' (bytesAV t)) else st.get l' i':=fun l' i'=>St.get_upd h.blk vis_arr
 have b1:(st.upd lv jx (.arr 1 ver' (bytesAV t))).get lv jb=some (.arr 1 0 [.ref lv jx ver 0 s.length]):=by rw [g1,if_neg (fun q=>h.ne q.2.symm)];exact h.box
 have g2:∀ l' i',(putOut st lv jb jx ver' t).get l' i'=if l'=lv∧i'=jb then some (.arr 1 0 [.ref lv jx ver' 0 t.length]) else (st.upd lv jx (.arr 1 ver' (bytesAV t))).get l' i':=fun l' i'=>St.get_upd b1 vis_arr
 refine ⟨St.wr_upd (St.wr_upd h.wr h.wr) (St.wr_upd h.wr h.wr),by rw [g2,if_pos ⟨rfl,rfl⟩],?_,h.ne⟩
 rw [g2,if_neg (fun q=>h.ne q.2),g1,if_pos ⟨rfl,rfl⟩]
theorem putOut_get {st:St} {lv jb jx ver:Nat} {s:List UInt8} (h:Out st lv jb jx ver s) (ver':Nat) (t:List UInt8) {l' i':Nat} (hn:¬ (l'=lv∧(i'=jx∨i'=jb))):(putOut st lv jb jx ver' t).get l' i'=st.get l' i':=by
 have b1:(st.upd lv jx (.arr 1 ver' (bytesAV t))).get lv jb=some (.arr 1 0 [.ref lv jx ver 0 s.length]):=by
  rw [St.get_upd h.blk vis_arr,if_neg (fun q=>h.ne q.2.symm)];exact h.box
 rw [putOut,St.get_upd b1 vis_arr,if_neg (fun q=>hn ⟨q.1,.inr q.2⟩),St.get_upd h.blk vis_arr,if_neg (fun q=>hn ⟨q.1,.inl q.2⟩)]
theorem upd_upd {st:St} {lv ix:Nat} {b c:Blk}:(st.upd lv ix b).upd lv ix c=st.upd lv ix c:=by
 unfold St.upd
 by_cases h:lv=st.A.length
 ·simp only [if_pos h,List.set_set]
 ·simp only [if_neg h,List.length_set]
  rcases Nat.lt_or_ge lv st.A.length with q|q
  ·simp only [List.set_set,List.getElem?_set,if_true,if_pos q,Option.getD_some,updR]
  ·simp only [List.set_eq_of_length_le q]
theorem upd_comm {st:St} {lv ix jx:Nat} {b c:Blk} (h:ix≠jx):(st.upd lv ix b).upd lv jx c=(st.upd lv jx c).upd lv ix b:=by
 unfold St.upd
 by_cases hl:lv=st.A.length
 ·simp only [if_pos hl]
  rw [List.set_comm _ _ h]
 ·simp only [if_neg hl,List.length_set]
  rcases Nat.lt_or_ge lv st.A.length with q|q
  ·simp only [List.set_set,List.getElem?_set,if_true,if_pos q,Option.getD_some,updR]
   rw [List.set_comm _ _ h]
  ·simp only [List.set_eq_of_length_le q]
theorem putOut_put {st:St} {lv jb jx v1 v2:Nat} {s t:List UInt8} (h:jx≠jb):putOut (putOut st lv jb jx v1 s) lv jb jx v2 t=putOut st lv jb jx v2 t:=by
 unfold putOut
 rw [upd_comm (st:=st.upd lv jx _) (fun q=>h q.symm),upd_upd,upd_upd]
theorem putOut_push {st:St} {A:List (Bool × List Blk)} {ro:Bool} {L:List Blk} (hA:A=st.A++[(st.ro,st.L)]) {lv jb jx ver:Nat} {s:List UInt8} (hl:lv≤st.A.length) :
 putOut ⟨A,ro,L⟩ lv jb jx ver s=⟨(putOut st lv jb jx ver s).A++[((putOut st lv jb jx ver s).ro,(putOut st lv jb jx ver s).L)],ro,L⟩:=by
 unfold putOut
 rw [upd_push hA hl]
 exact upd_push rfl (by rw [St.upd_A];exact hl)
section
variable {O:Orc} {k:List Fr} {Q:Post} {e:Env} {A:List (Bool × List Blk)} {L:List Blk} {keep:List Nat} {is:List PI} {d:Nat}
theorem is_appOut {st:St} {s x:Opd} {lv jb jx ver:Nat} {t u:List UInt8} (hA:A=st.A++[(st.ro,st.L)]) (ho:Out st lv jb jx ver t) (hs:opdO e s=some (.ref lv jx ver 0 t.length)) (hx:opdO e x=some (.str u)) (hl:t.length+u.length<4294967296)
 (h:∀ A',A'=(st.upd lv jx (.arr 1 (ver+1) (bytesAV (t++u)))).A++[((st.upd lv jx (.arr 1 (ver+1) (bytesAV (t++u)))).ro,(st.upd lv jx (.arr 1 (ver+1) (bytesAV (t++u)))).L)]→Is O is keep k Q ((d,.ref lv jx (ver+1) 0 (t.length+u.length))::e) ⟨A',false,L⟩) :
 Is O (⟨some d,none,false,.app 1 1 s x⟩::is) keep k Q e ⟨A,false,L⟩:=by
 have hlv:=St.get_le ho.blk
 refine is_of (v:=.ref lv jx (ver+1) 0 (t.length+u.length)) (st':=St.upd ⟨A,false,L⟩ lv jx (.arr 1 (ver+1) (bytesAV (t++u)))) ?_ ?_
 ·have hg:=get_old hA (ro:=false) (L:=L) ho.blk
  have hw:=wr_push hA hlv ho.wr (ro:=false) (L:=L)
  simp only [evalPI,evalPO,opdO_some hs,opdO_some hx,elems,Option.bind_some,appendV,bytesAV_len,bytes_wide,if_true,bytes_seal,appK,hg,appB,true_and,if_pos (show 0+t.length≤t.length∧t.length+u.length<4294967296∧1≤4096 by omega),List.drop_zero]
  rw [List.take_of_length_le (by rw [bytesAV_len];omega),← bytesAV_append,St.put_upd hw hg]
  rfl
 ·rw [upd_push hA hlv]
  exact h _ rfl
end
theorem Rd.out {st:St} {lv jb jx ver pl px:Nat} {s:List UInt8} {N:Nodes} (hr:Rd st pl px N) (ho:Out st lv jb jx ver s) (hne:pl≠lv) (v:Nat) (t:List UInt8):Rd (putOut st lv jb jx v t) pl px N:=by
 obtain ⟨a0,a1,im,a3,a4,a5,h1,h2⟩:=hr
 exact ⟨a0,a1,im,a3,a4,a5,by rw [putOut_get ho _ _ (fun q=>hne q.1)];exact h1,by rw [putOut_get ho _ _ (fun q=>hne q.1)];exact h2⟩
structure WalkAt (st:St) (lv ab ob xb wb pl px:Nat) (N:Nodes):Prop where
 rd:Rd st pl px N
 lt:pl≠lv
 a:st.get lv ab=some (.arr 1 0 [.ptr pl px 0 0 0])
 w:st.get lv wb=some (.arr 1 0 [.func (.func F_plan_TextC1) [] [.ptr lv ab 0 0 0,.ptr lv ob 0 0 0,.ptr lv wb 0 0 0]])
 na:ab≠xb∧ab≠ob
 nw:wb≠xb∧wb≠ob
theorem WalkAt.put {st:St} {lv ab ob xb wb pl px ver:Nat} {N:Nodes} {s:List UInt8} (h:WalkAt st lv ab ob xb wb pl px N) (ho:Out st lv ob xb ver s) (v:Nat) (t:List UInt8):WalkAt (putOut st lv ob xb v t) lv ab ob xb wb pl px N :=
 ⟨h.rd.out ho h.lt v t,h.lt,by rw [putOut_get ho _ _ (fun q=>by rcases q.2 with w|w;exact h.na.1 w;exact h.na.2 w)];exact h.a,by rw [putOut_get ho _ _ (fun q=>by rcases q.2 with w|w;exact h.nw.1 w;exact h.nw.2 w)];exact h.w,h.na,h.nw⟩
theorem vis_some {o:Option Blk} {b:Blk} (h:vis o=some b):o=some b:=by
 cases o with
 | none=>simp [vis] at h
 | some c=>cases c<;>simp [vis] at h<;>exact congrArg some h
theorem set_same {α:Type} {l:List α} {i:Nat} {b:α} (h:l[i]?=some b):l.set i b=l:=by
 obtain ⟨h1,h2⟩:=List.getElem?_eq_some_iff.1 h
 subst h2
 exact List.set_getElem_self h1
theorem upd_same {st:St} {lv ix:Nat} {b:Blk} (h:st.get lv ix=some b):st.upd lv ix b=st:=by
 unfold St.upd
 by_cases q:lv=st.A.length
 ·rw [if_pos q]
  rw [St.get,if_pos q] at h
  have h2:=vis_some h
  rw [set_same h2]
 ·rw [if_neg q]
  rw [St.get,if_neg q] at h
  cases hr:st.A[lv]? with
  | none=>rw [hr] at h;simp at h
  | some r =>
   rw [hr] at h
   have h2:=vis_some h
   have e1:r.2.set ix b=r.2:=set_same h2
   simp only [Option.getD_some,updR,e1]
   rw [show (r.1,r.2)=r from rfl]
   rw [set_same hr]
theorem Out.same {st:St} {lv jb jx ver:Nat} {s:List UInt8} (h:Out st lv jb jx ver s):putOut st lv jb jx ver s=st:=by
 rw [putOut,upd_same h.blk,upd_same h.box]
theorem Out.push {st:St} {A:List (Bool × List Blk)} {ro:Bool} {L:List Blk} (hA:A=st.A++[(st.ro,st.L)]) {lv jb jx ver:Nat} {s:List UInt8} (h:Out st lv jb jx ver s):Out ⟨A,ro,L⟩ lv jb jx ver s :=
 ⟨wr_push hA (St.get_le h.blk) h.wr,get_old hA h.box,get_old hA h.blk,h.ne⟩
theorem WalkAt.push {st:St} {A:List (Bool × List Blk)} {ro:Bool} {L:List Blk} (hA:A=st.A++[(st.ro,st.L)]) {lv ab ob xb wb pl px:Nat} {N:Nodes} (h:WalkAt st lv ab ob xb wb pl px N):WalkAt ⟨A,ro,L⟩ lv ab ob xb wb pl px N :=
 ⟨h.rd.push hA,h.lt,get_old hA h.a,get_old hA h.w,h.na,h.nw⟩
theorem wk4 (t:Tr) (a b c:AV) (ha:weak a=a) (hb:weak b=b) (hc:weak c=c):forceL (weaks ([]++[t.av]++[a,b,c]))=some [t.av,a,b,c]:=by
 simp only [List.nil_append,List.cons_append,weaks,tr_weak,ha,hb,hc,forceL]
theorem walk_c {N:Nodes} (hN:GoodN N):∀ (n:Nat) (t:Tr),Val N t→t.h=n→t.bytes≤65536→∀ {st:St} {lv ab ob xb wb pl px ver:Nat} {s:List UInt8},WalkAt st lv ab ob xb wb pl px N→Out st lv ob xb ver s→s.length+t.bytes<4294967296 →
 Sp Tb F_plan_TextC1 [t.av,.ptr lv ab 0 0 0,.ptr lv ob 0 0 0,.ptr lv wb 0 0 0] st fun v st'=>v=.int .i64 0∧∃ ver',st'=putOut st lv ob xb ver' (s++t.txt N):=by
 intro n
 induction n with
 | zero =>
  intro t hv hh hb st lv ab ob xb wb pl px ver s hw ho hl
  refine sp_of rfl ?_
  obtain ⟨A,hA⟩:∃ A,A=st.A++[(st.ro,st.L)]:=⟨_,rfl⟩
  rw [← hA]
  have hL:=fun L=>line_c (hw.rd.push hA (ro:=false) (L:=L)) hv
  have hln:=hv.line hh
  have htx:=txt_line hv hh
  rw [htx]
  have hg1:=fun L=>get_old hA (ro:=false) (L:=L) hw.a
  have hg2:=fun L=>get_old hA (ro:=false) (L:=L) ho.box
  generalize lineOf N t=u at *
  repeat' (first|refine ru_seq ?_|refine ru_reg ?_|refine is_mv rfl ?_|refine is_fadr rfl rfl ?_|refine is_ext rfl rfl ?_|refine is_nil rfl ?_|refine rk_seq ?_|(refine is_eql rfl rfl (fun _=>?_) (fun _=>?_)<;>try (exfalso;omega))|refine ru_iteT rfl ?_|refine is_ldT rfl rfl (tr_part _) ?_|refine is_boxG rfl (tr_wide _) (tr_force _) ?_|refine is_ldc rfl rfl rfl (tr_hpart _) ?_|refine is_ld rfl (hg1 _) rfl rfl ?_|refine is_callE rfl rfl (by first|rfl|(simp only [List.nil_append,List.append_nil,List.cons_append,weaks,tr_weak,forceL];first|done|rfl)) (hL _) ?_|refine is_ld rfl (hg2 _) rfl rfl ?_)
  all_goals try (exfalso;omega)
  refine is_appOut hA ho rfl rfl (by omega) (fun A' hA'=>?_)
  have hgo:(st.upd lv xb (.arr 1 (ver+1) (bytesAV (s++u)))).get lv ob=some (.arr 1 0 [.ref lv xb ver 0 s.length]):=by
   rw [St.get_upd ho.blk vis_arr,if_neg (fun q=>ho.ne q.2.symm)];exact ho.box
  refine is_stP hA' rfl rfl (St.wr_upd ho.wr ho.wr) hgo rfl (seal_refL _ (Nat.lt_succ_self _)) rfl (fun A2 hA2=>?_)
  repeat' (first|refine ru_seq ?_|refine ru_reg ?_|refine is_mv rfl ?_|refine is_nil rfl ?_|refine rk_seq ?_|refine ru_ret ?_|refine rk_nil ?_|refine rk_seq_ret ?_)
  refine ⟨_,_,end_st hA2 (.inr rfl) rfl rfl rfl rfl rfl,rfl,ver+1,?_⟩
  unfold putOut
  rw [List.length_append]
  rfl
 | succ n ih =>
  intro t hv hh hb st lv ab ob xb wb pl px ver s hw ho hl
  refine sp_of rfl ?_
  obtain ⟨A,hA⟩:∃ A,A=st.A++[(st.ro,st.L)]:=⟨_,rfl⟩
  rw [← hA]
  obtain ⟨c1,c2,c3,c4⟩:=childs_ok hN hv (by omega)
  have hC:=fun L=>children_c (hw.rd.push hA (ro:=false) (L:=L)) hv (by omega)
  have htx:=txt_childs hN hv (by omega)
  have hg1:=fun L=>get_old hA (ro:=false) (L:=L) hw.a
  rw [htx]
  rw [← c4] at hl hb
  generalize childs N t=l at *
  have hpos:∀ u∈l,1≤u.bytes:=fun u hu=>(c1 u hu).1.pos.2
  repeat' (first|refine ru_seq ?_|refine ru_reg ?_|refine is_mv rfl ?_|refine is_fadr rfl rfl ?_|refine is_ext rfl rfl ?_|refine is_nil rfl ?_|refine rk_seq ?_|refine is_lenM rfl ?_|(refine is_eql rfl rfl (fun _=>?_) (fun _=>?_)<;>try (exfalso;omega))|(refine is_neq rfl rfl (fun _=>?_) (fun _=>?_)<;>try (exfalso;omega))|refine ru_iteF rfl ?_|refine is_ldT rfl rfl (tr_part _) ?_|refine is_boxG rfl (tr_wide _) (tr_force _) ?_|refine is_ldc rfl rfl rfl (tr_hpart _) ?_|refine is_ld rfl (hg1 _) rfl rfl ?_|refine is_callE rfl rfl (by first|rfl|(simp only [List.nil_append,List.append_nil,List.cons_append,weaks,tr_weak,forceL];first|done|rfl)) (hC _) ?_|refine ru_skip ?_|refine ru_block ?_)
  all_goals try (exfalso;omega)
  have hst:st=putOut st lv ob xb ver s:=ho.same.symm
  refine ru_loopP (α:=Nat × List Blk × Nat) (fun p=>[(3,.ptr lv wb 0 0 0),(35,.lit (l.map Tr.av)),(36,.int .i64 l.length),(37,.int .i64 p.1)])
   (fun p=>⟨(putOut st lv ob xb p.2.2 (s++Tr.txtL N (l.take p.1))).A++[((putOut st lv ob xb p.2.2 (s++Tr.txtL N (l.take p.1))).ro,(putOut st lv ob xb p.2.2 (s++Tr.txtL N (l.take p.1))).L)],false,p.2.1⟩)
   (fun p=>p.1≤l.length) (fun p=>l.length-p.1) (0,[Blk.arr 7 0 [t.av]],ver) rfl ?_ (by simp) ?_
  ·simp only [List.take_zero,Tr.txtL,List.append_nil,← hst,← hA]
   rfl
  rintro ⟨i,G,ver⟩ hi
  simp only at hi ⊢
  have hw2:=hw.put ho ver (s++Tr.txtL N (l.take i))
  have ho2:=ho.put ver (s++Tr.txtL N (l.take i))
  have hpp:∀ v2 t2,putOut (putOut st lv ob xb ver (s++Tr.txtL N (l.take i))) lv ob xb v2 t2=putOut st lv ob xb v2 t2:=fun v2 t2=>putOut_put ho.ne
  generalize hs1:putOut st lv ob xb ver (s++Tr.txtL N (l.take i))=st1 at *
  obtain ⟨A1,hA1⟩:∃ A1,A1=st1.A++[(st1.ro,st1.L)]:=⟨_,rfl⟩
  rw [← hA1]
  have hgw:=fun L=>get_old hA1 (ro:=false) (L:=L) hw2.w
  repeat' (first|refine ru_seq ?_|refine ru_reg ?_|refine is_mv rfl ?_|refine is_nil rfl ?_|refine rk_seq ?_|(refine is_lss rfl rfl (fun _=>?_) (fun _=>?_)<;>try (exfalso;omega))|refine ru_iteT rfl ?_|refine ru_iteF rfl ?_|refine is_boxG rfl rfl rfl ?_|refine is_ixM rfl rfl (by omega) tr_wide (fun _ _=>?_)|refine is_ldl rfl (tr_part _) ?_|refine is_stT rfl rfl rfl (tr_seal _ _ _) (tr_put _ _) rfl ?_|refine ru_skip ?_|refine ru_ret ?_|refine ru_exit ?_|refine ru_block ?_|refine rk_nil ?_|refine rk_seq_ex ?_|refine rk_blk_eq rfl ?_|refine rk_inv_ex ?_)
  ·rename_i u hu
   have hu2:l[i]?=some u:=hu
   have hum:=List.mem_of_getElem? hu2
   have hsum:Tr.bytesL l=Tr.bytesL (l.take i)+(u.bytes+Tr.bytesL (l.drop (i+1))):=by
    conv=>lhs;rw [← List.take_append_drop (i+1) l,take_succ_get hu2,Tr.bytesL_append,Tr.bytesL_append]
    simp [Tr.bytesL];omega
   have p1:=bytesL_txt hN (l:=l.take i) (fun w hw=>(c1 w (List.mem_of_mem_take hw)).1)
   have p2:=Tr.bytesL_nonneg (l:=l.drop (i+1)) (fun w hw=>by have:=hpos w (List.mem_of_mem_drop hw);omega)
   have p3:=Tr.bytesL_nonneg (l:=l.take i) (fun w hw=>by have:=hpos w (List.mem_of_mem_take hw);omega)
   have hle:lv≤st1.A.length:=St.get_le ho2.blk
   have htx2:s++Tr.txtL N (l.take (i+1))=s++Tr.txtL N (l.take i)++u.txt N:=by
    rw [take_succ_get hu2,Tr.txtL_append,List.append_assoc];simp [Tr.txtL]
   have ihu:=fun L=>ih u (c1 u hum).1 (by have:=(c1 u hum).2.1;omega) (by omega) (hw2.push hA1 (ro:=false) (L:=L)) (ho2.push hA1 (ro:=false) (L:=L)) (by rw [List.length_append];omega)
   refine is_ld rfl (hgw _) rfl rfl ?_
   repeat' (refine is_ldT rfl rfl (tr_part _) ?_)
   refine is_call rfl rfl (wk4 _ _ _ _ rfl rfl rfl) (ihu _) ?_
   rintro v st' ⟨rfl,v2,rfl⟩
   rw [putOut_push hA1 hle,hpp,← htx2]
   repeat' (first|refine ru_seq ?_|refine ru_reg ?_|refine is_mv rfl ?_|refine is_nil rfl ?_|refine rk_seq ?_|(refine is_neq rfl rfl (fun _=>?_) (fun _=>?_)<;>try (exfalso;omega))|refine ru_iteF rfl ?_|refine is_addS rfl rfl (by omega) ?_|refine ru_skip ?_|refine rk_blk ?_|refine rk_inv ?_)
   exact ⟨(i+1,_,v2),⟨rfl,rfl⟩,by simp only;omega,by simp only;omega⟩
  ·have hi':i=l.length:=by omega
   subst hi'
   rw [List.take_length] at *
   refine ⟨_,_,end_st hA1 (.inr rfl) rfl rfl rfl rfl rfl,rfl,ver,?_⟩
   exact hs1.symm
end Go.Q15
namespace Go.Q15
open Go Go.QAbs
set_option maxRecDepth 100000
set_option maxHeartbeats 8000000
theorem allBytes_bytes (s:List UInt8):QAbs.allBytes (bytesAV s)=some s:=by
 induction s with
 | nil=>rfl
 | cons x s ih =>
  show ((QAbs.byteOf (AV.int .u8 x.toNat)).bind fun b=>(QAbs.allBytes (bytesAV s)).map (b::·))=_
  rw [ih]
  simp [QAbs.byteOf]
theorem seal_fn3 {b lv i1 i2 i3:Nat} {f:Fn} (st:St) (h:lv<b):sealV deep b st (.func f [] [.ptr lv i1 0 0 0,.ptr lv i2 0 0 0,.ptr lv i3 0 0 0])=some (.func f [] [.ptr lv i1 0 0 0,.ptr lv i2 0 0 0,.ptr lv i3 0 0 0],st):=by
 simp only [sealV,deep,mapSt,Option.bind_some,if_pos h,consK]
theorem putOut_cur {A:List (Bool × List Blk)} {b0 b1 b2 b3 b4:Blk} {v:Nat} {t:List UInt8}:putOut ⟨A,false,[b0,b1,b2,b3,b4]⟩ A.length 3 2 v t=⟨A,false,[b0,b1,.arr 1 v (bytesAV t),.arr 1 0 [.ref A.length 2 v 0 t.length],b4]⟩:=by
 simp [putOut,St.upd]
theorem Text_c {N:Nodes} (hN:GoodN N) {st:St} {lv ix:Nat} (hr:Rd st lv ix N) {t:Tr} (ht:VE N t) (hb:t.bytes≤65536):S Tb F_plan_Text [.ptr lv ix 0 0 0,t.av] st=some (.tup [.str (t.txt N),.int .i64 0],st):=by
 refine s_of rfl (fun A hA=>?_)
 have hlv:lv<A.length:=by
  obtain ⟨a0,a1,im,a3,a4,a5,h1,h2⟩:=hr
  have:=St.get_le h1
  rw [hA];simp;omega
 have hrp:=fun L=>hr.push hA (ro:=false) (L:=L)
 have hC:=fun L=>Check_ve (hrp L) ht hb
 rcases ht with he|hv
 ·rw [he.txt]
  have hK:=fun st=>kind_empty t he st
  repeat' (first|refine ru_seq ?_|refine ru_reg ?_|refine is_mv rfl ?_|refine is_ldc rfl rfl rfl rfl ?_|refine is_nil rfl ?_|refine rk_seq ?_|(refine is_eql rfl rfl (fun _=>?_) (fun _=>?_)<;>try (exfalso;omega))|(refine is_neq rfl rfl (fun _=>?_) (fun _=>?_)<;>try (exfalso;omega))|refine ru_iteT rfl ?_|refine ru_iteF rfl ?_|refine is_mkf rfl rfl ?_|refine is_box rfl rfl rfl ?_|refine is_boxnil rfl ?_|refine is_ldT rfl rfl (tr_part _) ?_|refine is_ldc rfl rfl rfl (tr_part _) ?_|refine is_boxG rfl (tr_wide _) (tr_force _) ?_|refine is_callE rfl rfl (by first|rfl|(simp only [List.nil_append,List.append_nil,List.cons_append,weaks,tr_weak,forceL];first|done|rfl)) (hC _) ?_|refine is_callE rfl rfl (by first|rfl|(simp only [List.nil_append,List.append_nil,List.cons_append,weaks,tr_weak,forceL];first|done|rfl)) (hK _) ?_|refine is_stb rfl rfl rfl (seal_fn3 _ (Nat.lt_succ_self _)) rfl rfl ?_|refine ru_skip ?_|refine ru_ret ?_|refine rk_nil ?_|refine rk_seq_ret ?_)
  all_goals try (exfalso;omega)
  all_goals refine end_st hA (by first|exact .inl rfl|exact .inr rfl) rfl rfl rfl rfl ?_
  all_goals rfl
 ·obtain ⟨k,hk1,hK⟩:=hv.kindNe
  repeat' (first|refine ru_seq ?_|refine ru_reg ?_|refine is_mv rfl ?_|refine is_ldc rfl rfl rfl rfl ?_|refine is_nil rfl ?_|refine rk_seq ?_|(refine is_eql rfl rfl (fun _=>?_) (fun _=>?_)<;>try (exfalso;omega))|(refine is_neq rfl rfl (fun _=>?_) (fun _=>?_)<;>try (exfalso;omega))|refine ru_iteF rfl ?_|refine is_mkf rfl rfl ?_|refine is_box rfl rfl rfl ?_|refine is_boxnil rfl ?_|refine is_ldT rfl rfl (tr_part _) ?_|refine is_ldc rfl rfl rfl (tr_part _) ?_|refine is_boxG rfl (tr_wide _) (tr_force _) ?_|refine is_callE rfl rfl (by first|rfl|(simp only [List.nil_append,List.append_nil,List.cons_append,weaks,tr_weak,forceL];first|done|rfl)) (hC _) ?_|refine is_callE rfl rfl (by first|rfl|(simp only [List.nil_append,List.append_nil,List.cons_append,weaks,tr_weak,forceL];first|done|rfl)) (hK _) ?_|refine is_stb rfl rfl rfl (seal_fn3 _ (Nat.lt_succ_self _)) rfl rfl ?_|refine ru_skip ?_)
  all_goals try (exfalso;omega)
  have hwa:∀ L,L=[.arr 1 0 [.ptr lv ix 0 0 0],.arr 7 0 [t.av],.arr 1 0 [],.arr 1 0 [.ref A.length 2 0 0 0],.arr 1 0 [.func (.func F_plan_TextC1) [] [.ptr A.length 0 0 0 0,.ptr A.length 3 0 0 0,.ptr A.length 4 0 0 0]]] →
   Sp Tb F_plan_TextC1 [t.av,.ptr A.length 0 0 0 0,.ptr A.length 3 0 0 0,.ptr A.length 4 0 0 0] ⟨A,false,L⟩ fun v st'=>v=.int .i64 0∧∃ ver',st'=putOut ⟨A,false,L⟩ A.length 3 2 ver' ([]++t.txt N):=by
   rintro L rfl
   refine walk_c hN t.h t hv rfl hb (pl:=lv) (px:=ix) (ver:=0) ⟨hrp _,by omega,by rw [St.get_cur];rfl,by rw [St.get_cur];rfl,⟨by decide,by decide⟩,⟨by decide,by decide⟩⟩ ⟨by simp [St.wr],by rw [St.get_cur];rfl,by rw [St.get_cur];rfl,by decide⟩ (by simp;omega)
  refine is_call rfl rfl (wk4 _ _ _ _ rfl rfl rfl) (hwa _ rfl) ?_
  rintro v st' ⟨rfl,v2,rfl⟩
  rw [List.nil_append,putOut_cur]
  repeat' (first|refine ru_seq ?_|refine ru_reg ?_|refine is_mv rfl ?_|refine is_ldc rfl rfl rfl rfl ?_|refine is_nil rfl ?_|refine rk_seq ?_|(refine is_neq rfl rfl (fun _=>?_) (fun _=>?_)<;>try (exfalso;omega))|refine ru_iteF rfl ?_|refine ru_skip ?_)
  refine is_b2s rfl (v:=.str (t.txt N)) ?_ ?_
  ·have hl:=bytesAV_len (t.txt N)
   show (refB v2 0 (t.txt N).length (St.get _ A.length 2)).bind _=_
   rw [St.get_cur]
   show (refB v2 0 (t.txt N).length (some (Blk.arr 1 v2 (bytesAV (t.txt N))))).bind _=_
   simp only [refB,true_and,hl,Nat.zero_add,Nat.le_refl,if_true,List.drop_zero,Option.bind_some]
   rw [List.take_of_length_le (by omega),allBytes_bytes];rfl
  repeat' (first|refine is_mv rfl ?_|refine is_nil rfl ?_|refine rk_seq ?_|refine ru_ret ?_|refine rk_nil ?_)
  refine end_st hA (by first|exact .inl rfl|exact .inr rfl) rfl rfl rfl rfl ?_
  rfl
end Go.Q15
namespace Go.Q15
open Go Go.QAbs
set_option maxRecDepth 100000
set_option maxHeartbeats 8000000
def pickM (x n:Int):Int:=(x % 18446744073709551616) % (n+1)
theorem pickM_bounds {x n:Int} (h:0≤n):0≤pickM x n∧pickM x n≤n:=by
 unfold pickM
 have:=Int.emod_nonneg (x % 18446744073709551616) (show n+1≠0 by omega)
 have:=Int.emod_lt_of_pos (x % 18446744073709551616) (show 0<n+1 by omega)
 omega
theorem wrapU (x:Int):IntKind.u64.wrap x=x % 18446744073709551616:=by
 have e1:IntKind.u64.signed=false:=rfl
 have e2:IntKind.u64.bits=64:=rfl
 simp only [IntKind.wrap,e1,e2,Bool.false_and,if_false,Bool.false_eq_true]
 rfl
theorem pick_c (x n:Int) (h0:0≤n) (h1:n<4611686018427387904) (st:St):S Tb F_quartolaw15_pick [.int .i64 x,.int .i64 n] st=some (.int .i64 (pickM x n),st):=by
 have hp:=pickM_bounds (x:=x) h0
 have hw:IntKind.u64.wrap (n+1)=n+1:=by rw [wrapU];omega
 have hx:=Int.emod_nonneg x (show (18446744073709551616:Int)≠0 by decide)
 have hrem:binV .rem (.int .u64 (IntKind.u64.wrap x)) (.int .u64 (n+1))=some (.int .u64 (pickM x n)):=by
  rw [wrapU]
  show (if n+1=0 then none else some (AV.int .u64 ((x % 18446744073709551616).tmod (n+1))))=_
  rw [if_neg (by omega),Int.tmod_eq_emod_of_nonneg hx];rfl
 refine s_of rfl (fun A hA=>?_)
 repeat' (first|refine ru_seq ?_|refine ru_reg ?_|refine is_mv rfl ?_|refine is_nil rfl ?_|refine rk_seq ?_)
 refine is_cint rfl ?_
 repeat' (first|refine is_mv rfl ?_|refine is_addS rfl rfl (by omega) ?_)
 refine is_cintW rfl hw ?_
 refine is_bin rfl rfl hrem ?_
 refine is_cintW rfl (wrap64 (by omega) (by omega)) ?_
 repeat' (first|refine is_mv rfl ?_|refine is_nil rfl ?_|refine rk_seq ?_|refine ru_ret ?_|refine rk_nil ?_)
 refine end_st hA (by first|exact .inl rfl|exact .inr rfl) rfl rfl rfl rfl ?_
 rfl
theorem weight_c {N:Nodes} (hN:GoodN N) {st:St} {lv ix:Nat} (hr:Rd st lv ix N) {t:Tr} (ht:VE N t) (hb:t.bytes≤65536):S Tb F_quartolaw15_weight [.ptr lv ix 0 0 0,t.av] st=some (.int .i64 t.bytes,st):=by
 have hl:=ht.len hN
 refine s_of rfl (fun A hA=>?_)
 have hT:=fun L=>Text_c hN (hr.push hA (ro:=false) (L:=L)) ht hb
 generalize t.txt N=s at *
 repeat' (first|refine ru_seq ?_|refine ru_reg ?_|refine is_mv rfl ?_|refine is_ext rfl rfl ?_|refine is_nil rfl ?_|refine rk_seq ?_|refine is_lenS rfl ?_|refine is_ldT rfl rfl (tr_part _) ?_|refine is_boxG rfl (tr_wide _) (tr_force _) ?_|refine is_callE rfl rfl (by first|rfl|(simp only [List.nil_append,List.append_nil,List.cons_append,weaks,tr_weak,forceL];first|done|rfl)) (hT _) ?_|refine ru_ret ?_|refine rk_nil ?_)
 refine end_st hA (by first|exact .inl rfl|exact .inr rfl) rfl rfl rfl rfl ?_
 rw [hl]
theorem Copy_c (t:Tr):t.Pos→∀ st,S Tb F_quartoref15_Copy [t.av] st=some (t.own.av,st):=by
 induction t using Tr.ind with
 | step o h m s k ih =>
  intro hp st
  cases hp with
  | mk h0 h4 hk =>
  refine s_of rfl (fun A hA=>?_)
  rw [Tr.av,Tr.avO_sl]
  cases k with
  | none =>
   simp only [slV,Option.getD] at *
   repeat' (first|refine ru_seq ?_|refine ru_reg ?_|refine is_mv rfl ?_|refine is_fadr rfl rfl ?_|refine is_ldc rfl rfl rfl rfl ?_|refine is_nil rfl ?_|refine rk_seq ?_|refine is_lenN rfl ?_|(refine is_lss rfl rfl (fun _=>?_) (fun _=>?_)<;>try (exfalso;omega))|refine ru_iteF rfl ?_|refine is_box rfl rfl rfl ?_|refine is_onil rfl ?_|refine is_stb rfl rfl rfl (seal_refL _ (Nat.lt_succ_self _)) rfl rfl ?_|refine is_stb rfl rfl rfl (seal_trR _ (Nat.lt_succ_self _)) rfl rfl ?_|refine ru_unroll ?_|refine ru_ret ?_|refine ru_exit ?_|refine ru_block ?_|refine rk_nil ?_|refine rk_seq_ex ?_|refine rk_blk_eq rfl ?_)
   refine end_c hA (.inr rfl) rfl rfl rfl (tr_end (l:=[]) rfl rfl) rfl ?_
   rfl
  | some l =>
   have he:Tr.own (.mk o h m s (some l))=.mk o h m s (some (l.map Tr.own)):=by
    rw [Tr.own,Tr.ownO,Tr.ownL_map]
   rw [he]
   simp only [slV,Option.getD] at *
   repeat' (first|refine ru_seq ?_|refine ru_reg ?_|refine is_mv rfl ?_|refine is_nil rfl ?_|refine rk_seq ?_|refine is_box rfl rfl rfl ?_|refine is_onil rfl ?_|refine ru_block ?_)
   refine ru_loopP (α:=Nat) (fun i=>[(1,.ptr A.length 0 0 0 0),(2,.ptr A.length 1 0 0 0),(3,.ref A.length 2 i 0 i),(4,.int .i64 i)])
    (fun i=>⟨A,false,[.arr 7 0 [.agg [.int .u64 o,.int .i64 h,.int .i64 m.b,.int .i64 m.r,.int .i64 m.l,.str s,.lit (l.map Tr.av)]],.arr 7 0 [trZ],.arr 7 i (((l.take i).map Tr.own).map Tr.av)]⟩) (fun i=>i≤l.length) (fun i=>l.length-i) 0 rfl rfl (by simp) ?_
   intro i hi
   repeat' (first|refine ru_seq ?_|refine ru_reg ?_|refine is_mv rfl ?_|refine is_fadr rfl rfl ?_|refine is_ldc rfl rfl rfl rfl ?_|refine is_nil rfl ?_|refine rk_seq ?_|refine is_lenM rfl ?_|(refine is_lss rfl rfl (fun _=>?_) (fun _=>?_)<;>try (exfalso;omega))|refine ru_iteT rfl ?_|refine ru_iteF rfl ?_|refine is_stb rfl rfl rfl (seal_refL _ (Nat.lt_succ_self _)) rfl rfl ?_|refine is_stb rfl rfl rfl (seal_trR _ (Nat.lt_succ_self _)) rfl rfl ?_|refine is_ixM rfl rfl (by omega) tr_wide (fun _ _=>?_)|refine is_ldl rfl (tr_part _) ?_|refine ru_skip ?_|refine ru_ret ?_|refine ru_exit ?_|refine ru_block ?_|refine rk_nil ?_|refine rk_seq_ex ?_|refine rk_blk_eq rfl ?_|refine rk_inv_ex ?_)
   ·rename_i t ht
    have ht2:l[i]?=some t:=ht
    have h5:=ih t (List.mem_of_getElem? ht2) (hk t (List.mem_of_getElem? ht2))
    have hlen:((l.take i).map Tr.own).length=i:=by rw [List.length_map,List.length_take];omega
    repeat' (first|refine ru_reg ?_|refine is_mv rfl ?_|refine is_nil rfl ?_|refine rk_seq ?_|refine is_addS rfl rfl (by omega) ?_|refine is_callE rfl rfl (by first|rfl|(simp only [List.nil_append,List.append_nil,List.cons_append,weaks,tr_weak,forceL];first|done|rfl)) (h5 _) ?_|refine is_bslTr1 rfl ?_|refine is_app1G rfl rfl rfl hlen.symm (by omega) ?_|refine rk_blk ?_|refine rk_inv ?_)
    refine ⟨i+1,⟨rfl,?_⟩,by omega,by omega⟩
    rw [take_succ_get ht2,List.map_append (f:=Tr.own)]
    rfl
   ·have hi':i=l.length:=by omega
    subst hi'
    rw [List.take_length]
    skip
    refine end_c hA (.inr rfl) rfl rfl rfl (tr_end (l:=l.map Tr.own) rfl (by simp)) rfl ?_
    rw [Tr.av,Tr.avO,Tr.avL_map]
theorem all_c (l:List Tr) (hl:l.length≤4) (hp:∀ t∈l,t.Pos) (st:St):S Tb F_plan_all [.lit (l.map Tr.av)] st=some (.lit ((l.map Tr.own).map Tr.av),st):=by
 refine s_of rfl (fun A hA=>?_)
 repeat' (first|refine ru_seq ?_|refine ru_reg ?_|refine is_mv rfl ?_|refine is_nil rfl ?_|refine rk_seq ?_|refine is_lenM rfl ?_|refine is_onil rfl ?_|refine ru_block ?_)
 refine ru_loopP (α:=Nat × List Blk) (fun p=>[(3,.ref A.length 0 p.1 0 p.1),(6,.lit (l.map Tr.av)),(7,.int .i64 l.length),(8,.int .i64 p.1)])
  (fun p=>⟨A,false,.arr 7 p.1 (((l.take p.1).map Tr.own).map Tr.av)::p.2⟩) (fun p=>p.1≤l.length) (fun p=>l.length-p.1) (0,[]) rfl rfl (by simp) ?_
 rintro ⟨i,G⟩ hi
 simp only at hi ⊢
 repeat' (first|refine ru_seq ?_|refine ru_reg ?_|refine is_mv rfl ?_|refine is_nil rfl ?_|refine rk_seq ?_|(refine is_lss rfl rfl (fun _=>?_) (fun _=>?_)<;>try (exfalso;omega))|refine ru_iteT rfl ?_|refine ru_iteF rfl ?_|refine is_boxG rfl rfl rfl ?_|refine is_ixM rfl rfl (by omega) tr_wide (fun _ _=>?_)|refine is_ldl rfl (tr_part _) ?_|refine is_ldT rfl rfl (tr_part _) ?_|refine is_stT rfl rfl rfl (tr_seal _ _ _) (tr_put _ _) rfl ?_|refine ru_skip ?_|refine ru_ret ?_|refine ru_exit ?_|refine ru_block ?_|refine rk_nil ?_|refine rk_seq_ex ?_|refine rk_blk_eq rfl ?_|refine rk_inv_ex ?_)
 ·rename_i t ht
  have ht2:l[i]?=some t:=ht
  have h5:=own_c t (hp t (List.mem_of_getElem? ht2))
  have hlen:((l.take i).map Tr.own).length=i:=by rw [List.length_map,List.length_take];omega
  repeat' (first|refine ru_reg ?_|refine is_mv rfl ?_|refine is_nil rfl ?_|refine rk_seq ?_|refine is_addS rfl rfl (by omega) ?_|refine is_callE rfl rfl (by first|rfl|(simp only [List.nil_append,List.append_nil,List.cons_append,weaks,tr_weak,forceL];first|done|rfl)) (h5 _) ?_|refine is_bslTr1 rfl ?_|refine is_app1G rfl rfl rfl hlen.symm (by omega) ?_|refine rk_blk ?_|refine rk_inv ?_)
  refine ⟨(i+1,G++[.arr 7 0 [t.av]]),⟨rfl,?_⟩,by simp only;omega,by simp only;omega⟩
  simp only [take_succ_get ht2,List.map_append (f:=Tr.own)]
  rfl
 ·have hi':i=l.length:=by omega
  subst hi'
  rw [List.take_length]
  skip
  refine end_ref hA (.inr rfl) rfl rfl (by simp) (trs_imm _) ?_
  rfl
theorem Merge_c {N:Nodes} (hN:GoodN N) {st:St} {lv ix:Nat} (hr:Rd st lv ix N) {x y:Tr} (hx:Val N x) (hy:Val N y) (hb:x.bytes+y.bytes≤65536) :
 S Tb F_plan_Merge [.ptr lv ix 0 0 0,x.av,y.av] st=some (.tup [.lit (((mergeF N (x.h+y.h) x y).map Tr.own).map Tr.av),.int .i64 0],st):=by
 refine s_of rfl (fun A hA=>?_)
 have hrp:=fun L=>hr.push hA (ro:=false) (L:=L)
 have hBo:=fun L=>both_c (hrp L) (.inr hx) (.inr hy) false (fun _=>⟨hx,hy⟩) hb
 have hM:=fun L=>merge_c hN (x.h+y.h) (hrp L) hx hy rfl
 have hMo:=mergeF_ok hN _ x y hx hy rfl
 have hal:=fun st=>all_c (mergeF N (x.h+y.h) x y) (by rcases hMo.len with w|w<;>omega) (fun t ht=>(hMo.val t ht).pos.1) st
 generalize mergeF N (x.h+y.h) x y=r at *
 repeat' (first|refine ru_seq ?_|refine ru_reg ?_|refine is_mv rfl ?_|refine is_ext rfl rfl ?_|refine is_nil rfl ?_|refine rk_seq ?_|(refine is_neq rfl rfl (fun _=>?_) (fun _=>?_)<;>try (exfalso;omega))|refine ru_iteF rfl ?_|refine is_ldT rfl rfl (tr_part _) ?_|refine is_ldc rfl rfl rfl (tr_part _) ?_|refine is_boxG rfl (tr_wide _) (tr_force _) ?_|refine is_callE rfl rfl (by first|rfl|(simp only [List.nil_append,List.append_nil,List.cons_append,weaks,tr_weak,forceL];first|done|rfl)) (hBo _) ?_|refine is_callE rfl rfl (by first|rfl|(simp only [List.nil_append,List.append_nil,List.cons_append,weaks,tr_weak,forceL];first|done|rfl)) (hM _) ?_|refine is_callE rfl rfl (by first|rfl|(simp only [List.nil_append,List.append_nil,List.cons_append,weaks,tr_weak,forceL];first|done|rfl)) (hal _) ?_|refine ru_skip ?_|refine ru_ret ?_|refine rk_nil ?_)
 all_goals try (exfalso;omega)
 refine end_st hA (by first|exact .inl rfl|exact .inr rfl) rfl rfl rfl rfl ?_
 rfl
end Go.Q15
namespace Go.Q15
open Go Go.QAbs
set_option maxRecDepth 100000
set_option maxHeartbeats 1000000
theorem ownO_getD (k:Option (List Tr)):(Tr.ownO k).getD []=(k.getD []).map Tr.own:=by
 cases k with
 | none=>rfl
 | some l=>simp [Tr.ownO,Tr.ownL_map]
theorem own_h (t:Tr):t.own.h=t.h:=by cases t;rfl
theorem own_bytes (t:Tr):t.own.bytes=t.bytes:=by
 induction t using Tr.ind with
 | step o h m s k ih =>
  rw [Tr.own,Tr.bytes,Tr.bytes,Tr.bytesO_getD,Tr.bytesO_getD,ownO_getD]
  generalize k.getD []=l at ih
  congr 1
  induction l with
  | nil=>rfl
  | cons a l ih2=>rw [List.map_cons,Tr.bytesL,Tr.bytesL,ih a (by simp),ih2 (fun t ht=>ih t (by simp [ht]))]
theorem own_val {N:Nodes} {t:Tr} (hv:Val N t):Val N t.own:=by
 induction hv with
 | kept h0 hx hok hh hm hk =>
  rw [Tr.own]
  exact .kept h0 hx hok hh hm (by rw [ownO_getD,hk];rfl)
 | leaf h1 h2 hk =>
  rw [Tr.own]
  exact .leaf h1 h2 (by rw [ownO_getD,hk];rfl)
 | inner hh h2 h4 hl hb hv ih =>
  rename_i h l
  rw [Tr.own,Tr.ownO,Tr.ownL_map]
  refine .inner hh (by rw [List.length_map];exact h2) (by rw [List.length_map];exact h4) ?_ ?_ ?_
  ·intro t ht
   obtain ⟨u,hu,rfl⟩:=List.mem_map.1 ht
   rw [own_h];exact hl u hu
  ·intro t ht q
   obtain ⟨u,hu,rfl⟩:=List.mem_map.1 ht
   rw [own_bytes];exact hb u hu q
  ·intro t ht
   obtain ⟨u,hu,rfl⟩:=List.mem_map.1 ht
   exact ih u hu
theorem own_ve {N:Nodes} {t:Tr} (h:VE N t):VE N t.own:=by
 rcases h with h|h
 ·obtain ⟨o,h',m,s,k⟩:=t
  obtain ⟨h1,h2,h3,h4,h5⟩:=h
  exact .inl ⟨h1,h2,h3,h4,by show (Tr.ownO k).getD []=[];rw [ownO_getD];simp only [Tr.ks] at h5;rw [h5];rfl⟩
 ·exact .inr (own_val h)
end Go.Q15
namespace Go.Q15
open Go Go.QAbs
set_option maxRecDepth 100000
set_option maxHeartbeats 8000000
structure AR where
 blk:List Int
 n:Nat
 ver:Nat
 states:List Int
 gens:List Int
 most:Int
 nodes:Nodes
 slots:Int
 allocs:Int
 frees:Int
 stale:Int
namespace AR
def b0 (r:AR):Blk:=.arr 1 0 (r.states.map (.int .u8))
def b1 (r:AR):Blk:=.arr 1 r.ver (r.blk.map (.int .i64))
def b2 (r:AR):Blk:=.arr 1 0 (r.gens.map (.int .u64))
def b3 (r:AR) (lv b:Nat):Blk:=.arr 4 0 [.agg [.ref lv (b+1) r.ver 0 r.n,.ref lv b 0 0 r.states.length,.ref lv (b+2) 0 0 r.gens.length,.int .u64 r.most]]
def b4 (r:AR):Blk:=.map (r.nodes.map nodeAV)
def b5 (r:AR) (lv b:Nat):Blk:=.arr 6 0 [.agg [.int .i64 r.slots,.ptr lv (b+3) 0 0 0,.map lv (b+4),.int .i64 r.allocs,.int .i64 r.frees,.int .i64 r.stale]]
end AR
structure Has (st:St) (lv b:Nat) (r:AR):Prop where
 wr:st.wr lv
 h0:st.get lv b=some r.b0
 h1:st.get lv (b+1)=some r.b1
 h2:st.get lv (b+2)=some r.b2
 h3:st.get lv (b+3)=some (r.b3 lv b)
 h4:st.get lv (b+4)=some r.b4
 h5:st.get lv (b+5)=some (r.b5 lv b)
theorem Has.rd {st:St} {lv b:Nat} {r:AR} (h:Has st lv b r):Rd st lv (b+5) r.nodes:=⟨_,_,_,_,_,_,h.h5,h.h4⟩
theorem s_ofW {T:Tab} {f:FuncId} {body:PC} {res:List RV} {args:List AV} {st st2:St} {v:AV} (hT:T f=some (.pf ⟨false,body,res⟩))
 (h:∀ A,A=st.A++[(st.ro,st.L)]→Ru (S T) body [] (fun x e st'=>endK false res (x,e,st')=some (v,st2)) (initEnv 0 args) ⟨A,false,[]⟩):S T f args st=some (v,st2):=by
 obtain ⟨⟨x,e',st',h1,h2⟩⟩:=h _ rfl
 refine S_of hT ?_
 simp only [callBody,Bool.false_eq_true,if_false,St.push,h1,Option.bind_some];exact h2
def AR.take (r:AR) (s:Nat):AR:={ r with n:=r.n-1,states:=r.states.set s 1 }
def takeSt (st:St) (lv b:Nat) (r:AR) (s:Nat):St:=(st.upd lv (b+3) ((r.take s).b3 lv b)).upd lv b (r.take s).b0
theorem take_get {st:St} {lv b:Nat} {r:AR} (h:Has st lv b r) (s:Nat) (l' i':Nat):(takeSt st lv b r s).get l' i'=if l'=lv∧i'=b then some (r.take s).b0 else if l'=lv∧i'=b+3 then some ((r.take s).b3 lv b) else st.get l' i':=by
 have g1:∀ l' i',(st.upd lv (b+3) ((r.take s).b3 lv b)).get l' i'=if l'=lv∧i'=b+3 then some ((r.take s).b3 lv b) else st.get l' i':=fun l' i'=>St.get_upd h.h3 rfl
 have b1:(st.upd lv (b+3) ((r.take s).b3 lv b)).get lv b=some r.b0:=by rw [g1,if_neg (by omega)];exact h.h0
 rw [takeSt,St.get_upd b1 rfl,g1]
theorem Has.take {st:St} {lv b:Nat} {r:AR} (h:Has st lv b r) (s:Nat):Has (takeSt st lv b r s) lv b (r.take s):=by
 refine ⟨St.wr_upd (St.wr_upd h.wr h.wr) (St.wr_upd h.wr h.wr),?_,?_,?_,?_,?_,?_⟩
 ·rw [take_get h,if_pos ⟨rfl,rfl⟩]
 ·rw [take_get h,if_neg (by omega),if_neg (by omega)];exact h.h1
 ·rw [take_get h,if_neg (by omega),if_neg (by omega)];exact h.h2
 ·rw [take_get h,if_neg (by omega),if_pos ⟨rfl,rfl⟩]
 ·rw [take_get h,if_neg (by omega),if_neg (by omega)];exact h.h4
 ·rw [take_get h,if_neg (by omega),if_neg (by omega)];exact h.h5
theorem Take_c {st:St} {lv b:Nat} {r:AR} (h:Has st lv b r) {k s g:Nat} (hn:r.n=k+1) (hk:r.blk[k]?=some (s:Int)) (hs:s<r.states.length) (hs2:s<16384) (hg:r.gens[s]?=some (g:Int)) (hg1:1≤g∧g≤4294967295) (hbig:r.n<65536) :
 S Tb F_freelist_List_Take [.ptr lv (b+3) 0 0 0] st=some (.tup [.int .u64 ((g*65536+s:Nat):Int),.int .i64 0],takeSt st lv b r s):=by
 refine s_ofW rfl (fun A hA=>?_)
 have g1:=fun L=>get_old hA (ro:=false) (L:=L) h.h1
 have g3:=fun L=>get_old hA (ro:=false) (L:=L) h.h3
 unfold AR.b1 at g1
 unfold AR.b3 at g3
 rw [hn] at g3
 have hM:=fun st=>Make_ok s g hs2 hg1 st
 repeat' (first|refine ru_seq ?_|refine ru_reg ?_|refine is_mv rfl ?_|refine is_fadr rfl rfl ?_|refine is_nil rfl ?_|refine rk_seq ?_|refine is_nilck rfl rfl ?_|refine is_lenR rfl ?_|(refine is_eql rfl rfl (fun _=>?_) (fun _=>?_)<;>try (exfalso;omega))|refine ru_iteF rfl ?_|refine is_subS rfl rfl (by omega) ?_|refine is_eqs rfl rfl rfl rfl ?_|refine is_ld rfl (g3 _) rfl rfl ?_|refine ru_skip ?_)
 all_goals try (exfalso;omega)
 have hw1:∀ L,wIs 1 r.ver (St.get ⟨A,false,L⟩ lv (b+1))=true:=fun L=>by rw [g1];simp [wIs]
 refine is_ixR rfl rfl (by omega) (hw1 _) ?_
 refine is_ld (x:=.int .i64 s) rfl (g1 _) (by rw [show 0+(((k+1:Nat):Int)-1).toNat=k by omega,List.getElem?_map,hk];rfl) rfl ?_
 repeat' (first|refine ru_seq ?_|refine ru_reg ?_|refine is_mv rfl ?_|refine is_fadr rfl rfl ?_|refine is_nil rfl ?_|refine rk_seq ?_|refine is_nilck rfl rfl ?_|refine is_lenR rfl ?_|refine is_subS rfl rfl (by omega) ?_|refine is_ld rfl (g3 _) rfl rfl ?_)
 refine is_slcR_hi rfl rfl (by omega) (hw1 _) ?_
 repeat' (first|refine is_fadr rfl rfl ?_|refine is_nilck rfl rfl ?_)
 have hle:=St.get_le h.h3
 have h3':=h.h3
 unfold AR.b3 at h3'
 rw [hn] at h3'
 refine is_stP hA rfl rfl h.wr h3' rfl (seal_refL _ (Nat.lt_succ_self _)) rfl (fun A1 hA1=>?_)
 have e1:(((k+1:Nat):Int)-1).toNat=k:=by omega
 have eB:Blk.arr 4 0 ([AV.agg [.ref lv (b+1) r.ver 0 (k+1),.ref lv b 0 0 r.states.length,.ref lv (b+2) 0 0 r.gens.length,.int .u64 r.most]].set 0 (.agg [.ref lv (b+1) r.ver 0 (((k+1:Nat):Int)-1).toNat,.ref lv b 0 0 r.states.length,.ref lv (b+2) 0 0 r.gens.length,.int .u64 r.most]))=(r.take s).b3 lv b:=by
  simp [AR.b3,AR.take,hn]
 rw [eB] at hA1
 have q1:∀ l' i',(st.upd lv (b+3) ((r.take s).b3 lv b)).get l' i'=if l'=lv∧i'=b+3 then some ((r.take s).b3 lv b) else st.get l' i':=fun l' i'=>St.get_upd h.h3 rfl
 have hw:=St.wr_upd (b:=(r.take s).b3 lv b) (ix:=b+3) h.wr h.wr
 have k0:(st.upd lv (b+3) ((r.take s).b3 lv b)).get lv b=some r.b0:=by rw [q1,if_neg (by omega)];exact h.h0
 have k2:(st.upd lv (b+3) ((r.take s).b3 lv b)).get lv (b+2)=some r.b2:=by rw [q1,if_neg (by omega)];exact h.h2
 have k3:(st.upd lv (b+3) ((r.take s).b3 lv b)).get lv (b+3)=some ((r.take s).b3 lv b):=by rw [q1,if_pos ⟨rfl,rfl⟩]
 have et:takeSt st lv b r s=(st.upd lv (b+3) ((r.take s).b3 lv b)).upd lv b (r.take s).b0:=rfl
 rw [et]
 generalize st.upd lv (b+3) ((r.take s).b3 lv b)=st1 at *
 unfold AR.b0 at k0
 unfold AR.b3 AR.take at k3
 simp only [List.length_set] at k3
 have m0:=fun L=>get_old hA1 (ro:=false) (L:=L) k0
 have m3:=fun L=>get_old hA1 (ro:=false) (L:=L) k3
 have hw0:∀ L,wIs 1 0 (St.get ⟨A1,false,L⟩ lv b)=true:=fun L=>by rw [m0];simp [wIs]
 repeat' (first|refine ru_seq ?_|refine ru_reg ?_|refine is_mv rfl ?_|refine is_fadr rfl rfl ?_|refine is_nil rfl ?_|refine rk_seq ?_|refine is_nilck rfl rfl ?_|refine is_ld rfl (m3 _) rfl rfl ?_|refine is_ixR rfl rfl (by omega) (hw0 _) ?_)
 refine is_stP hA1 (y:=.int .u8 (r.states[s]'hs)) rfl rfl hw k0 ?_ rfl rfl (fun A2 hA2=>?_)
 ·rw [show 0+((s:Nat):Int).toNat=s by omega,List.getElem?_map,List.getElem?_eq_getElem hs];rfl
 have eS:Blk.arr 1 0 ((r.states.map (AV.int .u8)).set (0+((s:Nat):Int).toNat) (.int .u8 1))=(r.take s).b0:=by
  rw [show 0+((s:Nat):Int).toNat=s by omega]
  unfold AR.b0 AR.take
  simp only [List.map_set]
 rw [eS] at hA2
 have q2:∀ l' i',(st1.upd lv b (r.take s).b0).get l' i'=if l'=lv∧i'=b then some (r.take s).b0 else st1.get l' i':=fun l' i'=>St.get_upd k0 rfl
 have n2:(st1.upd lv b (r.take s).b0).get lv (b+2)=some r.b2:=by rw [q2,if_neg (by omega)];exact k2
 have n3:(st1.upd lv b (r.take s).b0).get lv (b+3)=some (.arr 4 0 [.agg [.ref lv (b+1) r.ver 0 (r.n-1),.ref lv b 0 0 r.states.length,.ref lv (b+2) 0 0 r.gens.length,.int .u64 r.most]]):=by rw [q2,if_neg (by omega)];exact k3
 generalize st1.upd lv b (r.take s).b0=st2 at *
 unfold AR.b2 at n2
 have o2:=fun L=>get_old hA2 (ro:=false) (L:=L) n2
 have o3:=fun L=>get_old hA2 (ro:=false) (L:=L) n3
 have hw2:∀ L,wIs 1 0 (St.get ⟨A2,false,L⟩ lv (b+2))=true:=fun L=>by rw [o2];simp [wIs]
 have hsg:s<r.gens.length:=(List.getElem?_eq_some_iff.1 hg).1
 repeat' (first|refine ru_seq ?_|refine ru_reg ?_|refine is_mv rfl ?_|refine is_fadr rfl rfl ?_|refine is_nil rfl ?_|refine rk_seq ?_|refine is_nilck rfl rfl ?_|refine is_ld rfl (o3 _) rfl rfl ?_|refine is_ixR rfl rfl (by omega) (hw2 _) ?_)
 refine is_ld (x:=.int .u64 g) rfl (o2 _) (by rw [show 0+((s:Nat):Int).toNat=s by omega,List.getElem?_map,hg];rfl) rfl ?_
 repeat' (first|refine is_mv rfl ?_|refine is_ext rfl rfl ?_|refine is_nil rfl ?_|refine rk_seq ?_|refine is_callE rfl rfl rfl (hM _) ?_|refine ru_ret ?_|refine rk_nil ?_)
 refine end_st hA2 (.inr rfl) rfl rfl rfl rfl ?_
 rfl
end Go.Q15
namespace Go.Q15
open Go Go.QAbs
set_option maxRecDepth 100000
set_option maxHeartbeats 8000000
structure KRef (st:St) (lv ix ver:Nat) (ks:List Kid):Prop where
 ex:∃ es,st.get lv ix=some (.arr 4 ver es)∧es.take ks.length=ks.map Kid.av
theorem KRef.push {st:St} {A:List (Bool × List Blk)} {ro:Bool} {L:List Blk} (hA:A=st.A++[(st.ro,st.L)]) {lv ix ver:Nat} {ks:List Kid} (h:KRef st lv ix ver ks):KRef ⟨A,ro,L⟩ lv ix ver ks:=by
 obtain ⟨es,h1,h2⟩:=h
 exact ⟨es,get_old hA h1,h2⟩
theorem kid_get {ks:List Kid} {es:List AV} (h:es.take ks.length=ks.map Kid.av) {i:Nat} {k:Kid} (hk:ks[i]?=some k):es[0+((i:Nat):Int).toNat]?=some k.av:=by
 have hlt:i<ks.length:=(List.getElem?_eq_some_iff.1 hk).1
 have h1:(es.take ks.length)[i]?=some k.av:=by rw [h,List.getElem?_map,hk];rfl
 rw [List.getElem?_take,if_pos hlt] at h1
 rw [show 0+((i:Nat):Int).toNat=i by omega];exact h1
def ndR (h:Nat) (lv ix ver n:Nat):AV:=.agg [.int .i64 h,.str [],.ref lv ix ver 0 n]
theorem formed_ref (n:Nat) (hn:n≤15) (ks:List Kid) (hk:2≤ks.length∧ks.length≤4) (hs:∀ k∈ks,KidOk n k) (st:St) {lv ix ver:Nat} (hr:KRef st lv ix ver ks):S Tb F_node_formed [ndR (n+1) lv ix ver ks.length] st=some (.bool true,st):=by
 refine s_of rfl (fun A hA=>?_)
 obtain ⟨es,g,ge⟩:=hr
 have gA:=fun L=>get_old hA (ro:=false) (L:=L) g
 have hwi:∀ L,wIs 4 ver (St.get ⟨A,false,L⟩ lv ix)=true:=fun L=>by rw [gA];simp [wIs]
 unfold ndR
 repeat' (first|refine ru_seq ?_|refine ru_reg ?_|refine is_mv rfl ?_|refine is_fadr rfl rfl ?_|refine is_ldc rfl rfl rfl rfl ?_|refine is_gT rfl ?_|refine is_pick rfl rfl rfl rfl ?_|refine is_ext rfl rfl ?_|refine is_nil rfl ?_|refine rk_seq ?_|refine is_lenR rfl ?_|(refine is_lss rfl rfl (fun _=>?_) (fun _=>?_)<;>try (exfalso;omega))|(refine is_gtr rfl rfl (fun _=>?_) (fun _=>?_)<;>try (exfalso;omega))|(refine is_eql rfl rfl (fun _=>?_) (fun _=>?_)<;>try (exfalso;omega))|(refine is_neqS rfl rfl (fun _=>?_) (fun _=>?_)<;>try contradiction)|refine ru_iteF rfl ?_|refine is_subS rfl rfl (by omega) ?_|refine is_box rfl rfl rfl ?_|refine is_callE rfl rfl rfl (bounds_c n _ (by omega) (by omega) _) ?_|refine ru_skip ?_|refine ru_block ?_)
 refine ru_loopP (α:=Nat × List Blk) (fun p=>[(3,.int .i64 (leastB n)),(4,.int .i64 (mostB n)),(59,.ref lv ix ver 0 ks.length),(60,.int .i64 ks.length),(61,.int .i64 p.1)]) (fun p=>⟨A,false,p.2⟩) (fun p=>p.1≤ks.length) (fun p=>ks.length-p.1) (0,[.arr 3 0 [.agg [.int .i64 ↑(n+1),.str [],.ref lv ix ver 0 ks.length]]]) rfl rfl (by simp) ?_
 rintro ⟨i,G⟩ hi
 simp only at hi ⊢
 repeat' (first|refine ru_seq ?_|refine ru_reg ?_|refine is_mv rfl ?_|refine is_nil rfl ?_|refine rk_seq ?_|(refine is_lss rfl rfl (fun _=>?_) (fun _=>?_)<;>try (exfalso;omega))|refine ru_iteT rfl ?_|refine ru_iteF rfl ?_|refine ru_skip ?_|refine ru_ret ?_|refine ru_exit ?_|refine ru_block ?_|refine rk_nil ?_|refine rk_seq_ex ?_|refine rk_blk_eq rfl ?_|refine rk_inv_ex ?_)
 ·rename_i hlt
  obtain ⟨k,hk'⟩:∃ k,ks[i]?=some k:=⟨ks[i]'(by omega),by simp [show i<ks.length by omega]⟩
  obtain ⟨a1,b1,c1,d1,e1,f1,g1⟩:=hs k (List.mem_of_getElem? hk')
  refine is_ixR rfl rfl (by omega) (hwi _) ?_
  refine is_ld (x:=k.av) rfl (gA _) (kid_get ge hk') rfl ?_
  repeat' (first|refine ru_seq ?_|refine ru_reg ?_|refine is_mv rfl ?_|refine is_fadr rfl rfl ?_|refine is_gT rfl ?_|refine is_pick rfl rfl rfl rfl ?_|refine is_nil rfl ?_|refine rk_seq ?_|refine is_ldT rfl rfl rfl ?_|(refine is_lss rfl rfl (fun _=>?_) (fun _=>?_)<;>try (exfalso;omega))|(refine is_gtr rfl rfl (fun _=>?_) (fun _=>?_)<;>try (exfalso;omega))|(refine is_neq rfl rfl (fun _=>?_) (fun _=>?_)<;>try (exfalso;omega))|refine ru_iteF rfl ?_|refine is_addS rfl rfl (by omega) ?_|refine is_boxG rfl rfl rfl ?_|refine is_stT rfl rfl rfl rfl rfl rfl ?_|refine is_callE rfl rfl rfl (hCheck_ok k.at_ a1 _) ?_|refine ru_skip ?_|refine rk_blk ?_|refine rk_inv ?_)
  exact ⟨(i+1,_),⟨rfl,rfl⟩,by simp only;omega,by simp only;omega⟩
 ·refine end_st hA (by first|exact .inl rfl|exact .inr rfl) rfl rfl rfl rfl ?_
  rfl
theorem sum_ref (n:Nat) (ks:List Kid) (hk:ks.length≤4) (hs:∀ k∈ks,k.m.Fit 65536) (st:St) {lv ix ver:Nat} (hr:KRef st lv ix ver ks):S Tb F_node_sum [ndR (n+1) lv ix ver ks.length] st=some ((sumM (ks.map Kid.m)).av,st):=by
 refine s_of rfl (fun A hA=>?_)
 obtain ⟨es,g,ge⟩:=hr
 have gA:=fun L=>get_old hA (ro:=false) (L:=L) g
 have hwi:∀ L,wIs 4 ver (St.get ⟨A,false,L⟩ lv ix)=true:=fun L=>by rw [gA];simp [wIs]
 unfold ndR
 repeat' (first|refine ru_seq ?_|refine ru_reg ?_|refine is_mv rfl ?_|refine is_fadr rfl rfl ?_|refine is_ldc rfl rfl rfl rfl ?_|refine is_nil rfl ?_|refine rk_seq ?_|refine is_lenR rfl ?_|(refine is_eql rfl rfl (fun _=>?_) (fun _=>?_)<;>try (exfalso;omega))|refine ru_iteF rfl ?_|refine is_box rfl rfl rfl ?_|refine is_onil rfl ?_|refine ru_skip ?_|refine ru_block ?_)
 refine ru_loopP (α:=Nat × List Blk) (fun p=>[(2,.ptr A.length 1 0 0 0),(3,.ref A.length 2 p.1 0 p.1),(13,.ref lv ix ver 0 ks.length),(14,.int .i64 ks.length),(15,.int .i64 p.1)]) (fun p=>⟨A,false,.arr 3 0 [.agg [.int .i64 ↑(n+1),.str [],.ref lv ix ver 0 ks.length]]::.arr 3 0 [.agg [.int .i64 0,.int .i64 0,.int .i64 0]]::.arr 3 p.1 ((ks.take p.1).map fun k=>k.m.av)::p.2⟩) (fun p=>p.1≤ks.length) (fun p=>ks.length-p.1) (0,[]) rfl rfl (by simp) ?_
 rintro ⟨i,G⟩ hi
 simp only at hi ⊢
 repeat' (first|refine ru_seq ?_|refine ru_reg ?_|refine is_mv rfl ?_|refine is_nil rfl ?_|refine rk_seq ?_|(refine is_lss rfl rfl (fun _=>?_) (fun _=>?_)<;>try (exfalso;omega))|refine ru_iteT rfl ?_|refine ru_iteF rfl ?_|refine ru_skip ?_|refine ru_exit ?_|refine ru_block ?_|refine rk_seq_ex ?_|refine rk_blk_eq rfl ?_|refine rk_inv_ex ?_)
 ·rename_i hlt
  obtain ⟨k,hk'⟩:∃ k,ks[i]?=some k:=⟨ks[i]'(by omega),by simp [show i<ks.length by omega]⟩
  refine is_ixR rfl rfl (by omega) (hwi _) ?_
  refine is_ld (x:=k.av) rfl (gA _) (kid_get ge hk') rfl ?_
  repeat' (first|refine ru_reg ?_|refine is_mv rfl ?_|refine is_fadr rfl rfl ?_|refine is_nil rfl ?_|refine rk_seq ?_|refine is_ldT rfl rfl rfl ?_|refine is_addS rfl rfl (by omega) ?_|refine is_boxG rfl rfl rfl ?_|refine is_stT rfl rfl rfl rfl rfl rfl ?_|refine is_bslFO rfl rfl rfl rfl ?_|refine is_app1N rfl rfl rfl (by first|rfl|(simp;done)|(simp;omega)) (by first|omega|(simp<;>omega)) (by decide) rfl rfl ?_|refine rk_blk ?_|refine rk_inv ?_)
  refine ⟨(i+1,G++[.arr 4 0 [k.av]]),⟨rfl,?_⟩,by simp only;omega,by simp only;omega⟩
  rw [take_succ_get hk',List.map_append]
  rfl
 ·have hi':ks.take i=ks:=List.take_of_length_le (by omega)
  refine is_callE rfl rfl rfl (Add_c (ks.map Kid.m) (by simpa using hk) (by intro m hm;obtain ⟨k,hk1,rfl⟩:=List.mem_map.1 hm;exact hs k hk1) _ A.length 2 i i (by simp;omega) (by rw [St.get_cur,hi',List.map_map];rfl)) ?_
  rw [show (sumM (ks.map Kid.m)).av=.agg [.int .i64 (sumM (ks.map Kid.m)).b,.int .i64 (sumM (ks.map Kid.m)).r,.int .i64 (sumM (ks.map Kid.m)).l] from rfl]
  repeat' (first|refine is_nil rfl ?_|refine rk_seq ?_|refine is_stn rfl rfl rfl rfl rfl rfl ?_|refine ru_ret ?_|refine rk_nil ?_)
  refine end_c hA (by first|exact .inl rfl|exact .inr rfl) rfl rfl rfl rfl rfl ?_
  rfl
theorem nCheck_ref (n:Nat) (hn:n≤15) (ks:List Kid) (hk:2≤ks.length∧ks.length≤4) (hs:∀ k∈ks,KidOk n k) (hsum:(sumM (ks.map Kid.m)).b≤65536) (st:St) {lv ix ver:Nat} (hr:KRef st lv ix ver ks):S Tb F_node_Check [ndR (n+1) lv ix ver ks.length] st=some (.int .i64 0,st):=by
 refine s_of rfl (fun A hA=>?_)
 have hf:=fun L=>formed_ref n hn ks hk hs _ (hr.push hA (ro:=false) (L:=L))
 have hS:=fun L=>sum_ref n ks hk.2 (fun k hk=>(hs k hk).fit) _ (hr.push hA (ro:=false) (L:=L))
 unfold Mea.av ndR at *
 repeat' (first|refine ru_seq ?_|refine ru_reg ?_|refine is_mv rfl ?_|refine is_ldc rfl rfl rfl rfl ?_|refine is_nil rfl ?_|refine rk_seq ?_|refine is_fld (agg:=false) rfl rfl ?_|(refine is_gtr rfl rfl (fun _=>?_) (fun _=>?_)<;>try (exfalso;omega))|refine ru_iteF rfl ?_|refine is_not rfl rfl ?_|refine is_box rfl rfl rfl ?_|refine is_callE rfl rfl rfl (hf _) ?_|refine is_callE rfl rfl rfl (hS _) ?_|refine ru_skip ?_|refine ru_ret ?_|refine rk_nil ?_)
 refine end_st hA (by first|exact .inl rfl|exact .inr rfl) rfl rfl rfl rfl ?_
 rfl
end Go.Q15
namespace Go.Q15
open Go Go.QAbs
set_option maxRecDepth 100000
set_option maxHeartbeats 8000000
theorem putE_new:∀ {N:Nodes} {h:Nat} {x:Nd},lk N h=none→putE (.int .u64 h) x.av (N.map nodeAV)=some ((N++[(h,x)]).map nodeAV)
 | [],h,x,_=>rfl
 | p::N,h,x,hn=>by
  rw [lk] at hn
  by_cases q:p.1=h
  ·rw [if_pos q] at hn;simp at hn
  ·rw [if_neg q] at hn
   rw [List.map_cons,putE]
   show (Option.bind (if IntKind.u64=IntKind.u64 then some ((h:Int) == (p.1:Int)) else none) fun b=>if b=true then some ((AV.int .u64 h,x.av)::N.map nodeAV) else (putE (.int .u64 h) x.av (N.map nodeAV)).map (nodeAV p::·))=_
   rw [if_pos rfl,Option.bind_some,if_neg (by simp;omega),putE_new hn]
   rfl
section
variable {O:Orc} {k:List Fr} {Q:Post} {e:Env} {A:List (Bool × List Blk)} {L:List Blk} {keep:List Nat} {is:List PI} {d:Nat}
theorem is_mupdP {st:St} {x i v:Opd} {lv ix h:Nat} {w:AV} {es es':List (AV × AV)} (hA:A=st.A++[(st.ro,st.L)]) (hx:opdO e x=some (.map lv ix)) (hi:opdO e i=some (.int .u64 h)) (hv:opdO e v=some w) (hw:st.wr lv) (hg:st.get lv ix=some (.map es))
 (hs:sealV deep (lv+1) ⟨A,false,L⟩ w=some (w,⟨A,false,L⟩)) (hp:putE (.int .u64 h) w es=some es')
 (hh:∀ A',A'=(st.upd lv ix (.map es')).A++[((st.upd lv ix (.map es')).ro,(st.upd lv ix (.map es')).L)]→Is O is keep k Q e ⟨A',false,L⟩):Is O (⟨none,none,false,.mupd 0 x i v⟩::is) keep k Q e ⟨A,false,L⟩:=by
 have hl:=St.get_le hg
 refine is_of (od:=none) (v:=.undef) (st':=St.upd ⟨A,false,L⟩ lv ix (.map es')) ?_ ?_
 ·simp only [evalPI,evalPO,opdO_some hx,opdO_some hi,opdO_some hv,mupdV,keyIs,if_true,hs,Option.bind_some,mupdK,get_old hA hg,mapB,hp,St.put_upd (wr_push hA hl hw) (get_old hA hg),retU]
 ·rw [upd_push hA hl]
  exact hh _ rfl
end
theorem clone_r {st:St} {lv ix ver:Nat} {ks:List Kid} (hr:KRef st lv ix ver ks) (hl:ks.length≤4):S Tb F_slices_Clone_api_Kid_api_Kid [.ref lv ix ver 0 ks.length] st=some (.lit (ks.map Kid.av),st):=by
 obtain ⟨es,g,ge⟩:=hr
 refine S_base (o:=cloneO 4) rfl ?_
 have hle:ks.length≤es.length:=by
  have:=congrArg List.length ge
  rw [List.length_take,List.length_map] at this;omega
 have him:(ks.map Kid.av).all (imm 6)=true:=by
  rw [List.all_eq_true]
  intro v hv
  obtain ⟨k,_,rfl⟩:=List.mem_map.1 hv
  rfl
 simp only [cloneO,g,refB,true_and,Nat.zero_add,if_pos hle,List.drop_zero,Option.bind_some,ge,kids_wide,List.length_map,show ks.length≤65536 by omega,him,and_self,if_true]
def AR.alloc (r:AR) (s g:Nat) (x:Nd):AR:={ r.take s with nodes:=r.nodes++[(g*65536+s,x.copy)],allocs:=r.allocs+1 }
def allocSt (st:St) (lv b:Nat) (r:AR) (s g:Nat) (x:Nd):St:=((takeSt st lv b r s).upd lv (b+4) (r.alloc s g x).b4).upd lv (b+5) ((r.alloc s g x).b5 lv b)
theorem alloc_get {st:St} {lv b:Nat} {r:AR} (h:Has st lv b r) (s g:Nat) (x:Nd) (l' i':Nat):(allocSt st lv b r s g x).get l' i'=if l'=lv∧i'=b+5 then some ((r.alloc s g x).b5 lv b) else if l'=lv∧i'=b+4 then some (r.alloc s g x).b4 else (takeSt st lv b r s).get l' i':=by
 have ht:=h.take s
 have g1:∀ l' i',((takeSt st lv b r s).upd lv (b+4) (r.alloc s g x).b4).get l' i'=if l'=lv∧i'=b+4 then some (r.alloc s g x).b4 else (takeSt st lv b r s).get l' i':=fun l' i'=>St.get_upd ht.h4 rfl
 have b1:((takeSt st lv b r s).upd lv (b+4) (r.alloc s g x).b4).get lv (b+5)=some ((r.take s).b5 lv b):=by rw [g1,if_neg (by omega)];exact ht.h5
 rw [allocSt,St.get_upd b1 rfl,g1]
theorem Has.alloc {st:St} {lv b:Nat} {r:AR} (h:Has st lv b r) (s g:Nat) (x:Nd):Has (allocSt st lv b r s g x) lv b (r.alloc s g x):=by
 have ht:=h.take s
 refine ⟨St.wr_upd (St.wr_upd ht.wr ht.wr) (St.wr_upd ht.wr ht.wr),?_,?_,?_,?_,?_,?_⟩
 ·rw [alloc_get h,if_neg (by omega),if_neg (by omega)];exact ht.h0
 ·rw [alloc_get h,if_neg (by omega),if_neg (by omega)];exact ht.h1
 ·rw [alloc_get h,if_neg (by omega),if_neg (by omega)];exact ht.h2
 ·rw [alloc_get h,if_neg (by omega),if_neg (by omega)];exact ht.h3
 ·rw [alloc_get h,if_neg (by omega),if_pos ⟨rfl,rfl⟩]
 ·rw [alloc_get h,if_pos ⟨rfl,rfl⟩]
theorem take_push {st:St} {A:List (Bool × List Blk)} {ro:Bool} {L:List Blk} (hA:A=st.A++[(st.ro,st.L)]) {lv b s:Nat} {r:AR} (hl:lv≤st.A.length) :
 takeSt ⟨A,ro,L⟩ lv b r s=⟨(takeSt st lv b r s).A++[((takeSt st lv b r s).ro,(takeSt st lv b r s).L)],ro,L⟩:=by
 unfold takeSt
 rw [upd_push hA hl]
 exact upd_push rfl (by rw [St.upd_A];exact hl)
theorem take_A (st:St) (lv b s:Nat) (r:AR):(takeSt st lv b r s).A.length=st.A.length:=by
 unfold takeSt;rw [St.upd_A,St.upd_A]
structure CanTake (r:AR) (k s g:Nat):Prop where
 n:r.n=k+1
 blk:r.blk[k]?=some (s:Int)
 st:s<r.states.length
 s16:s<16384
 gen:r.gens[s]?=some (g:Int)
 g1:1≤g
 g2:g≤4294967295
 big:r.n<65536
 new:lk r.nodes (g*65536+s)=none
 al:0≤r.allocs∧r.allocs<1000000
theorem Alloc_end {st:St} {lv b:Nat} {r:AR} (h:Has st lv b r) {k s g:Nat} (hc:CanTake r k s g) (x:Nd) (v:AV) (hone:v.one=true)
 (A:List (Bool × List Blk)) (G:List Blk) (hA:A=(takeSt st lv b r s).A++[((takeSt st lv b r s).ro,(takeSt st lv b r s).L)]) (hC:∀ L,S Tb F_slices_Clone_api_Kid_api_Kid [weak v] ⟨A,false,L⟩=some (.lit (x.ks.map Kid.av),⟨A,false,L⟩)) :
 Ru (S Tb) (.seq p_arena_Arena_Alloc_20 (.seq p_arena_Arena_Alloc_21 (.seq p_arena_Arena_Alloc_22 (.seq p_arena_Arena_Alloc_23 .ret)))) [] (fun x' e st' =>
  endK false [RV.s 4,RV.s 5] (x',e,st')=some (.tup [.int .u64 ((g*65536+s:Nat):Int),.int .i64 0],allocSt st lv b r s g x))
  [(0,.ptr lv (b+5) 0 0 0),(3,.ptr A.length 0 0 0 0),(13,.int .u64 ((g*65536+s:Nat):Int)),(14,.int .i64 0),(72,.bool false)] ⟨A,false,.arr 3 0 [.agg [.int .i64 x.h,.str x.text,v]]::G⟩:=by
 have ht:=h.take s
 have g5:=fun L=>get_old hA (ro:=false) (L:=L) ht.h5
 unfold AR.b5 at g5
 have hal:=hc.al
 have hpv:partOf (.agg [.int .i64 x.h,.str x.text,v]) false 2 1=some v:=rfl
 repeat' (first|refine ru_seq ?_|refine ru_reg ?_|refine is_fadr rfl rfl ?_|refine is_ldc rfl rfl rfl rfl ?_)
 refine is_callE rfl rfl rfl (hC _) ?_
 have hstv:(elemSet 3 (.agg [.int .i64 x.h,.str x.text,v]) 2 1 (.lit (x.ks.map Kid.av))).bind forceV=some x.copy.av:=rfl
 repeat' (first|refine ru_seq ?_|refine ru_reg ?_|refine is_mv rfl ?_|refine is_fadr rfl rfl ?_|refine is_ldc rfl rfl rfl rfl ?_|refine is_nil rfl ?_|refine rk_seq ?_|refine is_nilck rfl rfl ?_|refine is_stn rfl rfl rfl rfl rfl rfl ?_|refine is_ld rfl (g5 _) rfl rfl ?_)
 have hp:=putE_new (N:=r.nodes) (x:=x.copy) hc.new
 refine is_mupdP (w:=x.copy.av) hA rfl rfl rfl ht.wr ht.h4 rfl hp (fun A1 hA1=>?_)
 have eM:Blk.map ((r.nodes++[(g*65536+s,x.copy)]).map nodeAV)=(r.alloc s g x).b4:=rfl
 rw [eM] at hA1
 have q1:∀ l' i',((takeSt st lv b r s).upd lv (b+4) (r.alloc s g x).b4).get l' i'=if l'=lv∧i'=b+4 then some (r.alloc s g x).b4 else (takeSt st lv b r s).get l' i':=fun l' i'=>St.get_upd ht.h4 rfl
 have k5:((takeSt st lv b r s).upd lv (b+4) (r.alloc s g x).b4).get lv (b+5)=some ((r.take s).b5 lv b):=by rw [q1,if_neg (by omega)];exact ht.h5
 have hw1:=St.wr_upd (b:=(r.alloc s g x).b4) (ix:=b+4) ht.wr ht.wr
 have eA:allocSt st lv b r s g x=((takeSt st lv b r s).upd lv (b+4) (r.alloc s g x).b4).upd lv (b+5) ((r.alloc s g x).b5 lv b):=rfl
 rw [eA]
 generalize (takeSt st lv b r s).upd lv (b+4) (r.alloc s g x).b4=st1 at *
 unfold AR.b5 at k5
 have m5:=fun L=>get_old hA1 (ro:=false) (L:=L) k5
 have hat:(r.take s).allocs=r.allocs:=rfl
 rw [hat] at k5 m5
 repeat' (first|refine ru_seq ?_|refine ru_reg ?_|refine is_mv rfl ?_|refine is_fadr rfl rfl ?_|refine is_nil rfl ?_|refine rk_seq ?_|refine is_nilck rfl rfl ?_|refine is_addS rfl rfl (by omega) ?_|refine is_ld rfl (m5 _) rfl rfl ?_)
 refine is_stP hA1 rfl rfl hw1 k5 rfl rfl rfl (fun A2 hA2=>?_)
 have eB:Blk.arr 6 0 ([AV.agg [.int .i64 (r.take s).slots,.ptr lv (b+3) 0 0 0,.map lv (b+4),.int .i64 r.allocs,.int .i64 (r.take s).frees,.int .i64 (r.take s).stale]].set 0 (.agg [.int .i64 (r.take s).slots,.ptr lv (b+3) 0 0 0,.map lv (b+4),.int .i64 (r.allocs+1),.int .i64 (r.take s).frees,.int .i64 (r.take s).stale]))=(r.alloc s g x).b5 lv b:=rfl
 rw [eB] at hA2
 repeat' (first|refine ru_seq ?_|refine ru_reg ?_|refine is_mv rfl ?_|refine is_nil rfl ?_|refine rk_seq ?_|refine ru_ret ?_|refine rk_nil ?_)
 refine end_st hA2 (.inr rfl) rfl rfl rfl rfl ?_
 rfl
theorem Alloc_leaf {st:St} {lv b:Nat} {r:AR} (h:Has st lv b r) {k s g:Nat} (hc:CanTake r k s g) (text:List UInt8) (ht:leafP text) :
 S Tb F_arena_Arena_Alloc [.ptr lv (b+5) 0 0 0,.agg [.int .i64 (0:Nat),.str text,.nils]] st=some (.tup [.int .u64 ((g*65536+s:Nat):Int),.int .i64 0],allocSt st lv b r s g ⟨0,text,none⟩):=by
 refine s_ofW rfl (fun A hA=>?_)
 have hN:=fun st=>nCheck_c ⟨0,text,none⟩ (.inl ⟨rfl,ht.1,ht.2,rfl⟩) st
 simp only [Nd.av,slV] at hN
 have g5:=fun L=>get_old hA (ro:=false) (L:=L) h.h5
 unfold AR.b5 at g5
 repeat' (first|refine ru_seq ?_|refine ru_reg ?_|refine is_mv rfl ?_|refine is_fadr rfl rfl ?_|refine is_ldc rfl rfl rfl rfl ?_|refine is_nil rfl ?_|refine rk_seq ?_|refine is_nilck rfl rfl ?_|refine is_lenN rfl ?_|(refine is_lss rfl rfl (fun _=>?_) (fun _=>?_)<;>try (exfalso;omega))|(refine is_neq rfl rfl (fun _=>?_) (fun _=>?_)<;>try (exfalso;omega))|refine ru_iteF rfl ?_|refine is_eqs rfl rfl rfl rfl ?_|refine is_box rfl rfl rfl ?_|refine is_callE rfl rfl rfl (hN _) ?_|refine ru_unroll ?_|refine is_ld rfl (g5 _) rfl rfl ?_|refine ru_skip ?_|refine ru_exit ?_|refine ru_block ?_|refine rk_seq_ex ?_|refine rk_blk_eq rfl ?_)
 all_goals try (exfalso;omega)
 have hle:=St.get_le h.h3
 have hTk:=fun L=>Take_c (st:=⟨A,false,L⟩) ⟨wr_push hA hle h.wr,get_old hA h.h0,get_old hA h.h1,get_old hA h.h2,get_old hA h.h3,get_old hA h.h4,get_old hA h.h5⟩ hc.n hc.blk hc.st hc.s16 hc.gen ⟨hc.g1,hc.g2⟩ hc.big
 refine is_callE rfl rfl rfl (hTk _) ?_
 rw [take_push hA hle]
 obtain ⟨A1,hA1⟩:∃ A1,A1=(takeSt st lv b r s).A++[((takeSt st lv b r s).ro,(takeSt st lv b r s).L)]:=⟨_,rfl⟩
 rw [← hA1]
 have hlen:A.length=A1.length:=by rw [hA,hA1,List.length_append,List.length_append,take_A];rfl
 rw [hlen]
 refine is_mv rfl ?_
 refine is_ext rfl rfl ?_
 refine is_ext rfl rfl ?_
 refine is_mv rfl ?_
 refine is_mv rfl ?_
 refine is_nil rfl ?_
 refine rk_seq ?_
 refine ru_seq ?_
 refine ru_seq ?_
 refine ru_reg ?_
 refine is_mv rfl ?_
 refine is_neq rfl rfl (fun q=>absurd rfl q) (fun _=>?_)
 refine is_nil rfl ?_
 refine rk_seq ?_
 refine ru_iteF rfl ?_
 refine ru_skip ?_
 refine rk_seq ?_
 have:=Alloc_end h hc ⟨0,text,none⟩ .nils rfl A1 [] hA1 (fun L=>clone_n _)
 exact this
section
variable {O:Orc} {k:List Fr} {Q:Post} {e:Env} {A:List (Bool × List Blk)} {L:List Blk} {keep:List Nat} {is:List PI} {d:Nat}
theorem is_ld1 {agg:Bool} {n:Nat} {a:Opd} {ver i o w:Nat} {es:List AV} {x v:AV} {c:Blk} (ha:opdO e a=some (.ptr A.length L.length ver i o)) (hx:es[i]?=some x) (hv:partOf x agg o n=some v)
 (h:Is O is keep k Q ((d,v)::e) ⟨A,false,L++[Blk.arr w ver es]++[c]⟩):Is O (⟨some d,none,false,.ld agg n a⟩::is) keep k Q e ⟨A,false,L++[Blk.arr w ver es]++[c]⟩ :=
 is_ldc (w:=w) ha (by rw [List.append_assoc];exact get_at L _ _) hx hv h
theorem is_ld2 {agg:Bool} {n:Nat} {a:Opd} {ver i o w:Nat} {es:List AV} {x v:AV} {c c2:Blk} (ha:opdO e a=some (.ptr A.length L.length ver i o)) (hx:es[i]?=some x) (hv:partOf x agg o n=some v)
 (h:Is O is keep k Q ((d,v)::e) ⟨A,false,L++[Blk.arr w ver es]++[c]++[c2]⟩):Is O (⟨some d,none,false,.ld agg n a⟩::is) keep k Q e ⟨A,false,L++[Blk.arr w ver es]++[c]++[c2]⟩ :=
 is_ldc (w:=w) ha (by rw [List.append_assoc,List.append_assoc];exact get_at L _ _) hx hv h
end
def KidsLive (N:Nodes) (n:Nat) (ks:List Kid):Prop:=∀ k∈ks,∃ y,lk N k.at_=some y∧NdOk y∧y.h=n∧y.mea=k.m
theorem Alloc_in {st:St} {lv b:Nat} {r:AR} (h:Has st lv b r) {k s g:Nat} (hc:CanTake r k s g) (n:Nat) (hn:n≤15) (ks:List Kid) (hk:2≤ks.length∧ks.length≤4) (hs:∀ k∈ks,KidOk n k) (hsum:(sumM (ks.map Kid.m)).b≤65536) (hL:KidsLive r.nodes n ks)
 {kl kx ver:Nat} (hr:KRef st kl kx ver ks) (hne:¬ (kl=lv∧(kx=b∨kx=b+3))) :
 S Tb F_arena_Arena_Alloc [.ptr lv (b+5) 0 0 0,ndR (n+1) kl kx ver ks.length] st=some (.tup [.int .u64 ((g*65536+s:Nat):Int),.int .i64 0],allocSt st lv b r s g ⟨n+1,[],some ks⟩):=by
 refine s_ofW rfl (fun A hA=>?_)
 have hN:=fun L=>nCheck_ref n hn ks hk hs hsum _ (hr.push hA (ro:=false) (L:=L))
 have g5:=fun L=>get_old hA (ro:=false) (L:=L) h.h5
 have g4:=fun L=>get_old hA (ro:=false) (L:=L) h.h4
 unfold AR.b5 at g5
 unfold AR.b4 at g4
 obtain ⟨es,gk,ge⟩:=hr
 have gA:=fun L=>get_old hA (ro:=false) (L:=L) gk
 have hwi:∀ L,wIs 4 ver (St.get ⟨A,false,L⟩ kl kx)=true:=fun L=>by rw [gA];simp [wIs]
 unfold ndR at *
 repeat' (first|refine ru_seq ?_|refine ru_reg ?_|refine is_mv rfl ?_|refine is_fadr rfl rfl ?_|refine is_ldc rfl rfl rfl rfl ?_|refine is_nil rfl ?_|refine rk_seq ?_|refine is_lenR rfl ?_|(refine is_neq rfl rfl (fun _=>?_) (fun _=>?_)<;>try (exfalso;omega))|refine ru_iteF rfl ?_|refine is_eqs rfl rfl rfl rfl ?_|refine is_box rfl rfl rfl ?_|refine is_callE rfl rfl rfl (hN _) ?_|refine ru_skip ?_|refine ru_block ?_)
 all_goals try (exfalso;omega)
 have hle:=St.get_le h.h3
 refine ru_loopP (α:=Nat × List Blk) (fun p=>[(0,.ptr lv (b+5) 0 0 0),(3,.ptr A.length 0 0 0 0),(23,.ref kl kx ver 0 ks.length),(24,.int .i64 ks.length),(25,.int .i64 p.1)]) (fun p=>⟨A,false,.arr 3 0 [.agg [.int .i64 ((n+1:Nat):Int),.str [],.ref kl kx ver 0 ks.length]]::p.2⟩) (fun p=>p.1≤ks.length) (fun p=>ks.length-p.1) (0,[]) rfl rfl (by simp) ?_
 rintro ⟨i,G⟩ hi
 simp only at hi ⊢
 repeat' (first|refine ru_seq ?_|refine ru_reg ?_|refine is_mv rfl ?_|refine is_fadr rfl rfl ?_|refine is_nil rfl ?_|refine rk_seq ?_|refine is_nilck rfl rfl ?_|(refine is_lss rfl rfl (fun _=>?_) (fun _=>?_)<;>try (exfalso;omega))|refine ru_iteT rfl ?_|refine ru_iteF rfl ?_|refine ru_skip ?_|refine ru_exit ?_|refine ru_block ?_|refine rk_seq_ex ?_|refine rk_blk_eq rfl ?_|refine rk_inv_ex ?_)
 ·rename_i hlt
  obtain ⟨kd,hk'⟩:∃ k,ks[i]?=some k:=⟨ks[i]'(by omega),by simp [show i<ks.length by omega]⟩
  obtain ⟨y,y1,y2,y3,y4⟩:=hL kd (List.mem_of_getElem? hk')
  have hlk:=fun L z=>look_live (g4 L) y1 z
  have hMe:=fun st=>nMeasure_c y y2 st
  rw [y4] at hMe
  refine is_ixR rfl rfl (by omega) (hwi _) ?_
  refine is_ld (x:=kd.av) rfl (gA _) (kid_get ge hk') rfl ?_
  obtain ⟨yh,yt,yk⟩:=y
  simp only at y3
  subst y3
  cases yk
  all_goals simp only [Nd.av,slV,Mea.av] at *
  all_goals repeat' (first|refine ru_seq ?_|refine ru_reg ?_|refine is_mv rfl ?_|refine is_fadr rfl rfl ?_|refine is_ldc rfl rfl rfl rfl ?_|refine is_gT rfl ?_|refine is_pick rfl rfl rfl rfl ?_|refine is_ext rfl rfl ?_|refine is_nil rfl ?_|refine rk_seq ?_|refine is_nilck rfl rfl ?_|refine is_ldT rfl rfl rfl ?_|(refine is_neq rfl rfl (fun _=>?_) (fun _=>?_)<;>try (exfalso;omega))|refine ru_iteT rfl ?_|refine ru_iteF rfl ?_|refine is_not rfl rfl ?_|refine is_addS rfl rfl (by omega) ?_|refine is_subS rfl rfl (by omega) ?_|refine is_boxG rfl rfl rfl ?_|refine is_stT rfl rfl rfl rfl rfl rfl ?_|refine is_ld rfl (g5 _) rfl rfl ?_|refine is_look rfl rfl (hlk _ _) ?_|refine is_callE rfl rfl rfl (hMe _) ?_|refine is_ld1 rfl rfl rfl ?_|refine is_ld2 rfl rfl rfl ?_|(refine is_eqsB rfl rfl (eqv3 _ _ _ _ _ _) (fun _=>?_) (fun _=>?_))|refine ru_skip ?_|refine ru_ret ?_|refine rk_nil ?_|refine rk_seq_ret ?_|refine rk_blk ?_|refine rk_blk_ret ?_|refine rk_inv ?_|refine rk_inv_ret ?_)
  all_goals try (exfalso;omega)
  all_goals first|exact ⟨(i+1,G++[_]++[_]++[_]),⟨rfl,rfl⟩,by simp only;omega,by simp only;omega⟩|exact absurd ⟨rfl,rfl,rfl⟩ ‹_›
 ·refine is_ld rfl (g5 _) rfl rfl ?_
  have hTk:=fun L=>Take_c (st:=⟨A,false,L⟩) ⟨wr_push hA hle h.wr,get_old hA h.h0,get_old hA h.h1,get_old hA h.h2,get_old hA h.h3,get_old hA h.h4,get_old hA h.h5⟩ hc.n hc.blk hc.st hc.s16 hc.gen ⟨hc.g1,hc.g2⟩ hc.big
  refine is_callE rfl rfl rfl (hTk _) ?_
  rw [take_push hA hle]
  obtain ⟨A1,hA1⟩:∃ A1,A1=(takeSt st lv b r s).A++[((takeSt st lv b r s).ro,(takeSt st lv b r s).L)]:=⟨_,rfl⟩
  rw [← hA1]
  have hlen:A.length=A1.length:=by rw [hA,hA1,List.length_append,List.length_append,take_A];rfl
  rw [hlen]
  refine is_mv rfl ?_
  refine is_ext rfl rfl ?_
  refine is_ext rfl rfl ?_
  refine is_mv rfl ?_
  refine is_mv rfl ?_
  refine is_nil rfl ?_
  refine rk_seq ?_
  refine ru_seq ?_
  refine ru_seq ?_
  refine ru_reg ?_
  refine is_mv rfl ?_
  refine is_neq rfl rfl (fun q=>absurd rfl q) (fun _=>?_)
  refine is_nil rfl ?_
  refine rk_seq ?_
  refine ru_iteF rfl ?_
  refine ru_skip ?_
  refine rk_seq ?_
  have g2:(takeSt st lv b r s).get kl kx=some (.arr 4 ver es):=by
   rw [take_get h,if_neg (fun q=>hne ⟨q.1,.inl q.2⟩),if_neg (fun q=>hne ⟨q.1,.inr q.2⟩)];exact gk
  have:=Alloc_end h hc ⟨n+1,[],some ks⟩ (.ref kl kx ver 0 ks.length) rfl A1 G hA1 (fun L=>clone_r ⟨es,get_old hA1 g2,ge⟩ hk.2)
  exact this
end Go.Q15
namespace Go.Q15
open Go Go.QAbs
set_option maxRecDepth 100000
set_option maxHeartbeats 8000000
theorem findH_app {j i:Nat}:∀ {L0 T:List Blk},findH j T=some i→findH j (L0++T)=some (L0.length+i)
 | [],T,h=>by simpa using h
 | b::L0,T,h=>by
  have:=findH_app (L0:=L0) h
  unfold findH
  rw [List.cons_append]
  simp only [this,List.length_cons]
  congr 1;omega
theorem set_app:∀ {L0 T:List Blk} {i:Nat} {b:Blk},(L0++T).set (L0.length+i) b=L0++T.set i b
 | [],T,i,b=>by simp
 | c::L0,T,i,b=>by
  rw [List.cons_append,List.length_cons,show L0.length+1+i=(L0.length+i)+1 by omega,List.set_cons_succ,set_app];rfl
theorem get_app:∀ {L0 T:List Blk} {i:Nat},(L0++T)[L0.length+i]?=T[i]?
 | [],T,i=>by simp
 | c::L0,T,i=>by
  rw [List.cons_append,List.length_cons,show L0.length+1+i=(L0.length+i)+1 by omega,List.getElem?_cons_succ,get_app]
section
variable {O:Orc} {k:List Fr} {Q:Post} {e:Env} {A:List (Bool × List Blk)} {L L0 T T':List Blk} {keep:List Nat} {is:List PI} {d:Nat}
theorem ru_regH {js:List Nat} (h:Is O is keep k Q e ⟨A,false,L++js.map Blk.hole⟩):Ru O (.regH js keep is) k Q e ⟨A,false,L⟩:=by
 obtain ⟨e',st',h1,h2⟩:=h.h
 refine ⟨⟨.norm,keepEnv keep e',st',?_,h2⟩⟩
 simp only [exec,padH,Bool.false_eq_true,if_false,Option.bind_some,h1,regK]
theorem is_here {j i w bytes:Nat} {z:AV} {l c:Opd} {n:Int} (hl:opdO e l=some (.int .i64 n)) (hc:opdO e c=some (.int .i64 n)) (hn:0≤n∧n<4294967296) (hb:bytes≤4096) (hf:findH j T=some i)
 (hL:forceB (T.set i (Blk.arr w 0 (List.replicate n.toNat z)))=some T') (h:Is O is keep k Q ((d,.ref A.length (L0.length+i) 0 0 n.toNat)::e) ⟨A,false,L0++T'⟩):Is O (⟨some d,none,false,.w (.here j) (.mkslice w bytes z l c)⟩::is) keep k Q e ⟨A,false,L0++T⟩:=by
 rw [← forceB_some hL,← set_app] at h
 refine is_of (v:=.ref A.length (L0.length+i) 0 0 n.toNat) (st':=⟨A,false,(L0++T).set (L0.length+i) (Blk.arr w 0 (List.replicate n.toNat z))⟩) ?_ h
 simp only [evalPI,evalW,newOf,opdO_some hl,opdO_some hc,mkslB,if_pos (show 0≤n∧n≤n∧n<4294967296∧bytes≤4096 by omega),Option.bind_some,hereV,immB,and_self,if_true,findH_app hf,fillK]
theorem is_boxA {x:Opd} {v v':AV} {w m:Nat} (hx:opdO e x=some v) (hw:v.wide=some w) (hv:forceV v=some v') (hm:lenO T=some m) (hL:forceB (T++[Blk.arr w 0 [v']])=some T') (h:Is O is keep k Q ((d,.ptr A.length (L0.length+m) 0 0 0)::e) ⟨A,false,L0++T'⟩):Is O (⟨some d,none,false,.box x⟩::is) keep k Q e ⟨A,false,L0++T⟩:=by
 rw [← forceB_some hL,← lenO_some hm,← List.append_assoc,← List.length_append] at h
 exact is_boxG hx hw hv h
theorem is_mkmapA {m:Nat} (hm:lenO T=some m) (hL:forceB (T++[Blk.map []])=some T') (h:Is O is keep k Q ((d,.map A.length (L0.length+m))::e) ⟨A,false,L0++T'⟩):Is O (⟨some d,none,false,.mkmap⟩::is) keep k Q e ⟨A,false,L0++T⟩:=by
 rw [← forceB_some hL,← lenO_some hm,← List.append_assoc,← List.length_append] at h
 exact is_of (v:=.map A.length (L0++T).length) (st':=⟨A,false,L0++T++[Blk.map []]⟩) (by simp only [evalPI,evalPO,Option.bind_some,St.new_cur,newMapK]) h
theorem is_ldA {agg:Bool} {n:Nat} {a:Opd} {ix ver i o w:Nat} {es:List AV} {x v:AV} (ha:opdO e a=some (.ptr A.length (L0.length+ix) ver i o)) (hg:T[ix]?=some (Blk.arr w ver es)) (hx:es[i]?=some x) (hv:partOf x agg o n=some v)
 (h:Is O is keep k Q ((d,v)::e) ⟨A,false,L0++T⟩):Is O (⟨some d,none,false,.ld agg n a⟩::is) keep k Q e ⟨A,false,L0++T⟩ :=
 is_ldc ha (by rw [get_app];exact hg) hx hv h
theorem is_ixRA {w:Nat} {x i:Opd} {ix ver s m:Nat} {n:Int} {es:List AV} (hx:opdO e x=some (.ref A.length (L0.length+ix) ver s m)) (hi:opdO e i=some (.int .i64 n)) (hn:0≤n∧n<m) (hg:T[ix]?=some (Blk.arr w ver es)) (h:Is O is keep k Q ((d,.ptr A.length (L0.length+ix) ver (s+n.toNat) 0)::e) ⟨A,false,L0++T⟩):Is O (⟨some d,none,false,.ixS w x i⟩::is) keep k Q e ⟨A,false,L0++T⟩ :=
 is_ixRc hx hi hn (by rw [get_app];exact hg) h
theorem is_stA {n:Nat} {a x:Opd} {ix ver i o w:Nat} {es:List AV} {v v' y:AV} (ha:opdO e a=some (.ptr A.length (L0.length+ix) ver i o)) (hx:opdO e x=some v) (hg:T[ix]?=some (Blk.arr w ver es)) (hy:es[i]?=some y)
 (hs:sealV deep (A.length+1) ⟨A,false,L0++T⟩ v=some (v,⟨A,false,L0++T⟩)) (hv:(elemSet w y o n v).bind forceV=some v') (hL:forceB (T.set ix (Blk.arr w ver (es.set i v')))=some T') (h:Is O is keep k Q e ⟨A,false,L0++T'⟩):Is O (⟨none,none,false,.st n a x⟩::is) keep k Q e ⟨A,false,L0++T⟩:=by
 rw [← forceB_some hL,← set_app] at h
 exact is_stn (by rw [get_app];exact hg) ha hx hy hs hv h
end
def newAR (n g:Nat):AR:=⟨(List.range n).map fun (j:Nat)=>(n:Int)-1-j,n,0,List.replicate n 0,List.replicate n 1,g,[],n,0,0,0⟩
theorem map_range_set {n i:Nat} {k:IntKind} {f:Nat→Int} {z:Int} (hi:i<n):((List.range n).map fun j=>AV.int k (if j<i then f j else z)).set i (.int k (f i))=(List.range n).map fun j=>AV.int k (if j<i+1 then f j else z):=by
 apply List.ext_getElem
 ·simp
 ·intro j hj hj'
  simp only [List.getElem_set,List.getElem_map,List.getElem_range]
  by_cases q:i=j
  ·subst q;simp
  ·rw [if_neg q]
   have:j<i+1↔j<i:=by omega
   simp only [this]
theorem flNew_c (n g:Nat) (hn:1≤n∧n≤16384) (hg:1≤g∧g≤4294967295) (A:List (Bool × List Blk)) (L0:List Blk) :
 S Tb F_freelist_New [.int .i64 n,.int .u64 g] ⟨A,false,L0⟩=some (.tup [.ptr A.length (L0.length+3) 0 0 0,.int .i64 0],⟨A,false,L0++[(newAR n g).b0,(newAR n g).b1,(newAR n g).b2,(newAR n g).b3 A.length L0.length]⟩):=by
 refine s_keep rfl ?_
 have hmap:∀ (k:IntKind) (z:Int),List.replicate n (AV.int k z)=(List.range n).map fun (j:Nat)=>AV.int k (if j<0 then (fun (j:Nat)=>(n:Int)-1-j) j else z):=by
  intro k z;simp only [Nat.not_lt_zero,if_false,List.map_const',List.length_range]
 have hmap1:List.replicate n (AV.int .u64 0)=(List.range n).map fun j=>AV.int .u64 (if j<0 then (fun _=>(1:Int)) j else 0):=by
  simp only [Nat.not_lt_zero,if_false,List.map_const',List.length_range]
 repeat' (first|refine ru_seq ?_|refine ru_reg ?_|refine is_mv rfl ?_|refine is_gT rfl ?_|refine is_pick rfl rfl rfl rfl ?_|refine is_nil rfl ?_|refine rk_seq ?_|(refine is_lss rfl rfl (fun _=>?_) (fun _=>?_)<;>try (exfalso;omega))|(refine is_gtr rfl rfl (fun _=>?_) (fun _=>?_)<;>try (exfalso;omega))|refine ru_iteF rfl ?_|refine is_buildO rfl rfl rfl ?_|refine is_boxG rfl rfl rfl ?_|refine ru_regH ?_|refine is_here rfl rfl (by omega) (by decide) rfl rfl ?_|refine ru_skip ?_|refine ru_block ?_)
 simp only [List.length_append,List.length_cons,List.length_nil,List.append_assoc,List.cons_append,List.nil_append,Int.toNat_natCast,Nat.zero_add]
 rw [hmap .i64 0,hmap1]
 refine ru_loopP (α:=Nat) (fun i=>[(0,.int .i64 n),(6,.ptr A.length (L0.length+3) 0 0 0),(31,.int .i64 n),(32,.int .i64 i)])
  (fun i=>⟨A,false,L0++[.arr 1 0 (List.replicate n (.int .u8 0)),.arr 1 0 ((List.range n).map fun (j:Nat)=>.int .i64 (if j<i then (fun (j:Nat)=>(n:Int)-1-j) j else 0)),.arr 1 0 ((List.range n).map fun (j:Nat)=>.int .u64 (if j<i then (fun _=>(1:Int)) j else 0)),.arr 4 0 [.agg [.ref A.length (L0.length+1) 0 0 n,.ref A.length (L0.length+0) 0 0 n,.ref A.length (L0.length+2) 0 0 n,.int .u64 g]]]⟩)
  (fun i=>i≤n) (fun i=>n-i) 0 rfl rfl (Nat.zero_le _) ?_
 intro i hi
 repeat' (first|refine ru_seq ?_|refine ru_reg ?_|refine is_mv rfl ?_|refine is_fadr rfl rfl ?_|refine is_nil rfl ?_|refine rk_seq ?_|refine is_nilck rfl rfl ?_|(refine is_lss rfl rfl (fun _=>?_) (fun _=>?_)<;>try (exfalso;omega))|refine ru_iteT rfl ?_|refine ru_iteF rfl ?_|refine is_subS rfl rfl (by omega) ?_|refine is_ldA rfl rfl rfl rfl ?_|refine is_ixRA rfl rfl (by omega) rfl ?_|refine ru_skip ?_|refine ru_ret ?_|refine ru_exit ?_|refine ru_block ?_|refine rk_nil ?_|refine rk_seq_ex ?_|refine rk_blk_eq rfl ?_|refine rk_inv_ex ?_)
 ·simp only [Nat.zero_add,Int.toNat_natCast]
  refine is_stA (y:=.int .i64 0) rfl rfl rfl ?_ rfl rfl rfl ?_
  ·rw [List.getElem?_map,List.getElem?_range (by omega)];simp
  rw [map_range_set (f:=fun (j:Nat)=>(n:Int)-1-j) (by omega)]
  repeat' (first|refine ru_reg ?_|refine is_mv rfl ?_|refine is_fadr rfl rfl ?_|refine is_nil rfl ?_|refine rk_seq ?_|refine is_nilck rfl rfl ?_|refine is_ldA rfl rfl rfl rfl ?_|refine is_ixRA rfl rfl (by omega) rfl ?_)
  simp only [Nat.zero_add,Int.toNat_natCast]
  refine is_stA (y:=.int .u64 0) rfl rfl rfl ?_ rfl rfl rfl ?_
  ·rw [List.getElem?_map,List.getElem?_range (by omega)];simp
  rw [map_range_set (f:=fun (j:Nat)=>(1:Int)) (by omega)]
  repeat' (first|refine ru_reg ?_|refine is_mv rfl ?_|refine is_nil rfl ?_|refine rk_seq ?_|refine is_addS rfl rfl (by omega) ?_|refine rk_blk ?_|refine rk_inv ?_)
  exact ⟨i+1,⟨rfl,rfl⟩,by omega,by omega⟩
 ·obtain rfl:i=n:=by omega
  have e1:∀ (k:IntKind) (f:Nat→Int),((List.range i).map fun (j:Nat)=>AV.int k (if j<i then f j else 0))=(List.range i).map fun j=>.int k (f j):=by
   intro k f
   apply List.map_congr_left
   intro j hj
   rw [List.mem_range] at hj
   rw [if_pos hj]
  simp only [e1,AR.b0,AR.b1,AR.b2,AR.b3,newAR,List.map_replicate,List.map_map,List.length_replicate]
  simp only [List.map_const',List.length_range]
  rfl
theorem arNew_c (n g:Nat) (hn:1≤n∧n≤16384) (hg:1≤g∧g≤4294967295) (A:List (Bool × List Blk)) (L0:List Blk) :
 S Tb F_arena_New [.int .i64 n,.int .u64 g] ⟨A,false,L0⟩=some (.tup [.ptr A.length (L0.length+5) 0 0 0,.int .i64 0],⟨A,false,L0++[(newAR n g).b0,(newAR n g).b1,(newAR n g).b2,(newAR n g).b3 A.length L0.length,(newAR n g).b4,(newAR n g).b5 A.length L0.length]⟩):=by
 refine s_keep rfl ?_
 repeat' (first|refine ru_seq ?_|refine ru_reg ?_|refine is_mv rfl ?_|refine is_ext rfl rfl ?_|refine is_nil rfl ?_|refine rk_seq ?_|(refine is_neq rfl rfl (fun _=>?_) (fun _=>?_)<;>try (exfalso;omega))|refine ru_iteF rfl ?_|refine is_buildO rfl rfl rfl ?_|refine is_boxG rfl rfl rfl ?_|refine is_callE rfl rfl rfl (flNew_c n g hn hg A L0) ?_|refine is_mkmapA rfl rfl ?_|refine ru_skip ?_|refine ru_ret ?_|refine rk_nil ?_)
 simp only [List.length_append,List.append_assoc,List.cons_append,List.nil_append]
 rfl
theorem newAR_has (n g:Nat) (A:List (Bool × List Blk)) (L0 L1:List Blk):Has ⟨A,false,L0++([(newAR n g).b0,(newAR n g).b1,(newAR n g).b2,(newAR n g).b3 A.length L0.length,(newAR n g).b4,(newAR n g).b5 A.length L0.length]++L1)⟩ A.length L0.length (newAR n g):=by
 have h:∀ i b,([(newAR n g).b0,(newAR n g).b1,(newAR n g).b2,(newAR n g).b3 A.length L0.length,(newAR n g).b4,(newAR n g).b5 A.length L0.length]++L1)[i]?=some b→vis (some b)=some b→St.get ⟨A,false,L0++([(newAR n g).b0,(newAR n g).b1,(newAR n g).b2,(newAR n g).b3 A.length L0.length,(newAR n g).b4,(newAR n g).b5 A.length L0.length]++L1)⟩ A.length (L0.length+i)=some b:=by
  intro i b hb hv
  rw [St.get_cur,get_app,hb,hv]
 exact ⟨by simp [St.wr],h 0 _ rfl rfl,h 1 _ rfl rfl,h 2 _ rfl rfl,h 3 _ rfl rfl,h 4 _ rfl rfl,h 5 _ rfl rfl⟩
end Go.Q15
namespace Go.Q15
open Go Go.QAbs
set_option maxRecDepth 100000
set_option maxHeartbeats 8000000
theorem refLeaf_c (s:List UInt8) (st:St):S Tb F_quartoref15_leaf [.str s] st=some ((leafT s).av,st):=by
 refine s_of rfl (fun A hA=>?_)
 repeat' (first|refine ru_seq ?_|refine ru_reg ?_|refine is_mv rfl ?_|refine is_nil rfl ?_|refine rk_seq ?_|refine is_buildO rfl rfl rfl ?_|refine is_box rfl rfl rfl ?_|refine is_stb rfl rfl rfl rfl rfl rfl ?_|refine ru_ret ?_|refine rk_nil ?_)
 refine end_c hA (by first|exact .inl rfl|exact .inr rfl) rfl rfl rfl rfl rfl ?_
 rfl
theorem refInner_c {v:AV} {l:List Tr} (h2:2≤l.length) (hl:l.length≤65536) (hh:∀ t∈l,t.h≤65536) {st:St} (hv:Sl st v l):S Tb F_quartoref15_inner [v] st=some ((grp l).av,st):=by
 refine s_of rfl (fun A hA=>?_)
 have hv2:=fun L=>hv.push hA (ro:=false) (L:=L)
 have fin:∀ {L:List Blk} {e:Env} {h:Int} {u:Tr},l[0]?=some u→2≤l.length→h=u.h+1→lookO e 2=some (.ptr A.length 0 0 0 0)→L=[.arr 7 0 [.agg [.int .u64 0,.int .i64 h,.int .i64 0,.int .i64 0,.int .i64 0,.str [],.ref A.length 1 0 0 l.length]],.arr 7 0 (l.map Tr.av)] →
  endK false [.c 2 true 7] (.ret,e,⟨A,false,L⟩)=some ((grp l).av,st):=by
  intro L e h u hu h2 hhu he hL
  subst hL hhu
  have hval:=end_of (e:=e) (res:=[.c 2 true 7]) (x:=.ret) (v:=.agg [.int .u64 0,.int .i64 ((u.h:Int)+1),.int .i64 0,.int .i64 0,.int .i64 0,.str [],.ref A.length 1 0 0 l.length]) hA (.inr rfl) (by
   simp only [result,resL,resV,lookO_some he,loadP,St.get_cur,List.getElem?_cons_zero,vis,loadB,if_true,Option.bind_some]
   rfl) (tr_end (l:=l) (ix:=1) (L:=[.arr 7 0 [.agg [.int .u64 0,.int .i64 ((u.h:Int)+1),.int .i64 0,.int .i64 0,.int .i64 0,.str [],.ref A.length 1 0 0 l.length]],.arr 7 0 (l.map Tr.av)]) rfl rfl) rfl
  rw [hval,grp_two h2,hs_get hu,Tr.av,Tr.avO,Tr.avL_map]
  rfl
 cases hv with
 | lit =>
  have hvs:=fun L=>Sl.lit (st:=⟨A,false,L⟩) l
  repeat' (first|refine ru_seq ?_|refine ru_reg ?_|refine is_mv rfl ?_|refine is_fadr rfl rfl ?_|refine is_nil rfl ?_|refine rk_seq ?_|refine is_box rfl rfl rfl ?_|refine is_ixM rfl rfl (by omega) tr_wide (fun _ _=>?_))
  rename_i t ht
  have hth:=hh t (List.mem_of_getElem? ht)
  refine is_ldl rfl (tr_hpart _) ?_
  repeat' (first|refine is_mv rfl ?_|refine is_nil rfl ?_|refine rk_seq ?_|refine is_addS rfl rfl (by omega) ?_|refine is_buildO rfl rfl rfl ?_|refine is_stb rfl rfl rfl (seal_trR _ (Nat.lt_succ_self _)) rfl rfl ?_|refine is_w rfl ?_|refine is_appNilW rfl rfl (hvs _) (by omega) ?_|refine ru_ret ?_|refine rk_nil ?_)
  exact fin ht (by omega) rfl rfl rfl
 | @ref lv ix ver s n _ es hg hn hlen he =>
  have hvs:=fun L=>hv2 L
  have hg2:=fun L=>get_old hA (ro:=false) (L:=L) hg
  have hget:=fun {i} {t}=>Sl.get (i:=i) (t:=t) hn he
  have hwi:∀ L,wIs 7 ver (St.get ⟨A,false,L⟩ lv ix)=true:=fun L=>by rw [hg2];simp [wIs]
  repeat' (first|refine ru_seq ?_|refine ru_reg ?_|refine is_mv rfl ?_|refine is_fadr rfl rfl ?_|refine is_nil rfl ?_|refine rk_seq ?_|refine is_box rfl rfl rfl ?_|refine is_ixR rfl rfl (by omega) (hwi _) ?_)
  obtain ⟨t,ht⟩:∃ t,l[0]?=some t:=⟨l[0]'(by omega),by simp⟩
  have hth:=hh t (List.mem_of_getElem? ht)
  skip
  refine is_ld rfl (hg2 _) (hget ht) (tr_hpart t) ?_
  repeat' (first|refine is_mv rfl ?_|refine is_nil rfl ?_|refine rk_seq ?_|refine is_addS rfl rfl (by omega) ?_|refine is_buildO rfl rfl rfl ?_|refine is_stb rfl rfl rfl (seal_trR _ (Nat.lt_succ_self _)) rfl rfl ?_|refine is_w rfl ?_|refine is_appNilW rfl rfl (hvs _) (by omega) ?_|refine ru_ret ?_|refine rk_nil ?_)
  exact fin ht (by omega) rfl rfl rfl
theorem refGroup_c {v:AV} {l:List Tr} (hl:l.length≤65536) (hh:∀ t∈l,t.h≤65536) {st:St} (hv:Sl st v l):S Tb F_quartoref15_group [v] st=some ((grp l).av,st):=by
 refine s_of rfl (fun A hA=>?_)
 have hv2:=fun L=>hv.push hA (ro:=false) (L:=L)
 have hI:=fun (h2:2≤l.length) L=>refInner_c h2 hl hh (hv2 L)
 have hwk:=hv.weak
 cases hv with
 | lit =>
  repeat' (first|refine ru_seq ?_|refine ru_reg ?_|refine is_mv rfl ?_|refine is_nil rfl ?_|refine rk_seq ?_|refine is_lenM rfl ?_|(refine is_eql rfl rfl (fun _=>?_) (fun _=>?_)<;>try (exfalso;omega))|refine ru_iteT rfl ?_|refine ru_iteF rfl ?_|refine is_buildO rfl rfl rfl ?_|refine is_box rfl rfl rfl ?_|refine is_stb rfl rfl rfl rfl rfl rfl ?_|refine is_ixM rfl rfl (by omega) tr_wide (fun _ _=>?_)|refine is_ldl rfl (tr_part _) ?_|refine is_stb rfl rfl rfl (tr_seal _ _ _) (tr_put _ _) rfl ?_|refine ru_skip ?_|refine ru_ret ?_|refine rk_nil ?_|refine rk_seq_ret ?_)
  ·rename_i h
   have:l=[]:=List.length_eq_zero_iff.1 (by omega)
   subst this
   refine end_c hA (by first|exact .inl rfl|exact .inr rfl) rfl rfl rfl rfl rfl ?_
   rfl
  ·rename_i h1 t ht
   exact end_tr hA (.inr rfl) rfl rfl (by rw [len_one h1 ht])
  ·refine is_callE rfl rfl (by simp only [List.nil_append,List.append_nil,List.cons_append,weaks,hwk];rfl) (hI (by omega) _) ?_
   repeat' (first|refine is_nil rfl ?_|refine rk_seq ?_|refine is_stb rfl rfl rfl (tr_seal _ _ _) (tr_put _ _) rfl ?_|refine ru_ret ?_|refine rk_nil ?_)
   exact end_tr hA (.inr rfl) rfl rfl rfl
 | @ref lv ix ver s n _ es hg hn hlen he =>
  have hg2:=fun L=>get_old hA (ro:=false) (L:=L) hg
  have hget:=fun {i} {t}=>Sl.get (i:=i) (t:=t) hn he
  have hwi:∀ L,wIs 7 ver (St.get ⟨A,false,L⟩ lv ix)=true:=fun L=>by rw [hg2];simp [wIs]
  repeat' (first|refine ru_seq ?_|refine ru_reg ?_|refine is_mv rfl ?_|refine is_nil rfl ?_|refine rk_seq ?_|refine is_lenR rfl ?_|(refine is_eql rfl rfl (fun _=>?_) (fun _=>?_)<;>try (exfalso;omega))|refine ru_iteT rfl ?_|refine ru_iteF rfl ?_|refine is_buildO rfl rfl rfl ?_|refine is_box rfl rfl rfl ?_|refine is_stb rfl rfl rfl rfl rfl rfl ?_|refine is_ixR rfl rfl (by omega) (hwi _) ?_|refine ru_skip ?_|refine ru_ret ?_|refine rk_nil ?_|refine rk_seq_ret ?_)
  ·rename_i h
   have:l=[]:=List.length_eq_zero_iff.1 (by omega)
   subst this
   refine end_c hA (by first|exact .inl rfl|exact .inr rfl) rfl rfl rfl rfl rfl ?_
   rfl
  ·rename_i h1
   obtain ⟨t,ht⟩:∃ t,l[0]?=some t:=⟨l[0]'(by omega),by simp⟩
   refine is_ld rfl (hg2 _) (hget ht) (tr_part t) ?_
   repeat' (first|refine is_nil rfl ?_|refine rk_seq ?_|refine is_stb rfl rfl rfl (tr_seal _ _ _) (tr_put _ _) rfl ?_|refine ru_ret ?_|refine rk_nil ?_|refine rk_seq_ret ?_)
   exact end_tr hA (.inr rfl) rfl rfl (by rw [len_one (by omega) ht])
  ·refine is_callE rfl rfl rfl (hI (by omega) _) ?_
   repeat' (first|refine is_nil rfl ?_|refine rk_seq ?_|refine is_stb rfl rfl rfl (tr_seal _ _ _) (tr_put _ _) rfl ?_|refine ru_ret ?_|refine rk_nil ?_)
   exact end_tr hA (.inr rfl) rfl rfl rfl
theorem refZero_empty (t:Tr) (ht:IsEmpty t) (st:St):S Tb F_quartoref15_Zero [t.av] st=some (.bool true,st):=by
 obtain ⟨o,h,m,s,k⟩:=t
 obtain ⟨h1,h2,h3,h4,h5⟩:=ht
 simp only [Tr.old,Tr.h,Tr.m,Tr.text,Tr.ks] at h1 h2 h3 h4 h5
 subst h1 h2 h3 h4
 refine s_of rfl (fun A hA=>?_)
 cases k with
 | none =>
  repeat' (first|refine ru_seq ?_|refine ru_reg ?_|refine is_mv rfl ?_|refine is_fadr rfl rfl ?_|refine is_ldc rfl rfl rfl rfl ?_|refine is_gT rfl ?_|refine is_pick rfl rfl rfl rfl ?_|refine is_nil rfl ?_|refine rk_seq ?_|refine is_lenN rfl ?_|(refine is_eql rfl rfl (fun _=>?_) (fun _=>?_)<;>try (exfalso;omega))|(refine is_eqlS rfl rfl (fun _=>?_) (fun _=>?_)<;>try contradiction)|refine is_buildO rfl rfl rfl ?_|refine is_eqs rfl rfl rfl rfl ?_|refine is_box rfl rfl rfl ?_|refine ru_ret ?_|refine rk_nil ?_)
  all_goals refine end_st hA (by first|exact .inl rfl|exact .inr rfl) rfl rfl rfl rfl ?_
  all_goals rfl
 | some l =>
  have:l=[]:=h5
  subst this
  repeat' (first|refine ru_seq ?_|refine ru_reg ?_|refine is_mv rfl ?_|refine is_fadr rfl rfl ?_|refine is_ldc rfl rfl rfl rfl ?_|refine is_gT rfl ?_|refine is_pick rfl rfl rfl rfl ?_|refine is_nil rfl ?_|refine rk_seq ?_|refine is_lenF rfl rfl ?_|(refine is_eql rfl rfl (fun _=>?_) (fun _=>?_)<;>try (exfalso;omega))|(refine is_eqlS rfl rfl (fun _=>?_) (fun _=>?_)<;>try contradiction)|refine is_buildO rfl rfl rfl ?_|refine is_eqs rfl rfl rfl rfl ?_|refine is_box rfl rfl rfl ?_|refine ru_ret ?_|refine rk_nil ?_)
  all_goals refine end_st hA (by first|exact .inl rfl|exact .inr rfl) rfl rfl rfl rfl ?_
  all_goals rfl
theorem refZero_leaf (t:Tr) (ht:IsLeaf t) (st:St):S Tb F_quartoref15_Zero [t.av] st=some (.bool false,st):=by
 obtain ⟨o,h,m,s,k⟩:=t
 obtain ⟨h1,h2,h3,h4,h4',h5⟩:=ht
 simp only [Tr.old,Tr.h,Tr.m,Tr.text,Tr.ks] at h1 h2 h3 h4 h4' h5
 subst h1 h2 h3
 have hs:s≠[]:=fun q=>by rw [q] at h4;simp at h4
 refine s_of rfl (fun A hA=>?_)
 cases k with
 | none =>
  repeat' (first|refine ru_seq ?_|refine ru_reg ?_|refine is_mv rfl ?_|refine is_fadr rfl rfl ?_|refine is_ldc rfl rfl rfl rfl ?_|refine is_gT rfl ?_|refine is_gF rfl rfl ?_|refine is_pick rfl rfl rfl rfl ?_|refine is_nil rfl ?_|refine rk_seq ?_|(refine is_eql rfl rfl (fun _=>?_) (fun _=>?_)<;>try (exfalso;omega))|(refine is_eqlS rfl rfl (fun _=>?_) (fun _=>?_)<;>try contradiction)|refine is_buildO rfl rfl rfl ?_|refine is_eqs rfl rfl rfl rfl ?_|refine is_box rfl rfl rfl ?_|refine ru_ret ?_|refine rk_nil ?_)
  all_goals try contradiction
  all_goals refine end_st hA (by first|exact .inl rfl|exact .inr rfl) rfl rfl rfl rfl ?_
  all_goals rfl
 | some l =>
  have:l=[]:=h5
  subst this
  repeat' (first|refine ru_seq ?_|refine ru_reg ?_|refine is_mv rfl ?_|refine is_fadr rfl rfl ?_|refine is_ldc rfl rfl rfl rfl ?_|refine is_gT rfl ?_|refine is_gF rfl rfl ?_|refine is_pick rfl rfl rfl rfl ?_|refine is_nil rfl ?_|refine rk_seq ?_|(refine is_eql rfl rfl (fun _=>?_) (fun _=>?_)<;>try (exfalso;omega))|(refine is_eqlS rfl rfl (fun _=>?_) (fun _=>?_)<;>try contradiction)|refine is_buildO rfl rfl rfl ?_|refine is_eqs rfl rfl rfl rfl ?_|refine is_box rfl rfl rfl ?_|refine ru_ret ?_|refine rk_nil ?_)
  all_goals try contradiction
  all_goals refine end_st hA (by first|exact .inl rfl|exact .inr rfl) rfl rfl rfl rfl ?_
  all_goals rfl
theorem refZero_inner (t:Tr) (ht:IsInner t) (st:St):S Tb F_quartoref15_Zero [t.av] st=some (.bool false,st):=by
 obtain ⟨o,h,m,s,k⟩:=t
 obtain ⟨h1,h2,h3,h4,h4',h5,h5'⟩:=ht
 simp only [Tr.old,Tr.h,Tr.m,Tr.text,Tr.ks] at h1 h2 h3 h4 h4' h5 h5'
 subst h1 h2 h3
 refine s_of rfl (fun A hA=>?_)
 cases k with
 | none=>simp at h5
 | some l =>
  simp only [Option.getD] at *
  rw [Tr.av,Tr.avO_sl]
  simp only [slV]
  repeat' (first|refine ru_seq ?_|refine ru_reg ?_|refine is_mv rfl ?_|refine is_fadr rfl rfl ?_|refine is_ldc rfl rfl rfl rfl ?_|refine is_gT rfl ?_|refine is_gF rfl rfl ?_|refine is_pick rfl rfl rfl rfl ?_|refine is_nil rfl ?_|refine rk_seq ?_|(refine is_eql rfl rfl (fun _=>?_) (fun _=>?_)<;>try (exfalso;omega))|refine is_box rfl rfl rfl ?_|refine ru_ret ?_|refine rk_nil ?_)
  all_goals try contradiction
  all_goals try (exfalso;omega)
  all_goals refine end_st hA (by first|exact .inl rfl|exact .inr rfl) rfl rfl rfl rfl ?_
  all_goals rfl
theorem lawMeasure_c (s:List UInt8) (hs:s.length<4294967296) (st:St):S Tb F_quartolaw15_Measure [.str s] st=some ((meaT s).av,st):=by
 refine s_of rfl (fun A hA=>?_)
 repeat' (first|refine ru_seq ?_|refine ru_reg ?_|refine is_mv rfl ?_|refine is_nil rfl ?_|refine rk_seq ?_|refine is_lenS rfl ?_|refine is_buildO rfl rfl rfl ?_|refine is_box rfl rfl rfl ?_|refine is_stb rfl rfl rfl rfl rfl rfl ?_|refine ru_block ?_)
 refine ru_loopP (α:=Nat) (fun i=>[(0,.str s),(2,.ptr A.length 0 0 0 0),(3,.ptr A.length 1 0 0 0),(4,.int .i64 i)])
  (fun i=>⟨A,false,[.arr 3 0 [.agg [.int .i64 0,.int .i64 0,.int .i64 0]],.arr 3 0 [.agg [.int .i64 s.length,.int .i64 ((s.take i).countP beginsB),.int .i64 ((s.take i).countP feedsB)]]]⟩) (fun i=>i≤s.length) (fun i=>s.length-i) 0 rfl rfl (Nat.zero_le _) ?_
 intro i hi
 repeat' (first|refine ru_seq ?_|refine ru_reg ?_|refine is_mv rfl ?_|refine is_ldc rfl rfl rfl rfl ?_|refine is_nil rfl ?_|refine rk_seq ?_|refine is_lenS rfl ?_|(refine is_lss rfl rfl (fun _=>?_) (fun _=>?_)<;>try (exfalso;omega))|refine ru_iteT rfl ?_|refine ru_iteF rfl ?_|refine is_stb rfl rfl rfl rfl rfl rfl ?_|refine ru_skip ?_|refine ru_ret ?_|refine ru_exit ?_|refine ru_block ?_|refine rk_nil ?_|refine rk_seq_ex ?_|refine rk_blk_eq rfl ?_|refine rk_inv_ex ?_)
 ·rename_i hlt
  obtain ⟨b,hb,ht⟩:=getB (s:=s) (i:=i) (by omega)
  have hc:=List.countP_le_length (p:=beginsB) (l:=s.take i)
  have hc2:=List.countP_le_length (p:=feedsB) (l:=s.take i)
  have hl:=List.length_take_le i s
  have hb2:s[(i:Int).toNat]?=some b:=by simpa using hb
  have e1:((s.take (i+1)).countP beginsB)=(s.take i).countP beginsB+(if beginsB b then 1 else 0):=by
   rw [ht,List.countP_append];simp [List.countP_cons]
  have e2:((s.take (i+1)).countP feedsB)=(s.take i).countP feedsB+(if feedsB b then 1 else 0):=by
   rw [ht,List.countP_append];simp [List.countP_cons]
  have fin:∀ x y:Int,x=((s.take (i+1)).countP beginsB:Nat)→y=((s.take (i+1)).countP feedsB:Nat)→∃ c:Nat,([(0,AV.str s),(2,.ptr A.length 0 0 0 0),(3,.ptr A.length 1 0 0 0),(4,.int .i64 ((i:Int)+1))]=[(0,AV.str s),(2,.ptr A.length 0 0 0 0),(3,.ptr A.length 1 0 0 0),(4,.int .i64 c)] ∧
   (⟨A,false,[.arr 3 0 [.agg [.int .i64 0,.int .i64 0,.int .i64 0]],.arr 3 0 [.agg [.int .i64 s.length,.int .i64 x,.int .i64 y]]]⟩:St)=⟨A,false,[.arr 3 0 [.agg [.int .i64 0,.int .i64 0,.int .i64 0]],.arr 3 0 [.agg [.int .i64 s.length,.int .i64 ((s.take c).countP beginsB),.int .i64 ((s.take c).countP feedsB)]]]⟩)∧c≤s.length∧s.length-c<s.length-i:=by
   intro x y hx hy
   subst hx hy
   exact ⟨i+1,⟨rfl,rfl⟩,by omega,by omega⟩
  have hbb:beginsB b=(decide ((b.toNat:Int)<128) || decide ((192:Int)≤b.toNat)):=by unfold beginsB;rw [Bool.eq_iff_iff];simp<;>omega
  have hfb:feedsB b=decide ((b.toNat:Int)=10):=by unfold feedsB;rw [Bool.eq_iff_iff];simp<;>omega
  rw [hbb] at e1
  rw [hfb] at e2
  simp only [Bool.or_eq_true,decide_eq_true_eq] at e1 e2
  repeat' (first|refine ru_seq ?_|refine ru_reg ?_|refine is_mv rfl ?_|refine is_fadr rfl rfl ?_|refine is_ldc rfl rfl rfl rfl ?_|refine is_gT rfl ?_|refine is_gF rfl rfl ?_|refine is_pick rfl rfl rfl rfl ?_|refine is_nil rfl ?_|refine rk_seq ?_|(refine is_lss rfl rfl (fun _=>?_) (fun _=>?_)<;>try (exfalso;omega))|(refine is_geq rfl rfl (fun _=>?_) (fun _=>?_)<;>try (exfalso;omega))|(refine is_eql rfl rfl (fun _=>?_) (fun _=>?_)<;>try (exfalso;omega))|refine ru_iteT rfl ?_|refine ru_iteF rfl ?_|refine is_addS rfl rfl (by omega) ?_|refine is_stb rfl rfl rfl rfl rfl rfl ?_|refine is_ixStr rfl rfl (by omega) hb2 ?_|refine ru_skip ?_|refine rk_blk ?_|refine rk_inv ?_)
  all_goals refine fin _ _ ?_ ?_
  all_goals first|(rw [e1];split<;>omega)|(rw [e2];split<;>omega)
 ·have hi':i=s.length:=by omega
  subst hi'
  rw [List.take_length]
  refine end_c hA (by first|exact .inl rfl|exact .inr rfl) rfl rfl rfl rfl rfl ?_
  rfl
end Go.Q15
namespace Go.Q15
open Go Go.QAbs
set_option maxRecDepth 100000
set_option maxHeartbeats 8000000
theorem builtLoop {N:Nodes} (hN:GoodN N) {A:List (Bool × List Blk)} {k:List Fr} {Q:Post} {s:List UInt8} (hs:s.length≤65536) (B:Blk) (row:List Tr) (n:Nat) (r:List Tr) (hrow:Row N row 0 s) (hn:row.length≤n+1) (h64:row.length≤65536) (hr:buildR n row=r)
 (hex:∀ (G:List Blk) (ver:Nat),Rk (S Tb) k Q (.ex 2) [(2,.ptr A.length 0 0 0 0),(3,.ref A.length (B::G).length ver 0 r.length),(27,.bool false)] ⟨A,false,B::G++[.arr 7 ver (r.map Tr.av)]⟩) (ver:Nat) (ex:Env) :
 Ru (S Tb) (.loop p_quartoref15_Built_18) k Q ((2,.ptr A.length 0 0 0 0)::(3,.ref A.length 1 ver 0 row.length)::ex) ⟨A,false,[B,.arr 7 ver (row.map Tr.av)]⟩:=by
 refine ru_loopP (α:=List Tr × List Blk × Nat × Env) (fun p=>(2,.ptr A.length 0 0 0 0)::(3,.ref A.length (B::p.2.1).length p.2.2.1 0 p.1.length)::p.2.2.2) (fun p=>⟨A,false,B::p.2.1++[.arr 7 p.2.2.1 (p.1.map Tr.av)]⟩)
  (fun p=>p.1.length≤65536∧∃ k h,p.1.length≤k+1∧Row N p.1 h s∧buildR k p.1=r) (fun p=>p.1.length) (row,[],ver,ex) rfl rfl ⟨h64,n,0,hn,hrow,hr⟩ ?_
 rintro ⟨row,G,ver,ex⟩ ⟨h64,kk,h,hk,hR,hb⟩
 simp only at h64 hk hR hb ⊢
 repeat' (first|refine ru_seq ?_|refine ru_reg ?_|refine is_mv rfl ?_|refine is_nil rfl ?_|refine rk_seq ?_|refine is_lenR rfl ?_|(refine is_gtr rfl rfl (fun _=>?_) (fun _=>?_)<;>try (exfalso;omega))|refine ru_iteT rfl ?_|refine ru_iteF rfl ?_|refine is_onilG ?_|refine ru_skip ?_|refine ru_exit ?_|refine ru_block ?_|refine rk_seq_ex ?_|refine rk_inv_ex ?_)
 ·rename_i hgt
  have hgt2:2≤row.length:=by omega
  obtain ⟨kk,rfl⟩:∃ j,kk=j+1:=⟨kk-1,by omega⟩
  rw [buildR,if_neg (by omega)] at hb
  have hh:h+1≤16:=by
   match row,hgt2,hR with
   | t::r,_,hR =>
    have h1:=(hR.val t (by simp))
    have h3:=txt_len hN h1.1
    have h4:(t.txt N).length≤s.length:=by rw [← hR.txt,Tr.txtL,List.length_append];omega
    have:=h1.1.height hN (by omega)
    omega
  obtain ⟨u1,u2,u3⟩:=rowUp_ok hR hgt2 hh
  refine is_callE rfl rfl rfl (refSizes_c row.length 4 _ (by omega) (by omega)) ?_
  have hg:=groupsI_pos (n:=row.length) (most:=4) (by omega) (by omega)
  have hg4:groupsI row.length 4=((row.length:Int)-1) / 4+1:=rfl
  have hget:=fun i hi=>sizesI_get (n:=row.length) (m:=4) (by omega) (i:=i) hi
  have hlen:=sizesI_len (n:=row.length) (m:=4) (by omega)
  have hpb:=fun (i:Nat) hi=>posI_bounds (n:=row.length) (g:=groupsI row.length 4) (by omega) (by omega) (i:=i) hi
  have hps:=posI_succ row.length (groupsI row.length 4)
  have hp0:=posI_zero row.length (groupsI row.length 4) (by omega)
  have hsn:=sizeI_nonneg (n:=row.length) (g:=groupsI row.length 4) (by omega) (by omega)
  have hsz:∀ i,i<(groupsI row.length 4).toNat→2≤(partI row (groupsI row.length 4) i).length:=by
   intro i hi
   have h1:=part_len row hg.1 hi
   have h2:=size_bounds (n:=row.length) (m:=4) (by omega) (by omega) (i:=i)
   have h3:2≤(row.length:Int) / groupsI row.length 4:=by
    rw [Int.le_ediv_iff_mul_le (by omega)];omega
   omega
  have hrl:(rowUp row).length=(groupsI row.length 4).toNat:=by unfold rowUp;simp
  have hrg:∀ i,i<(groupsI row.length 4).toNat→(rowUp row)[i]?=some (grp (partI row (groupsI row.length 4) i)):=by
   intro i hi
   unfold rowUp
   rw [List.getElem?_map,List.getElem?_range hi];rfl
  have hpl:=fun i hi=>part_len row (g:=groupsI row.length 4) hg.1 (i:=i) hi
  have hpe:∀ i,partI row (groupsI row.length 4) i=(row.drop (posI row.length (groupsI row.length 4) i).toNat).take (sizeI row.length (groupsI row.length 4) i).toNat:=fun _=>rfl
  generalize sizesI (row.length:Int) 4=z at *
  generalize groupsI (row.length:Int) 4=g at *
  generalize rowUp row=up at *
  have hh2:∀ u∈row,u.h≤65536:=fun u hu=>by have:=(hR.val u hu).1.h16;omega
  repeat' (first|refine ru_seq ?_|refine ru_reg ?_|refine is_mv rfl ?_|refine is_nil rfl ?_|refine rk_seq ?_|refine ru_block ?_)
  all_goals try (exfalso;omega)
  refine ru_loopP (α:=Nat) (fun i=>[(2,.ptr A.length 0 0 0 0),(3,.ref A.length (B::G).length ver (posI row.length g i).toNat (row.length-(posI row.length g i).toNat)),(6,.ref A.length ((B::G).length+1) i 0 i),(7,intsV z),(8,.int .i64 i)])
   (fun i=>⟨A,false,B::G++[.arr 7 ver (row.map Tr.av),.arr 7 i ((up.take i).map Tr.av)]⟩) (fun i=>i≤z.length) (fun i=>z.length-i) 0 ?_ ?_ (Nat.zero_le _) ?_
  ·simp [hp0]
  ·simp
  intro i hi
  repeat' (first|refine ru_seq ?_|refine ru_reg ?_|refine is_mv rfl ?_|refine is_nil rfl ?_|refine rk_seq ?_|refine is_lenM rfl ?_|refine is_ldl rfl rfl ?_|refine is_ixM rfl rfl (by omega) (fun _=>rfl) (fun _ _=>?_)|(refine is_lss rfl rfl (fun _=>?_) (fun _=>?_)<;>try (exfalso;omega))|refine ru_iteT rfl ?_|refine ru_iteF rfl ?_|refine ru_skip ?_|refine ru_exit ?_|refine ru_block ?_|refine rk_seq_ex ?_|refine rk_blk ?_|refine rk_blk_eq rfl ?_|refine rk_inv ?_|refine rk_inv_ex ?_)
  ·rename_i hlt x hx
   have hi2:i<g.toNat:=by omega
   have hx2:z[i]?=some x:=hx
   rw [hget i hi2] at hx2
   have hx3:=Option.some.inj hx2
   subst hx3
   have hb0:=hpb i (by omega)
   have hb1:=hpb (i+1) (by omega)
   rw [hps i] at hb1
   have hs0:=hsn i
   have hpl2:=hpl i hi2
   have hrg2:=hrg i hi2
   have hpe2:=hpe i
   have hps2:=hps i
   have hsz2:=hsz i hi2
   generalize posI (row.length:Int) g i=p at *
   generalize sizeI (row.length:Int) g i=q at *
   generalize partI row g i=part at *
   have hgetL:∀ b:Blk,(B::G++[.arr 7 ver (row.map Tr.av),b])[(B::G).length]?=some (.arr 7 ver (row.map Tr.av)):=fun b=>get_at _ _ _
   have hwi:wIs 7 ver (St.get ⟨A,false,B::G++[.arr 7 ver (row.map Tr.av),.arr 7 i ((up.take i).map Tr.av)]⟩ A.length (B::G).length)=true:=by
    rw [St.get_cur,hgetL];simp [vis,wIs]
   refine is_slcR_hi rfl rfl (by omega) hwi ?_
   have hSl:Sl ⟨A,false,B::G++[.arr 7 ver (row.map Tr.av),.arr 7 i ((up.take i).map Tr.av)]⟩ (.ref A.length (B::G).length ver p.toNat q.toNat) part:=by
    refine .ref (es:=row.map Tr.av) (by rw [St.get_cur,hgetL];rfl) (by omega) (by rw [List.length_map];omega) ?_
    rw [hpe2,← List.map_drop,← List.map_take]
   refine is_callE rfl rfl rfl (refInner_c hsz2 (by omega) (fun u hu=>hh2 u (by rw [hpe2] at hu;exact List.mem_of_mem_drop (List.mem_of_mem_take hu))) hSl) ?_
   have hti:(up.take i).length=i:=by rw [List.length_take];omega
   refine is_bslTr1 rfl ?_
   refine is_app1G rfl rfl (get_at1 _ _ _ _) hti.symm (by omega) ?_
   rw [set_at1]
   have htk:=take_succ_get hrg2
   rw [← htk]
   repeat' (first|refine ru_reg ?_|refine is_mv rfl ?_|refine is_nil rfl ?_|refine rk_seq ?_|refine is_ldl rfl rfl ?_|refine is_ixM rfl rfl (by omega) (fun _=>rfl) (fun _ _=>?_))
   rename_i y hy
   have hy2:z[(i:Int).toNat]?=some y:=hy
   rw [hx] at hy2
   have hy3:=Option.some.inj hy2
   subst hy3
   have hwi2:wIs 7 ver (St.get ⟨A,false,B::G++[.arr 7 ver (row.map Tr.av),.arr 7 (i+1) ((up.take (i+1)).map Tr.av)]⟩ A.length (B::G).length)=true:=by
    rw [St.get_cur,hgetL];simp [vis,wIs]
   refine is_slcR_lo rfl rfl (by omega) hwi2 ?_
   repeat' (first|refine ru_reg ?_|refine is_mv rfl ?_|refine is_nil rfl ?_|refine rk_seq ?_|refine is_addS rfl rfl (by omega) ?_|refine rk_blk ?_|refine rk_inv ?_)
   refine ⟨i+1,⟨?_,rfl⟩,by omega,by omega⟩
   rw [show p.toNat+q.toNat=(p+q).toNat by omega,show row.length-p.toNat-q.toNat=row.length-(p+q).toNat by omega]
   simp only [hps2]
   rfl
  ·have hi2:i=up.length:=by omega
   subst hi2
   rw [List.take_length]
   refine ⟨(up,G++[.arr 7 ver (row.map Tr.av)],up.length,[]),⟨?_,?_⟩,⟨by simp only;omega,kk,h+1,by simp only;omega,u1,hb⟩,by simp only;omega⟩
   ·simp
   ·simp
 ·have hrr : buildR kk row = row := by
   cases kk with
   | zero=>rfl
   | succ j=>rw [buildR,if_pos (by omega)]
  rw [hrr] at hb
  subst hb
  exact hex G ver
theorem refBuilt_c {N:Nodes} (hN:GoodN N) (s:List UInt8) (hs:s.length≤65536) (st:St):S Tb F_quartoref15_Built [.str s] st=some ((buildM s).av,st):=by
 refine s_of rfl (fun A hA=>?_)
 have hcl:=chunksL_len s
 have hch:=fun st=>refChunks_c s st (by omega)
 obtain ⟨ra,rb,rc⟩:=leafRow_ok (N:=N) s
 obtain ⟨h',rd,re,rf⟩:=buildR_ok hN s.length _ 0 s ra (by omega) hs
 unfold buildM
 generalize hres:buildR s.length ((chunksL s).map leafT)=r at *
 have hG:=fun {v:AV} {st:St} (hv:Sl st v r)=>refGroup_c (by omega) (fun u hu=>by have:=(rd.val u hu).1.h16;omega) hv
 have hlen:((chunksL s).map leafT).length=(chunksL s).length:=by simp
 generalize hc:chunksL s=c at *
 unfold strsV at hch
 repeat' (first|refine ru_seq ?_|refine ru_reg ?_|refine is_mv rfl ?_|refine is_nil rfl ?_|refine rk_seq ?_|refine is_box rfl rfl rfl ?_|refine is_onil rfl ?_|refine is_callE rfl rfl (by first|rfl|(simp only [List.nil_append,List.append_nil,List.cons_append,weaks,tr_weak,forceL];first|done|rfl)) (hch _) ?_|refine ru_block ?_)
 all_goals try (exfalso;omega)
 refine ru_loopP (α:=Nat) (fun i=>[(2,.ptr A.length 0 0 0 0),(3,.ref A.length 1 i 0 i),(4,.lit (c.map .str)),(5,.int .i64 i)])
  (fun i=>⟨A,false,[.arr 7 0 [trZ],.arr 7 i (((c.take i).map leafT).map Tr.av)]⟩) (fun i=>i≤c.length) (fun i=>c.length-i) 0 rfl rfl (by simp) ?_
 rintro i hi
 repeat' (first|refine ru_seq ?_|refine ru_reg ?_|refine is_mv rfl ?_|refine is_nil rfl ?_|refine rk_seq ?_|refine is_lenM rfl ?_|refine is_ldl rfl rfl ?_|refine is_ixM rfl rfl (by omega) (fun _=>rfl) (fun _ _=>?_)|(refine is_lss rfl rfl (fun _=>?_) (fun _=>?_)<;>try (exfalso;omega))|refine ru_iteT rfl ?_|refine ru_iteF rfl ?_|refine ru_skip ?_|refine ru_exit ?_|refine ru_block ?_|refine rk_seq_ex ?_|refine rk_blk_eq rfl ?_|refine rk_inv_ex ?_)
 ·rename_i x hx
  have hx2:c[i]?=some x:=hx
  have hlen2:((c.take i).map leafT).length=i:=by rw [List.length_map,List.length_take];omega
  refine is_callE rfl rfl rfl (refLeaf_c x _) ?_
  repeat' (first|refine ru_reg ?_|refine is_mv rfl ?_|refine is_nil rfl ?_|refine rk_seq ?_|refine is_addS rfl rfl (by omega) ?_|refine is_bslFO rfl rfl rfl rfl ?_|refine is_app1 rfl rfl rfl (by first|rfl|(simp;done)|(simp;omega)) (by first|omega|(simp<;>omega)) (by decide) rfl rfl rfl ?_|refine rk_blk ?_|refine rk_inv ?_)
  refine ⟨i+1,⟨rfl,?_⟩,by omega,by omega⟩
  simp only [take_succ_get hx2,List.map_append,List.map_cons,List.map_nil]
  rfl
 ·have hi':i=c.length:=by omega
  subst hi'
  rw [List.take_length]
  have:=builtLoop hN hs (A:=A) (.arr 7 0 [trZ]) (c.map leafT) s.length r ra (by omega) (by omega) hres (k:=[.blk 2,.seq (.seq p_quartoref15_Built_19 .ret)]) (Q:=fun x e st'=>endK false [.c 2 true 7] (x,e,st')=some ((grp r).av,st)) (fun G ver=>?_) c.length [(4,.lit (c.map .str)),(5,.int .i64 c.length),(14,.bool false)]
  ·rw [List.length_map] at this
   exact this
  ·repeat' (first|refine ru_seq ?_|refine ru_reg ?_|refine is_mv rfl ?_|refine is_nil rfl ?_|refine rk_seq ?_|refine is_stn rfl rfl rfl rfl (tr_seal _ _ _) (tr_put _ _) ?_|refine is_callE rfl rfl (by first|rfl|(simp only [List.nil_append,List.append_nil,List.cons_append,weaks,tr_weak,forceL];first|done|rfl)) (hG (Sl.cur (get_at _ _ _) rfl)) ?_|refine ru_ret ?_|refine rk_nil ?_|refine rk_blk_eq rfl ?_)
   exact end_tr hA (.inr rfl) rfl rfl rfl
end Go.Q15
namespace Go.Q15
open Go Go.QAbs
set_option maxRecDepth 100000
set_option maxHeartbeats 8000000
theorem refCont_c (b:UInt8) (st:St):S Tb F_quartoref01_Cont [.int .u8 b.toNat] st=some (.bool (!beginsB b),st):=by
 refine s_of rfl (fun A hA=>?_)
 repeat' (first|refine ru_seq ?_|refine ru_reg ?_|refine is_mv rfl ?_|refine is_gT rfl ?_|refine is_gF rfl rfl ?_|refine is_pick rfl rfl rfl rfl ?_|refine is_nil rfl ?_|refine rk_seq ?_|(refine is_lss rfl rfl (fun _=>?_) (fun _=>?_)<;>try (exfalso;omega))|(refine is_geq rfl rfl (fun _=>?_) (fun _=>?_)<;>try (exfalso;omega))|refine ru_ret ?_|refine rk_nil ?_)
 all_goals refine end_st hA (by first|exact .inl rfl|exact .inr rfl) rfl rfl rfl rfl ?_
 all_goals (unfold beginsB;simp;omega)
theorem refCount_c (s:List UInt8) (hs:s.length<4294967296) (st:St):S Tb F_quartoref01_Count [.str s] st=some (.int .i64 (s.countP beginsB),st):=by
 refine s_of rfl (fun A hA=>?_)
 repeat' (first|refine ru_seq ?_|refine ru_reg ?_|refine is_mv rfl ?_|refine is_nil rfl ?_|refine rk_seq ?_|refine ru_block ?_)
 refine ru_loopP (α:=Nat) (fun i=>[(0,.str s),(3,.int .i64 ((s.take i).countP beginsB)),(4,.int .i64 i)])
  (fun i=>⟨A,false,[]⟩) (fun i=>i≤s.length) (fun i=>s.length-i) 0 rfl rfl (Nat.zero_le _) ?_
 intro i hi
 repeat' (first|refine ru_seq ?_|refine ru_reg ?_|refine is_mv rfl ?_|refine is_nil rfl ?_|refine rk_seq ?_|refine is_lenS rfl ?_|(refine is_lss rfl rfl (fun _=>?_) (fun _=>?_)<;>try (exfalso;omega))|refine ru_iteT rfl ?_|refine ru_iteF rfl ?_|refine ru_skip ?_|refine ru_ret ?_|refine ru_exit ?_|refine ru_block ?_|refine rk_nil ?_|refine rk_seq_ex ?_|refine rk_blk_eq rfl ?_|refine rk_inv_ex ?_)
 ·rename_i hlt
  obtain ⟨b,hb,ht⟩:=getB (s:=s) (i:=i) (by omega)
  have hc:=List.countP_le_length (p:=beginsB) (l:=s.take i)
  have hl:=List.length_take_le i s
  have hC:=refCont_c b
  refine is_ixStr rfl rfl (by omega) (by simpa using hb) ?_
  cases hp:beginsB b
  ·rw [hp] at hC
   repeat' (first|refine ru_reg ?_|refine is_mv rfl ?_|refine is_nil rfl ?_|refine rk_seq ?_|refine ru_iteF rfl ?_|refine is_not rfl rfl ?_|refine is_addS rfl rfl (by omega) ?_|refine is_callE rfl rfl rfl (hC _) ?_|refine ru_skip ?_|refine rk_blk ?_|refine rk_inv ?_)
   refine ⟨i+1,⟨?_,rfl⟩,by omega,by omega⟩
   rw [ht,List.countP_append];simp [hp]
  ·rw [hp] at hC
   repeat' (first|refine ru_reg ?_|refine is_mv rfl ?_|refine is_nil rfl ?_|refine rk_seq ?_|refine ru_iteT rfl ?_|refine is_not rfl rfl ?_|refine is_addS rfl rfl (by omega) ?_|refine is_callE rfl rfl rfl (hC _) ?_|refine rk_blk ?_|refine rk_inv ?_)
   refine ⟨i+1,⟨?_,rfl⟩,by omega,by omega⟩
   rw [ht,List.countP_append];simp [hp]
 ·refine end_st hA (by first|exact .inl rfl|exact .inr rfl) rfl rfl rfl rfl ?_
  rw [List.take_of_length_le (by omega)]
theorem refOf_c (s:List UInt8) (hs:s.length<4294967296) (st:St):S Tb F_quartoref02_Of [.str s] st=some ((meaT s).av,st):=by
 refine s_of rfl (fun A hA=>?_)
 have hC:=refCount_c s hs
 repeat' (first|refine ru_seq ?_|refine ru_reg ?_|refine is_mv rfl ?_|refine is_nil rfl ?_|refine rk_seq ?_|refine is_lenS rfl ?_|refine is_buildO rfl rfl rfl ?_|refine is_box rfl rfl rfl ?_|refine is_stb rfl rfl rfl rfl rfl rfl ?_|refine is_callE rfl rfl rfl (hC _) ?_|refine ru_block ?_)
 refine ru_loopP (α:=Nat) (fun i=>[(0,.str s),(2,.ptr A.length 0 0 0 0),(3,.ptr A.length 1 0 0 0),(4,.int .i64 i)])
  (fun i=>⟨A,false,[.arr 3 0 [.agg [.int .i64 0,.int .i64 0,.int .i64 0]],.arr 3 0 [.agg [.int .i64 s.length,.int .i64 (s.countP beginsB),.int .i64 ((s.take i).countP feedsB)]]]⟩) (fun i=>i≤s.length) (fun i=>s.length-i) 0 rfl rfl (Nat.zero_le _) ?_
 intro i hi
 repeat' (first|refine ru_seq ?_|refine ru_reg ?_|refine is_mv rfl ?_|refine is_ldc rfl rfl rfl rfl ?_|refine is_nil rfl ?_|refine rk_seq ?_|refine is_lenS rfl ?_|(refine is_lss rfl rfl (fun _=>?_) (fun _=>?_)<;>try (exfalso;omega))|refine ru_iteT rfl ?_|refine ru_iteF rfl ?_|refine is_stb rfl rfl rfl rfl rfl rfl ?_|refine ru_skip ?_|refine ru_ret ?_|refine ru_exit ?_|refine ru_block ?_|refine rk_nil ?_|refine rk_seq_ex ?_|refine rk_blk_eq rfl ?_|refine rk_inv_ex ?_)
 ·rename_i hlt
  obtain ⟨b,hb,ht⟩:=getB (s:=s) (i:=i) (by omega)
  have hc2:=List.countP_le_length (p:=feedsB) (l:=s.take i)
  have hl:=List.length_take_le i s
  have hb2:s[(i:Int).toNat]?=some b:=by simpa using hb
  have e2:((s.take (i+1)).countP feedsB)=(s.take i).countP feedsB+(if feedsB b then 1 else 0):=by
   rw [ht,List.countP_append];simp [List.countP_cons]
  have fin:∀ y:Int,y=((s.take (i+1)).countP feedsB:Nat)→∃ c:Nat,([(0,AV.str s),(2,.ptr A.length 0 0 0 0),(3,.ptr A.length 1 0 0 0),(4,.int .i64 ((i:Int)+1))]=[(0,AV.str s),(2,.ptr A.length 0 0 0 0),(3,.ptr A.length 1 0 0 0),(4,.int .i64 c)] ∧
   (⟨A,false,[.arr 3 0 [.agg [.int .i64 0,.int .i64 0,.int .i64 0]],.arr 3 0 [.agg [.int .i64 s.length,.int .i64 (s.countP beginsB),.int .i64 y]]]⟩:St)=⟨A,false,[.arr 3 0 [.agg [.int .i64 0,.int .i64 0,.int .i64 0]],.arr 3 0 [.agg [.int .i64 s.length,.int .i64 (s.countP beginsB),.int .i64 ((s.take c).countP feedsB)]]]⟩)∧c≤s.length∧s.length-c<s.length-i:=by
   intro y hy
   subst hy
   exact ⟨i+1,⟨rfl,rfl⟩,by omega,by omega⟩
  have hfb:feedsB b=decide ((b.toNat:Int)=10):=by unfold feedsB;rw [Bool.eq_iff_iff];simp<;>omega
  rw [hfb] at e2
  simp only [decide_eq_true_eq] at e2
  repeat' (first|refine ru_reg ?_|refine is_mv rfl ?_|refine is_fadr rfl rfl ?_|refine is_ldc rfl rfl rfl rfl ?_|refine is_nil rfl ?_|refine rk_seq ?_|(refine is_eql rfl rfl (fun _=>?_) (fun _=>?_)<;>try (exfalso;omega))|refine ru_iteT rfl ?_|refine ru_iteF rfl ?_|refine is_addS rfl rfl (by omega) ?_|refine is_stb rfl rfl rfl rfl rfl rfl ?_|refine is_ixStr rfl rfl (by omega) hb2 ?_|refine ru_skip ?_|refine rk_blk ?_|refine rk_inv ?_)
  all_goals refine fin _ ?_
  all_goals (rw [e2];split<;>omega)
 ·have hi':i=s.length:=by omega
  subst hi'
  rw [List.take_length]
  refine end_c hA (by first|exact .inl rfl|exact .inr rfl) rfl rfl rfl rfl rfl ?_
  rfl
end Go.Q15
namespace Go.Q15
open Go Go.QAbs
set_option maxRecDepth 100000
set_option maxHeartbeats 8000000
section
variable {O:Orc} {k:List Fr} {Q:Post} {e:Env} {st:St} {keep:List Nat} {is:List PI} {d:Nat}
theorem is_mulU {x y:Opd} {a:Nat} {b:Nat} {c:Int} (hx:opdO e x=some (.int .u64 a)) (hy:opdO e y=some (.int .u64 c)) (hc:c=b) (hw:a*b<18446744073709551616) (h:Is O is keep k Q ((d,.int .u64 ((a*b:Nat):Int))::e) st):Is O (⟨some d,none,false,.bin .mul x y⟩::is) keep k Q e st:=by
 subst hc
 refine is_bin hx hy ?_ h
 show some (AV.int .u64 (IntKind.u64.wrap ((a:Int)*(b:Int))))=_
 rw [← Int.natCast_mul,wrapU64 hw]
theorem is_addU {x y:Opd} {a b:Nat} (hx:opdO e x=some (.int .u64 a)) (hy:opdO e y=some (.int .u64 b)) (hw:a+b<18446744073709551616) (h:Is O is keep k Q ((d,.int .u64 ((a+b:Nat):Int))::e) st):Is O (⟨some d,none,false,.bin .add x y⟩::is) keep k Q e st:=by
 refine is_bin hx hy ?_ h
 show some (AV.int .u64 (IntKind.u64.wrap ((a:Int)+(b:Int))))=_
 rw [← Int.natCast_add,wrapU64 hw]
theorem is_quoU {x y:Opd} {a b:Nat} {c:Int} (hx:opdO e x=some (.int .u64 a)) (hy:opdO e y=some (.int .u64 c)) (hc:c=b) (hw:a<18446744073709551616∧0<b) (h:Is O is keep k Q ((d,.int .u64 ((a / b:Nat):Int))::e) st):Is O (⟨some d,none,false,.bin .quo x y⟩::is) keep k Q e st:=by
 subst hc
 have h1:a / b≤a:=Nat.div_le_self a b
 refine is_bin hx hy ?_ h
 show (if (b:Int)=0 then none else some (AV.int .u64 (IntKind.u64.wrap ((a:Int).tdiv b))))=_
 rw [if_neg (by omega),Int.tdiv_eq_ediv_of_nonneg (by omega),← Int.natCast_ediv,wrapU64 (by omega)]
theorem is_remU {x y:Opd} {a b:Nat} {c:Int} (hx:opdO e x=some (.int .u64 a)) (hy:opdO e y=some (.int .u64 c)) (hc:c=b) (hw:0<b) (h:Is O is keep k Q ((d,.int .u64 ((a % b:Nat):Int))::e) st):Is O (⟨some d,none,false,.bin .rem x y⟩::is) keep k Q e st:=by
 subst hc
 refine is_bin hx hy ?_ h
 show (if (b:Int)=0 then none else some (AV.int .u64 ((a:Int).tmod b)))=_
 rw [if_neg (by omega),Int.tmod_eq_emod_of_nonneg (by omega),← Int.natCast_emod]
end
theorem refMake_c (s g:Nat) (hs:s<16384) (hg:1≤g∧g≤4294967295) (st:St):S Tb F_quartoref10_Make [.int .i64 s,.int .u64 g] st=some (.tup [.int .u64 ((g*65536+s:Nat):Int),.int .i64 0],st):=by
 refine s_of rfl (fun A hA=>?_)
 repeat' (first|refine ru_seq ?_|refine ru_reg ?_|refine is_mv rfl ?_|refine is_gT rfl ?_|refine is_pick rfl rfl rfl rfl ?_|refine is_nil rfl ?_|refine rk_seq ?_|(refine is_lss rfl rfl (fun _=>?_) (fun _=>?_)<;>try (exfalso;omega))|(refine is_gtr rfl rfl (fun _=>?_) (fun _=>?_)<;>try (exfalso;omega))|(refine is_geq rfl rfl (fun _=>?_) (fun _=>?_)<;>try (exfalso;omega))|refine ru_iteF rfl ?_|refine is_mulU (b:=65536) rfl rfl (by omega) (by omega) ?_|refine is_addU rfl rfl (by omega) ?_|refine is_cintW rfl (wrapU64 (by omega)) ?_|refine ru_skip ?_|refine ru_ret ?_|refine rk_nil ?_)
 all_goals try (exfalso;omega)
 all_goals refine end_st hA (by first|exact .inl rfl|exact .inr rfl) rfl rfl rfl rfl ?_
 all_goals rfl
theorem refHCheck_ok (h:Nat) (hh:handleP h) (st:St):S Tb F_quartoref10_Check [.int .u64 h] st=some (.int .i64 0,st):=by
 refine s_of rfl (fun A hA=>?_)
 have h1:=hh.1
 have h2:=hh.2
 repeat' (first|refine ru_seq ?_|refine ru_reg ?_|refine is_mv rfl ?_|refine is_gT rfl ?_|refine is_pick rfl rfl rfl rfl ?_|refine is_nil rfl ?_|refine rk_seq ?_|(refine is_lss rfl rfl (fun _=>?_) (fun _=>?_)<;>try (exfalso;omega))|(refine is_gtr rfl rfl (fun _=>?_) (fun _=>?_)<;>try (exfalso;omega))|(refine is_geq rfl rfl (fun _=>?_) (fun _=>?_)<;>try (exfalso;omega))|refine ru_iteF rfl ?_|refine is_quoU (b:=65536) rfl rfl (by omega) (by omega) ?_|refine is_remU (b:=65536) rfl rfl (by omega) (by omega) ?_|refine ru_skip ?_|refine ru_ret ?_|refine rk_nil ?_)
 all_goals try (exfalso;omega)
 all_goals refine end_st hA (by first|exact .inl rfl|exact .inr rfl) rfl rfl rfl rfl ?_
 all_goals rfl
end Go.Q15
namespace Go.Q15
open Go Go.QAbs
set_option maxRecDepth 100000
set_option maxHeartbeats 8000000
theorem refKid_c (n:Nat) (hn:n≤15) (k:Kid) (hk:KidOk n k) (st:St):S Tb F_quartoref12_kid [.int .i64 ((n+1:Nat):Int),k.av] st=some (.bool true,st):=by
 refine s_of rfl (fun A hA=>?_)
 obtain ⟨a1,b1,c1,d1,e1,f1,g1⟩:=hk
 repeat' (first|refine ru_seq ?_|refine ru_reg ?_|refine is_mv rfl ?_|refine is_nil rfl ?_|refine rk_seq ?_|refine is_box rfl rfl rfl ?_|refine ru_block ?_)
 refine ru_loopP (α:=Nat) (fun i=>[(0,.int .i64 ((n+1:Nat):Int)),(3,.ptr A.length 0 0 0 0),(5,.int .i64 (leastB i)),(6,.int .i64 (mostB i)),(7,.int .i64 ((i+1:Nat):Int))]) (fun i=>⟨A,false,[.arr 4 0 [k.av]]⟩) (fun i=>i≤n) (fun i=>n-i) 0 rfl rfl (by omega) ?_
 intro i hi
 have hl:=leastB_le (h:=i) (by omega)
 have hm:=mostB_le i
 repeat' (first|refine ru_seq ?_|refine ru_reg ?_|refine is_mv rfl ?_|refine is_fadr rfl rfl ?_|refine is_ldc rfl rfl rfl rfl ?_|refine is_nil rfl ?_|refine rk_seq ?_|(refine is_lss rfl rfl (fun _=>?_) (fun _=>?_)<;>try (exfalso;omega))|refine ru_iteT rfl ?_|refine ru_iteF rfl ?_|refine is_addS rfl rfl (by omega) ?_|refine is_mulS rfl rfl (by omega) ?_|refine is_box rfl rfl rfl ?_|refine is_stb rfl rfl rfl rfl rfl rfl ?_|refine is_mnx rfl rfl ?_|refine ru_skip ?_|refine ru_exit ?_|refine ru_block ?_|refine rk_seq_ex ?_|refine rk_blk ?_|refine rk_blk_eq rfl ?_|refine rk_inv ?_|refine rk_inv_ex ?_)
 ·refine ⟨i+1,⟨?_,rfl⟩,by omega,by omega⟩
  rw [leastB_succ]
  simp only [mostB,Bool.false_eq_true,if_false]
  rw [show ((min (mostB i*4) 65536:Nat):Int)=min ((mostB i:Int)*4) 65536 by omega]
  rfl
 ·have:i=n:=by omega
  subst this
  repeat' (first|refine is_mv rfl ?_|refine is_fadr rfl rfl ?_|refine is_ldc rfl rfl rfl rfl ?_|refine is_gT rfl ?_|refine is_pick rfl rfl rfl rfl ?_|refine is_nil rfl ?_|refine rk_seq ?_|(refine is_leq rfl rfl (fun _=>?_) (fun _=>?_)<;>try (exfalso;omega))|(refine is_geq rfl rfl (fun _=>?_) (fun _=>?_)<;>try (exfalso;omega))|(refine is_eql rfl rfl (fun _=>?_) (fun _=>?_)<;>try (exfalso;omega))|refine is_callE rfl rfl rfl (refHCheck_ok k.at_ a1 _) ?_|refine ru_ret ?_|refine rk_nil ?_)
  all_goals try (exfalso;omega)
  all_goals refine end_st hA (by first|exact .inl rfl|exact .inr rfl) rfl rfl rfl rfl ?_
  all_goals rfl
theorem refFormed_leaf (x:Nd) (h0:x.h=0) (h1:1≤x.text.length∧x.text.length≤16) (h2:x.ks=[]) (st:St):S Tb F_quartoref12_formed [x.av] st=some (.bool true,st):=by
 obtain ⟨h,text,kids⟩:=x
 simp only at h0 h1
 subst h0
 refine s_of rfl (fun A hA=>?_)
 cases kids with
 | none =>
  simp only [Nd.av,slV]
  repeat' (first|refine ru_seq ?_|refine ru_reg ?_|refine is_mv rfl ?_|refine is_fadr rfl rfl ?_|refine is_ldc rfl rfl rfl rfl ?_|refine is_gT rfl ?_|refine is_pick rfl rfl rfl rfl ?_|refine is_nil rfl ?_|refine rk_seq ?_|refine is_lenS rfl ?_|refine is_lenN rfl ?_|(refine is_leq rfl rfl (fun _=>?_) (fun _=>?_)<;>try (exfalso;omega))|(refine is_geq rfl rfl (fun _=>?_) (fun _=>?_)<;>try (exfalso;omega))|(refine is_eql rfl rfl (fun _=>?_) (fun _=>?_)<;>try (exfalso;omega))|refine ru_iteT rfl ?_|refine is_box rfl rfl rfl ?_|refine ru_ret ?_|refine rk_nil ?_|refine rk_seq_ret ?_)
  all_goals try (exfalso;omega)
  refine end_st hA (by first|exact .inl rfl|exact .inr rfl) rfl rfl rfl rfl ?_
  rfl
 | some l =>
  have:l=[]:=h2
  subst this
  simp only [Nd.av,slV]
  repeat' (first|refine ru_seq ?_|refine ru_reg ?_|refine is_mv rfl ?_|refine is_fadr rfl rfl ?_|refine is_ldc rfl rfl rfl rfl ?_|refine is_gT rfl ?_|refine is_pick rfl rfl rfl rfl ?_|refine is_nil rfl ?_|refine rk_seq ?_|refine is_lenS rfl ?_|refine is_lenF rfl rfl ?_|(refine is_leq rfl rfl (fun _=>?_) (fun _=>?_)<;>try (exfalso;omega))|(refine is_geq rfl rfl (fun _=>?_) (fun _=>?_)<;>try (exfalso;omega))|(refine is_eql rfl rfl (fun _=>?_) (fun _=>?_)<;>try (exfalso;omega))|refine ru_iteT rfl ?_|refine is_box rfl rfl rfl ?_|refine ru_ret ?_|refine rk_nil ?_|refine rk_seq_ret ?_)
  all_goals try (exfalso;omega)
  refine end_st hA (by first|exact .inl rfl|exact .inr rfl) rfl rfl rfl rfl ?_
  rfl
end Go.Q15
namespace Go.Q15
open Go Go.QAbs
set_option maxRecDepth 100000
set_option maxHeartbeats 8000000
theorem refFormed_in (n:Nat) (hn:n≤15) (ks:List Kid) (hk:2≤ks.length∧ks.length≤4) (hs:∀ k∈ks,KidOk n k) (st:St):S Tb F_quartoref12_formed [Nd.av ⟨n+1,[],some ks⟩] st=some (.bool true,st):=by
 refine s_of rfl (fun A hA=>?_)
 simp only [Nd.av,slV]
 repeat' (first|refine ru_seq ?_|refine ru_reg ?_|refine is_mv rfl ?_|refine is_fadr rfl rfl ?_|refine is_ldc rfl rfl rfl rfl ?_|refine is_gT rfl ?_|refine is_pick rfl rfl rfl rfl ?_|refine is_nil rfl ?_|refine rk_seq ?_|refine is_lenM rfl ?_|(refine is_lss rfl rfl (fun _=>?_) (fun _=>?_)<;>try (exfalso;omega))|(refine is_gtr rfl rfl (fun _=>?_) (fun _=>?_)<;>try (exfalso;omega))|(refine is_eql rfl rfl (fun _=>?_) (fun _=>?_)<;>try (exfalso;omega))|(refine is_neqS rfl rfl (fun _=>?_) (fun _=>?_)<;>try contradiction)|refine ru_iteF rfl ?_|refine is_box rfl rfl rfl ?_|refine ru_skip ?_|refine ru_block ?_)
 all_goals try (exfalso;omega)
 refine ru_loopP (α:=Nat) (fun i=>[(1,.ptr A.length 0 0 0 0),(3,.int .i64 i)]) (fun i=>⟨A,false,[.arr 3 0 [.agg [.int .i64 ↑(n+1),.str [],.lit (ks.map Kid.av)]]]⟩) (fun i=>i≤ks.length) (fun i=>ks.length-i) 0 rfl rfl (by simp) ?_
 intro i hi
 repeat' (first|refine ru_seq ?_|refine ru_reg ?_|refine is_mv rfl ?_|refine is_fadr rfl rfl ?_|refine is_ldc rfl rfl rfl rfl ?_|refine is_nil rfl ?_|refine rk_seq ?_|refine is_lenM rfl ?_|refine is_ldl rfl rfl ?_|refine is_ixM rfl rfl (by omega) (fun _=>rfl) (fun _ _=>?_)|(refine is_lss rfl rfl (fun _=>?_) (fun _=>?_)<;>try (exfalso;omega))|refine ru_iteT rfl ?_|refine ru_iteF rfl ?_|refine ru_skip ?_|refine ru_ret ?_|refine ru_exit ?_|refine ru_block ?_|refine rk_nil ?_|refine rk_seq_ex ?_|refine rk_blk_eq rfl ?_|refine rk_inv_ex ?_)
 ·rename_i k hk'
  have hK:=fun st=>refKid_c n hn k (hs k (List.mem_of_getElem? hk')) st
  repeat' (first|refine ru_reg ?_|refine is_mv rfl ?_|refine is_nil rfl ?_|refine rk_seq ?_|refine ru_iteF rfl ?_|refine is_not rfl rfl ?_|refine is_addS rfl rfl (by omega) ?_|refine is_callE rfl rfl rfl (hK _) ?_|refine ru_skip ?_|refine rk_blk ?_|refine rk_inv ?_)
  exact ⟨i+1,⟨rfl,rfl⟩,by omega,by omega⟩
 ·refine end_st hA (by first|exact .inl rfl|exact .inr rfl) rfl rfl rfl rfl ?_
  rfl
theorem refFormed_ref (n:Nat) (hn:n≤15) (ks:List Kid) (hk:2≤ks.length∧ks.length≤4) (hs:∀ k∈ks,KidOk n k) (st:St) {lv ix ver:Nat} (hr:KRef st lv ix ver ks):S Tb F_quartoref12_formed [ndR (n+1) lv ix ver ks.length] st=some (.bool true,st):=by
 refine s_of rfl (fun A hA=>?_)
 obtain ⟨es,g,ge⟩:=hr
 have gA:=fun L=>get_old hA (ro:=false) (L:=L) g
 have hwi:∀ L,wIs 4 ver (St.get ⟨A,false,L⟩ lv ix)=true:=fun L=>by rw [gA];simp [wIs]
 unfold ndR
 repeat' (first|refine ru_seq ?_|refine ru_reg ?_|refine is_mv rfl ?_|refine is_fadr rfl rfl ?_|refine is_ldc rfl rfl rfl rfl ?_|refine is_gT rfl ?_|refine is_pick rfl rfl rfl rfl ?_|refine is_nil rfl ?_|refine rk_seq ?_|refine is_lenR rfl ?_|(refine is_lss rfl rfl (fun _=>?_) (fun _=>?_)<;>try (exfalso;omega))|(refine is_gtr rfl rfl (fun _=>?_) (fun _=>?_)<;>try (exfalso;omega))|(refine is_eql rfl rfl (fun _=>?_) (fun _=>?_)<;>try (exfalso;omega))|(refine is_neqS rfl rfl (fun _=>?_) (fun _=>?_)<;>try contradiction)|refine ru_iteF rfl ?_|refine is_box rfl rfl rfl ?_|refine ru_skip ?_|refine ru_block ?_)
 all_goals try (exfalso;omega)
 refine ru_loopP (α:=Nat) (fun i=>[(1,.ptr A.length 0 0 0 0),(3,.int .i64 i)]) (fun i=>⟨A,false,[.arr 3 0 [.agg [.int .i64 ↑(n+1),.str [],.ref lv ix ver 0 ks.length]]]⟩) (fun i=>i≤ks.length) (fun i=>ks.length-i) 0 rfl rfl (by simp) ?_
 intro i hi
 repeat' (first|refine ru_seq ?_|refine ru_reg ?_|refine is_mv rfl ?_|refine is_fadr rfl rfl ?_|refine is_ldc rfl rfl rfl rfl ?_|refine is_nil rfl ?_|refine rk_seq ?_|refine is_lenR rfl ?_|(refine is_lss rfl rfl (fun _=>?_) (fun _=>?_)<;>try (exfalso;omega))|refine ru_iteT rfl ?_|refine ru_iteF rfl ?_|refine ru_skip ?_|refine ru_ret ?_|refine ru_exit ?_|refine ru_block ?_|refine rk_nil ?_|refine rk_seq_ex ?_|refine rk_blk_eq rfl ?_|refine rk_inv_ex ?_)
 ·rename_i hlt
  obtain ⟨k,hk'⟩:∃ k,ks[i]?=some k:=⟨ks[i]'(by omega),by simp [show i<ks.length by omega]⟩
  have hK:=fun st=>refKid_c n hn k (hs k (List.mem_of_getElem? hk')) st
  refine is_ixR rfl rfl (by omega) (hwi _) ?_
  refine is_ld (x:=k.av) rfl (gA _) (kid_get ge hk') rfl ?_
  repeat' (first|refine ru_reg ?_|refine is_mv rfl ?_|refine is_nil rfl ?_|refine rk_seq ?_|refine ru_iteF rfl ?_|refine is_not rfl rfl ?_|refine is_addS rfl rfl (by omega) ?_|refine is_callE rfl rfl rfl (hK _) ?_|refine ru_skip ?_|refine rk_blk ?_|refine rk_inv ?_)
  exact ⟨i+1,⟨rfl,rfl⟩,by omega,by omega⟩
 ·refine end_st hA (by first|exact .inl rfl|exact .inr rfl) rfl rfl rfl rfl ?_
  rfl
end Go.Q15
namespace Go.Q15
open Go Go.QAbs
set_option maxRecDepth 100000
set_option maxHeartbeats 8000000
theorem sum_take {ks:List Kid} (hs:∀ k∈ks,k.m.Fit 65536) (i:Nat) (hk:ks.length≤4):(sumM ((ks.take i).map Kid.m)).Fit 262144:=by
 have:=sumM_fit (l:=(ks.take i).map Kid.m) (by
  intro m hm
  obtain ⟨k,hk1,rfl⟩:=List.mem_map.1 hm
  exact hs k (List.mem_of_mem_take hk1))
 have hl:((ks.take i).map Kid.m).length≤4:=by rw [List.length_map,List.length_take];omega
 obtain ⟨a,b,c,d,e,f⟩:=this
 constructor<;>omega
theorem sum_step {ks:List Kid} {i:Nat} {k:Kid} (h:ks[i]?=some k):sumM ((ks.take (i+1)).map Kid.m)=(sumM ((ks.take i).map Kid.m)).add k.m:=by
 rw [take_succ_get h,List.map_append,sumM_append]
 simp only [List.map_cons,List.map_nil,sumM,Mea.add_zero]
theorem refSum_in (n:Nat) (ks:List Kid) (hk:ks.length≤4) (hs:∀ k∈ks,k.m.Fit 65536) (st:St):S Tb F_quartoref12_sum [Nd.av ⟨n+1,[],some ks⟩,.int .i64 ks.length] st=some ((sumM (ks.map Kid.m)).av,st):=by
 refine s_of rfl (fun A hA=>?_)
 simp only [Nd.av,slV]
 repeat' (first|refine ru_seq ?_|refine ru_reg ?_|refine is_mv rfl ?_|refine is_nil rfl ?_|refine rk_seq ?_|refine is_buildO rfl rfl rfl ?_|refine is_box rfl rfl rfl ?_|refine is_stb rfl rfl rfl rfl rfl rfl ?_|refine ru_block ?_)
 refine ru_loopP (α:=Nat × List Blk) (fun p=>[(1,.int .i64 ks.length),(2,.ptr A.length 0 0 0 0),(4,.ptr A.length 1 0 0 0),(5,.ptr A.length 2 0 0 0),(6,.int .i64 p.1)]) (fun p=>⟨A,false,.arr 3 0 [.agg [.int .i64 ↑(n+1),.str [],.lit (ks.map Kid.av)]]::.arr 3 0 [.agg [.int .i64 0,.int .i64 0,.int .i64 0]]::.arr 3 0 [(sumM ((ks.take p.1).map Kid.m)).av]::p.2⟩) (fun p=>p.1≤ks.length) (fun p=>ks.length-p.1) (0,[]) rfl rfl (by simp) ?_
 rintro ⟨i,G⟩ hi
 simp only at hi ⊢
 have hf:=sum_take hs i hk
 have he:=fun k hk=>sum_step (ks:=ks) (i:=i) (k:=k) hk
 generalize hsm:sumM ((ks.take i).map Kid.m)=sm at *
 obtain ⟨sb,sr,sl⟩:=sm
 obtain ⟨f1,f2,f3,f4,f5,f6⟩:=hf
 simp only [Mea.av] at *
 repeat' (first|refine ru_seq ?_|refine ru_reg ?_|refine is_mv rfl ?_|refine is_fadr rfl rfl ?_|refine is_ldc rfl rfl rfl rfl ?_|refine is_nil rfl ?_|refine rk_seq ?_|refine is_ldT rfl rfl rfl ?_|refine is_ldl rfl rfl ?_|refine is_ixM rfl rfl (by omega) (fun _=>rfl) (fun _ _=>?_)|(refine is_lss rfl rfl (fun _=>?_) (fun _=>?_)<;>try (exfalso;omega))|refine ru_iteT rfl ?_|refine ru_iteF rfl ?_|refine is_boxG rfl rfl rfl ?_|refine is_stT rfl rfl rfl rfl rfl rfl ?_|refine is_stn rfl rfl rfl rfl rfl rfl ?_|refine ru_skip ?_|refine ru_ret ?_|refine ru_exit ?_|refine ru_block ?_|refine rk_nil ?_|refine rk_seq_ex ?_|refine rk_blk_eq rfl ?_|refine rk_inv_ex ?_)
 ·rename_i k hk'
  have hk2:ks[i]?=some k:=hk'
  obtain ⟨g1,g2,g3,g4,g5,g6⟩:=hs k (List.mem_of_getElem? hk2)
  repeat' (first|refine ru_reg ?_|refine is_mv rfl ?_|refine is_fadr rfl rfl ?_|refine is_ldc rfl rfl rfl rfl ?_|refine is_nil rfl ?_|refine rk_seq ?_|refine is_ldT rfl rfl rfl ?_|refine is_addS rfl rfl (by omega) ?_|refine is_buildO rfl rfl rfl ?_|refine is_stn rfl rfl rfl rfl rfl rfl ?_|refine rk_blk ?_|refine rk_inv ?_)
  refine ⟨(i+1,G++[.arr 3 0 [k.m.av]]),⟨rfl,?_⟩,by simp only;omega,by simp only;omega⟩
  simp only [he k hk2]
  rfl
 ·have hi':ks.take i=ks:=List.take_of_length_le (by omega)
  rw [hi'] at hsm
  rw [hsm]
  skip
  refine end_c hA (by first|exact .inl rfl|exact .inr rfl) rfl rfl rfl rfl rfl ?_
  rfl
theorem refSum_ref (n:Nat) (ks:List Kid) (hk:ks.length≤4) (hs:∀ k∈ks,k.m.Fit 65536) (st:St) {lv ix ver:Nat} (hr:KRef st lv ix ver ks):S Tb F_quartoref12_sum [ndR (n+1) lv ix ver ks.length,.int .i64 ks.length] st=some ((sumM (ks.map Kid.m)).av,st):=by
 refine s_of rfl (fun A hA=>?_)
 obtain ⟨es,g,ge⟩:=hr
 have gA:=fun L=>get_old hA (ro:=false) (L:=L) g
 have hwi:∀ L,wIs 4 ver (St.get ⟨A,false,L⟩ lv ix)=true:=fun L=>by rw [gA];simp [wIs]
 unfold ndR
 repeat' (first|refine ru_seq ?_|refine ru_reg ?_|refine is_mv rfl ?_|refine is_nil rfl ?_|refine rk_seq ?_|refine is_buildO rfl rfl rfl ?_|refine is_box rfl rfl rfl ?_|refine is_stb rfl rfl rfl rfl rfl rfl ?_|refine ru_block ?_)
 refine ru_loopP (α:=Nat × List Blk) (fun p=>[(1,.int .i64 ks.length),(2,.ptr A.length 0 0 0 0),(4,.ptr A.length 1 0 0 0),(5,.ptr A.length 2 0 0 0),(6,.int .i64 p.1)]) (fun p=>⟨A,false,.arr 3 0 [.agg [.int .i64 ↑(n+1),.str [],.ref lv ix ver 0 ks.length]]::.arr 3 0 [.agg [.int .i64 0,.int .i64 0,.int .i64 0]]::.arr 3 0 [(sumM ((ks.take p.1).map Kid.m)).av]::p.2⟩) (fun p=>p.1≤ks.length) (fun p=>ks.length-p.1) (0,[]) rfl rfl (by simp) ?_
 rintro ⟨i,G⟩ hi
 simp only at hi ⊢
 have hf:=sum_take hs i hk
 have he:=fun k hk=>sum_step (ks:=ks) (i:=i) (k:=k) hk
 generalize hsm:sumM ((ks.take i).map Kid.m)=sm at *
 obtain ⟨sb,sr,sl⟩:=sm
 obtain ⟨f1,f2,f3,f4,f5,f6⟩:=hf
 simp only [Mea.av] at *
 repeat' (first|refine ru_seq ?_|refine ru_reg ?_|refine is_mv rfl ?_|refine is_fadr rfl rfl ?_|refine is_ldc rfl rfl rfl rfl ?_|refine is_nil rfl ?_|refine rk_seq ?_|(refine is_lss rfl rfl (fun _=>?_) (fun _=>?_)<;>try (exfalso;omega))|refine ru_iteT rfl ?_|refine ru_iteF rfl ?_|refine is_stn rfl rfl rfl rfl rfl rfl ?_|refine ru_skip ?_|refine ru_ret ?_|refine ru_exit ?_|refine ru_block ?_|refine rk_nil ?_|refine rk_seq_ex ?_|refine rk_blk_eq rfl ?_|refine rk_inv_ex ?_)
 ·rename_i hlt
  obtain ⟨k,hk2⟩:∃ k,ks[i]?=some k:=⟨ks[i]'(by omega),by simp [show i<ks.length by omega]⟩
  obtain ⟨g1,g2,g3,g4,g5,g6⟩:=hs k (List.mem_of_getElem? hk2)
  refine is_ixR rfl rfl (by omega) (hwi _) ?_
  refine is_fadr rfl rfl ?_
  refine is_ld (x:=k.av) rfl (gA _) (kid_get ge hk2) rfl ?_
  repeat' (first|refine ru_reg ?_|refine is_mv rfl ?_|refine is_fadr rfl rfl ?_|refine is_ldc rfl rfl rfl rfl ?_|refine is_nil rfl ?_|refine rk_seq ?_|refine is_ldT rfl rfl rfl ?_|refine is_addS rfl rfl (by omega) ?_|refine is_buildO rfl rfl rfl ?_|refine is_boxG rfl rfl rfl ?_|refine is_stT rfl rfl rfl rfl rfl rfl ?_|refine is_stn rfl rfl rfl rfl rfl rfl ?_|refine rk_blk ?_|refine rk_inv ?_)
  refine ⟨(i+1,G++[.arr 3 0 [k.m.av]]),⟨rfl,?_⟩,by simp only;omega,by simp only;omega⟩
  simp only [he k hk2]
  rfl
 ·have hi':ks.take i=ks:=List.take_of_length_le (by omega)
  rw [hi'] at hsm
  rw [hsm]
  skip
  refine end_c hA (by first|exact .inl rfl|exact .inr rfl) rfl rfl rfl rfl rfl ?_
  rfl
end Go.Q15
namespace Go.Q15
open Go Go.QAbs
set_option maxRecDepth 100000
set_option maxHeartbeats 8000000
theorem refSum_zero (x:Nd) (st:St):S Tb F_quartoref12_sum [x.av,.int .i64 0] st=some (Mea.zero.av,st):=by
 obtain ⟨h,text,kids⟩:=x
 refine s_of rfl (fun A hA=>?_)
 simp only [Nd.av]
 cases kids
 all_goals simp only [slV]
 all_goals repeat' (first|refine ru_seq ?_|refine ru_reg ?_|refine is_mv rfl ?_|refine is_ldc rfl rfl rfl rfl ?_|refine is_nil rfl ?_|refine rk_seq ?_|(refine is_lss rfl rfl (fun _=>?_) (fun _=>?_)<;>try (exfalso;omega))|refine ru_iteF rfl ?_|refine is_buildO rfl rfl rfl ?_|refine is_box rfl rfl rfl ?_|refine is_stb rfl rfl rfl rfl rfl rfl ?_|refine ru_unroll ?_|refine ru_ret ?_|refine ru_exit ?_|refine ru_block ?_|refine rk_nil ?_|refine rk_seq_ex ?_|refine rk_blk_eq rfl ?_)
 all_goals refine end_c hA (by first|exact .inl rfl|exact .inr rfl) rfl rfl rfl rfl rfl ?_
 all_goals rfl
theorem refNCheck_c (x:Nd) (hx:NdOk x) (st:St):S Tb F_quartoref12_Check [x.av] st=some (.int .i64 0,st):=by
 rcases hx with h|⟨n,ks,rfl,h1,h2,h3,h4,h5⟩
 ·have hf:=fun st=>refFormed_leaf x h.h ⟨h.lo,h.hi⟩ h.ks st
  have hS:=fun st=>refSum_zero x st
  have hks:=h.ks
  unfold Mea.av at hS
  obtain ⟨h,text,kids⟩:=x
  simp only [Nd.av] at *
  refine s_of rfl (fun A hA=>?_)
  cases kids with
  | none =>
   simp only [slV] at *
   repeat' (first|refine ru_seq ?_|refine ru_reg ?_|refine is_mv rfl ?_|refine is_fadr rfl rfl ?_|refine is_ldc rfl rfl rfl rfl ?_|refine is_nil rfl ?_|refine rk_seq ?_|refine is_fld (agg:=false) rfl rfl ?_|refine is_lenN rfl ?_|(refine is_gtr rfl rfl (fun _=>?_) (fun _=>?_)<;>try (exfalso;omega))|refine ru_iteT rfl ?_|refine ru_iteF rfl ?_|refine is_not rfl rfl ?_|refine is_box rfl rfl rfl ?_|refine is_callE rfl rfl rfl (hf _) ?_|refine is_callE rfl rfl rfl (hS _) ?_|refine ru_skip ?_|refine ru_ret ?_|refine rk_nil ?_|refine rk_seq_ret ?_)
   all_goals try (exfalso;simp [Mea.zero] at *;done)
   all_goals refine end_st hA (by first|exact .inl rfl|exact .inr rfl) rfl rfl rfl rfl ?_
   all_goals rfl
  | some l =>
   have:l=[]:=hks
   subst this
   simp only [slV] at *
   repeat' (first|refine ru_seq ?_|refine ru_reg ?_|refine is_mv rfl ?_|refine is_fadr rfl rfl ?_|refine is_ldc rfl rfl rfl rfl ?_|refine is_nil rfl ?_|refine rk_seq ?_|refine is_fld (agg:=false) rfl rfl ?_|refine is_lenF rfl rfl ?_|(refine is_gtr rfl rfl (fun _=>?_) (fun _=>?_)<;>try (exfalso;omega))|refine ru_iteT rfl ?_|refine ru_iteF rfl ?_|refine is_not rfl rfl ?_|refine is_box rfl rfl rfl ?_|refine is_callE rfl rfl rfl (hf _) ?_|refine is_callE rfl rfl rfl (hS _) ?_|refine ru_skip ?_|refine ru_ret ?_|refine rk_nil ?_|refine rk_seq_ret ?_)
   all_goals try (exfalso;simp [Mea.zero] at *;done)
   all_goals refine end_st hA (by first|exact .inl rfl|exact .inr rfl) rfl rfl rfl rfl ?_
   all_goals rfl
 ·have hf:=fun st=>refFormed_in n h1 ks ⟨h2,h3⟩ h4 st
  have hS:=fun st=>refSum_in n ks h3 (fun k hk=>(h4 k hk).fit) st
  unfold Mea.av at hS
  simp only [Nd.av,slV] at *
  refine s_of rfl (fun A hA=>?_)
  repeat' (first|refine ru_seq ?_|refine ru_reg ?_|refine is_mv rfl ?_|refine is_fadr rfl rfl ?_|refine is_ldc rfl rfl rfl rfl ?_|refine is_nil rfl ?_|refine rk_seq ?_|refine is_fld (agg:=false) rfl rfl ?_|refine is_lenM rfl ?_|(refine is_gtr rfl rfl (fun _=>?_) (fun _=>?_)<;>try (exfalso;omega))|refine ru_iteF rfl ?_|refine is_not rfl rfl ?_|refine is_box rfl rfl rfl ?_|refine is_callE rfl rfl rfl (hf _) ?_|refine is_callE rfl rfl rfl (hS _) ?_|refine ru_skip ?_|refine ru_ret ?_|refine rk_nil ?_)
  refine end_st hA (by first|exact .inl rfl|exact .inr rfl) rfl rfl rfl rfl ?_
  rfl
theorem refNCheck_ref (n:Nat) (hn:n≤15) (ks:List Kid) (hk:2≤ks.length∧ks.length≤4) (hs:∀ k∈ks,KidOk n k) (hsum:(sumM (ks.map Kid.m)).b≤65536) (st:St) {lv ix ver:Nat} (hr:KRef st lv ix ver ks):S Tb F_quartoref12_Check [ndR (n+1) lv ix ver ks.length] st=some (.int .i64 0,st):=by
 refine s_of rfl (fun A hA=>?_)
 have hf:=fun L=>refFormed_ref n hn ks hk hs _ (hr.push hA (ro:=false) (L:=L))
 have hS:=fun L=>refSum_ref n ks hk.2 (fun k hk=>(hs k hk).fit) _ (hr.push hA (ro:=false) (L:=L))
 unfold Mea.av ndR at *
 repeat' (first|refine ru_seq ?_|refine ru_reg ?_|refine is_mv rfl ?_|refine is_fadr rfl rfl ?_|refine is_ldc rfl rfl rfl rfl ?_|refine is_nil rfl ?_|refine rk_seq ?_|refine is_fld (agg:=false) rfl rfl ?_|refine is_lenR rfl ?_|(refine is_gtr rfl rfl (fun _=>?_) (fun _=>?_)<;>try (exfalso;omega))|refine ru_iteF rfl ?_|refine is_not rfl rfl ?_|refine is_box rfl rfl rfl ?_|refine is_callE rfl rfl rfl (hf _) ?_|refine is_callE rfl rfl rfl (hS _) ?_|refine ru_skip ?_|refine ru_ret ?_|refine rk_nil ?_)
 refine end_st hA (by first|exact .inl rfl|exact .inr rfl) rfl rfl rfl rfl ?_
 rfl
theorem refNMeasure_c (x:Nd) (hx:NdOk x) (st:St):S Tb F_quartoref12_Measure [x.av] st=some (.tup [x.mea.av,.int .i64 0],st):=by
 have hC:=fun st=>refNCheck_c x hx st
 rcases hx with h|⟨n,ks,rfl,h1,h2,h3,h4,h5⟩
 ·have hS:=fun st=>refOf_c x.text (by have:=h.hi;omega) st
  have he:x.mea=meaT x.text:=by unfold Nd.mea;rw [if_pos h.h]
  have h0:=h.h
  rw [he]
  unfold Mea.av at *
  obtain ⟨h,text,kids⟩:=x
  simp only at h0
  subst h0
  simp only [Nd.av] at *
  refine s_of rfl (fun A hA=>?_)
  cases kids
  all_goals simp only [slV] at *
  all_goals repeat' (first|refine ru_seq ?_|refine ru_reg ?_|refine is_mv rfl ?_|refine is_fadr rfl rfl ?_|refine is_ldc rfl rfl rfl rfl ?_|refine is_nil rfl ?_|refine rk_seq ?_|(refine is_eql rfl rfl (fun _=>?_) (fun _=>?_)<;>try (exfalso;omega))|(refine is_neq rfl rfl (fun _=>?_) (fun _=>?_)<;>try (exfalso;omega))|refine ru_iteT rfl ?_|refine ru_iteF rfl ?_|refine is_box rfl rfl rfl ?_|refine is_stb rfl rfl rfl rfl rfl rfl ?_|refine is_callE rfl rfl rfl (hC _) ?_|refine is_callE rfl rfl rfl (hS _) ?_|refine ru_skip ?_|refine ru_ret ?_|refine rk_nil ?_|refine rk_seq_ret ?_)
  all_goals refine end_c hA (by first|exact .inl rfl|exact .inr rfl) rfl rfl rfl rfl rfl ?_
  all_goals rfl
 ·have hS:=fun st=>refSum_in n ks h3 (fun k hk=>(h4 k hk).fit) st
  have he:Nd.mea ⟨n+1,[],some ks⟩=sumM (ks.map Kid.m):=rfl
  rw [he]
  unfold Mea.av at *
  simp only [Nd.av,slV] at *
  refine s_of rfl (fun A hA=>?_)
  repeat' (first|refine ru_seq ?_|refine ru_reg ?_|refine is_mv rfl ?_|refine is_fadr rfl rfl ?_|refine is_ldc rfl rfl rfl rfl ?_|refine is_nil rfl ?_|refine rk_seq ?_|refine is_lenM rfl ?_|(refine is_eql rfl rfl (fun _=>?_) (fun _=>?_)<;>try (exfalso;omega))|(refine is_neq rfl rfl (fun _=>?_) (fun _=>?_)<;>try (exfalso;omega))|refine ru_iteF rfl ?_|refine is_box rfl rfl rfl ?_|refine is_stb rfl rfl rfl rfl rfl rfl ?_|refine is_callE rfl rfl rfl (hC _) ?_|refine is_callE rfl rfl rfl (hS _) ?_|refine ru_skip ?_|refine ru_ret ?_|refine rk_nil ?_)
  all_goals try (exfalso;omega)
  all_goals refine end_c hA (by first|exact .inl rfl|exact .inr rfl) rfl rfl rfl rfl rfl ?_
  all_goals rfl
end Go.Q15
namespace Go.Q15
open Go Go.QAbs
set_option maxRecDepth 100000
set_option maxHeartbeats 8000000
theorem kids_imm (ks:List Kid):∀ v∈ks.map Kid.av,imm 5 v=true:=by
 intro v hv
 obtain ⟨k,_,rfl⟩:=List.mem_map.1 hv
 rfl
theorem copyKids_ref (ks:List Kid) (hk:ks.length≤4) (st:St) {lv ix ver:Nat} (hr:KRef st lv ix ver ks):S Tb F_quartokit_CopyKids [.ref lv ix ver 0 ks.length] st=some (.lit (ks.map Kid.av),st):=by
 refine s_of rfl (fun A hA=>?_)
 obtain ⟨es,g,ge⟩:=hr
 have gA:=fun L=>get_old hA (ro:=false) (L:=L) g
 have hwi:∀ L,wIs 4 ver (St.get ⟨A,false,L⟩ lv ix)=true:=fun L=>by rw [gA];simp [wIs]
 repeat' (first|refine ru_seq ?_|refine ru_reg ?_|refine is_mv rfl ?_|refine is_nil rfl ?_|refine rk_seq ?_|refine is_onil rfl ?_|refine ru_block ?_)
 refine ru_loopP (α:=Nat) (fun i=>[(0,.ref lv ix ver 0 ks.length),(3,.ref A.length 0 i 0 i),(4,.int .i64 i)]) (fun i=>⟨A,false,[.arr 4 i ((ks.take i).map Kid.av)]⟩) (fun i=>i≤ks.length) (fun i=>ks.length-i) 0 rfl rfl (by simp) ?_
 intro i hi
 have hlen:((ks.take i).map Kid.av).length=i:=by rw [List.length_map,List.length_take];omega
 repeat' (first|refine ru_seq ?_|refine ru_reg ?_|refine is_mv rfl ?_|refine is_nil rfl ?_|refine rk_seq ?_|refine is_lenR rfl ?_|(refine is_lss rfl rfl (fun _=>?_) (fun _=>?_)<;>try (exfalso;omega))|refine ru_iteT rfl ?_|refine ru_iteF rfl ?_|refine ru_skip ?_|refine ru_ret ?_|refine ru_exit ?_|refine ru_block ?_|refine rk_nil ?_|refine rk_seq_ex ?_|refine rk_blk_eq rfl ?_|refine rk_inv_ex ?_)
 ·rename_i hlt
  obtain ⟨k,hk2⟩:∃ k,ks[i]?=some k:=⟨ks[i]'(by omega),by simp [show i<ks.length by omega]⟩
  refine is_ixR rfl rfl (by omega) (hwi _) ?_
  refine is_ld (x:=k.av) rfl (gA _) (kid_get ge hk2) rfl ?_
  repeat' (first|refine ru_reg ?_|refine is_mv rfl ?_|refine is_nil rfl ?_|refine rk_seq ?_|refine is_addS rfl rfl (by omega) ?_|refine is_bslFO rfl rfl rfl rfl ?_|refine is_app1 rfl rfl rfl (by first|rfl|(simp;done)|(simp;omega)) (by first|omega|(simp<;>omega)) (by decide) rfl rfl rfl ?_|refine rk_blk ?_|refine rk_inv ?_)
  refine ⟨i+1,⟨rfl,?_⟩,by omega,by omega⟩
  rw [take_succ_get hk2,List.map_append]
  rfl
 ·have hi':i=ks.length:=by omega
  subst hi'
  rw [List.take_length]
  skip
  refine end_ref hA (.inr rfl) rfl rfl (by simp) (kids_imm _) ?_
  rfl
end Go.Q15
namespace Go.Q15
open Go Go.QAbs
set_option maxRecDepth 100000
set_option maxHeartbeats 8000000
theorem KRef.allRo {st:St} {lv ix ver:Nat} {ks:List Kid} (h:KRef st lv ix ver ks):KRef st.allRo lv ix ver ks:=by
 obtain ⟨es,h1,h2⟩:=h
 exact ⟨es,by rw [allRo_get];exact h1,h2⟩
theorem copyKids_lit0 (st:St):S Tb F_quartokit_CopyKids [.lit []] st=some (.lit [],st):=by
 refine s_of rfl (fun A hA=>?_)
 repeat' (first|refine ru_seq ?_|refine ru_reg ?_|refine is_mv rfl ?_|refine is_nil rfl ?_|refine rk_seq ?_|refine is_lenF rfl rfl ?_|(refine is_lss rfl rfl (fun _=>?_) (fun _=>?_)<;>try (exfalso;omega))|refine ru_iteF rfl ?_|refine is_onil rfl ?_|refine ru_unroll ?_|refine ru_ret ?_|refine ru_exit ?_|refine ru_block ?_|refine rk_nil ?_|refine rk_seq_ex ?_|refine rk_blk_eq rfl ?_)
 refine end_ref hA (by first|exact .inl rfl|exact .inr rfl) rfl rfl (by simp) (by first|(simp [imm];done)|exact fun _ h=>absurd h (by simp)) ?_
 rfl
theorem copyNode_leaf (text:List UInt8) (st:St):S Tb F_quartoref12_CopyNode [.agg [.int .i64 (0:Nat),.str text,.nils]] st=some (Nd.av ⟨0,text,some []⟩,st):=by
 refine s_of rfl (fun A hA=>?_)
 have hC:=fun st=>copyKids_lit0 st
 repeat' (first|refine ru_seq ?_|refine ru_reg ?_|refine is_fadr rfl rfl ?_|refine is_ldc rfl rfl rfl rfl ?_|refine is_nil rfl ?_|refine rk_seq ?_|refine is_buildO rfl rfl rfl ?_|refine is_box rfl rfl rfl ?_|refine is_stb rfl rfl rfl rfl rfl rfl ?_|refine is_callP rfl rfl rfl (hC _) ?_|refine ru_ret ?_|refine rk_nil ?_)
 refine end_c hA (by first|exact .inl rfl|exact .inr rfl) rfl rfl rfl rfl rfl ?_
 rfl
theorem copyNode_ref (n:Nat) (ks:List Kid) (hk:ks.length≤4) (st:St) {lv ix ver:Nat} (hr:KRef st lv ix ver ks):S Tb F_quartoref12_CopyNode [ndR (n+1) lv ix ver ks.length] st=some (Nd.av ⟨n+1,[],some ks⟩,st):=by
 refine s_of rfl (fun A hA=>?_)
 have hC:=fun L=>copyKids_ref ks hk _ (hr.push hA (ro:=false) (L:=L)).allRo
 unfold ndR
 repeat' (first|refine ru_seq ?_|refine ru_reg ?_|refine is_fadr rfl rfl ?_|refine is_ldc rfl rfl rfl rfl ?_|refine is_nil rfl ?_|refine rk_seq ?_|refine is_buildO rfl rfl rfl ?_|refine is_box rfl rfl rfl ?_|refine is_stb rfl rfl rfl rfl rfl rfl ?_|refine is_callP rfl rfl rfl (hC _) ?_|refine ru_ret ?_|refine rk_nil ?_)
 refine end_c hA (by first|exact .inl rfl|exact .inr rfl) rfl rfl rfl rfl rfl ?_
 rfl
end Go.Q15
namespace Go.Q15
open Go Go.QAbs
set_option maxRecDepth 100000
set_option maxHeartbeats 8000000
def itemAV (p:Nat × Nd):AV:=.agg [.int .u64 p.1,.int .i64 p.2.h,.str p.2.text,.lit (p.2.ks.map Kid.av)]
inductive Its (st:St):AV→Nodes→Prop
 | nil:Its st .nils []
 | ref {lv ix ver n:Nat} {N:Nodes} {es:List AV} (hg:st.get lv ix=some (.arr 4 ver es)) (hn:n=N.length) (he:es.take n=N.map itemAV):Its st (.ref lv ix ver 0 n) N
theorem Its.push {st:St} {A:List (Bool × List Blk)} {ro:Bool} {L:List Blk} (hA:A=st.A++[(st.ro,st.L)]) {v:AV} {N:Nodes} (h:Its st v N):Its ⟨A,ro,L⟩ v N:=by
 cases h with
 | nil=>exact .nil
 | ref hg hn he=>exact .ref (get_old hA hg) hn he
structure RRd (st:St) (lv ix:Nat) (N:Nodes):Prop where
 ex:∃ l v c0 c1 c2 c3 c4 c5 c6,st.get lv ix=some (.arr 9 0 [.agg [l,v,c0,c1,c2,c3,c4,c5,c6]])∧Its st v N
theorem item_get {N:Nodes} {es:List AV} {n:Nat} (hn:n=N.length) (h:es.take n=N.map itemAV) {i:Nat} {p:Nat × Nd} (hk:N[i]?=some p):es[0+((i:Nat):Int).toNat]?=some (itemAV p):=by
 have hlt:i<N.length:=(List.getElem?_eq_some_iff.1 hk).1
 have h1:(es.take n)[i]?=some (itemAV p):=by rw [h,List.getElem?_map,hk];rfl
 rw [List.getElem?_take,if_pos (by omega)] at h1
 rw [show 0+((i:Nat):Int).toNat=i by omega];exact h1
theorem lk_ix:∀ {N:Nodes} {h:Nat} {x:Nd},lk N h=some x→∃ j:Nat,N[j]?=some (h,x)∧∀ (i:Nat) (p:Nat × Nd),i<j→N[i]?=some p→p.1≠h
 | [],h,x,q=>by simp [lk] at q
 | p::N,h,x,q=>by
  rw [lk] at q
  by_cases c:p.1=h
  ·rw [if_pos c] at q
   refine ⟨0,?_,fun i p hi=>by omega⟩
   obtain ⟨a,b⟩:=p
   simp only [Option.some.injEq] at q
   simp only at c
   subst c q
   rfl
  ·rw [if_neg c] at q
   obtain ⟨j,h1,h2⟩:=lk_ix q
   refine ⟨j+1,by simpa using h1,?_⟩
   intro i p' hi hp
   match i with
   | 0=>simp at hp;rw [← hp];exact c
   | i+1=>exact h2 i p' (by omega) (by simpa using hp)
theorem find_c {st:St} {lv ix:Nat} {N:Nodes} (hr:RRd st lv ix N) {h j:Nat} {x:Nd} (hj:N[j]?=some (h,x)) (hm:∀ i p,i<j→N[i]?=some p→p.1≠h) (hl:N.length<4294967296) :
 S Tb F_quartoref13_Arena_find [.ptr lv ix 0 0 0,.int .u64 h] st=some (.int .i64 j,st):=by
 obtain ⟨l,v,c0,c1,c2,c3,c4,c5,c6,h1,h2⟩:=hr
 refine s_of rfl (fun A hA=>?_)
 have g1:=fun L=>get_old hA (ro:=false) (L:=L) h1
 have hjl:j<N.length:=(List.getElem?_eq_some_iff.1 hj).1
 cases h2 with
 | nil=>simp at hj
 | @ref lv' ix' ver n N es hg hn he =>
  have g2:=fun L=>get_old hA (ro:=false) (L:=L) hg
  have hwi:∀ L,wIs 4 ver (St.get ⟨A,false,L⟩ lv' ix')=true:=fun L=>by rw [g2];simp [wIs]
  repeat' (first|refine ru_seq ?_|refine ru_reg ?_|refine is_mv rfl ?_|refine is_nil rfl ?_|refine rk_seq ?_|refine ru_block ?_)
  refine ru_loopP (α:=Nat) (fun i=>[(0,.ptr lv ix 0 0 0),(1,.int .u64 h),(5,.int .i64 i)]) (fun i=>⟨A,false,[]⟩) (fun i=>i≤j) (fun i=>j-i) 0 rfl rfl (by omega) ?_
  intro i hi
  repeat' (first|refine ru_seq ?_|refine ru_reg ?_|refine is_mv rfl ?_|refine is_fadr rfl rfl ?_|refine is_nil rfl ?_|refine rk_seq ?_|refine is_nilck rfl rfl ?_|refine is_lenR rfl ?_|(refine is_lss rfl rfl (fun _=>?_) (fun _=>?_)<;>try (exfalso;omega))|refine ru_iteT rfl ?_|refine is_ld rfl (g1 _) rfl rfl ?_|refine ru_skip ?_|refine ru_block ?_)
  ·obtain ⟨p,hp⟩:∃ p,N[i]?=some p:=⟨N[i]'(by omega),by simp [show i<N.length by omega]⟩
   refine is_ixR rfl rfl (by omega) (hwi _) ?_
   refine is_fadr rfl rfl ?_
   refine is_ld (x:=itemAV p) rfl (g2 _) (item_get hn he hp) rfl ?_
   repeat' (first|refine ru_seq ?_|refine ru_reg ?_|refine is_mv rfl ?_|refine is_nil rfl ?_|refine rk_seq ?_|(refine is_eql rfl rfl (fun _=>?_) (fun _=>?_)<;>try (exfalso;omega))|refine ru_iteT rfl ?_|refine ru_iteF rfl ?_|refine is_addS rfl rfl (by omega) ?_|refine ru_skip ?_|refine ru_ret ?_|refine rk_nil ?_|refine rk_seq_ret ?_|refine rk_blk ?_|refine rk_blk_ret ?_|refine rk_inv ?_|refine rk_inv_ret ?_)
   ·rename_i q
    have:i=j:=by
     rcases Nat.lt_or_ge i j with w|w
     ·exact absurd (by omega) (hm i p w hp)
     ·omega
    subst this
    refine end_st hA (by first|exact .inl rfl|exact .inr rfl) rfl rfl rfl rfl ?_
    rfl
   ·rename_i q
    have:i≠j:=by
     intro w;subst w
     rw [hj] at hp
     have:=Option.some.inj hp
     subst this
     exact q rfl
    exact ⟨i+1,⟨rfl,rfl⟩,by omega,by omega⟩
end Go.Q15
