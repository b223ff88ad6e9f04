/- A part of the proof: SXb, SM, SRa, SXc, FY, FYi, SHJ, TZm, TZa. No condition. -/
import Derived.SliceStrings
import Derived.Deep.Slices
import Derived.Carry
import Derived.ChangeSlices
import Derived.Shelf.Strings.OnBuilder
import Derived.Test.YtnbialakgbcbfaaGreatProg
import Derived.Test.YtnbialakgbcbfaaGreatSaT8
set_option linter.unusedVariables false
set_option linter.unusedSimpArgs false
namespace Go.Q15
open Go Go.QAbs
set_option maxRecDepth 100000
set_option maxHeartbeats 32000000
theorem seal_p {A:List (Bool × List Blk)} {L:List Blk} {m ix w:Nat} {e:AV} (hg:L[ix]?=some (.arr w 0 [e])) (he:imm m e=true) :
 sealV (m+1) A.length ⟨A,false,L⟩ (.ptr A.length ix 0 0 0)=some (.lptr e 0,⟨A,false,L.set ix .dead⟩):=by
 simp only [sealV,Nat.lt_irrefl,if_false,and_self,if_true,hg,ptrB,List.getElem?_cons_zero,oS,seal_imm he,lptrK]
theorem sameS_c (k f:Int) (st:St):S Tb F_quartolaw17_same [.int .i64 k,.int .i64 f] st=some (.func (.func F_quartolaw17_sameC1) [] [.lptr (.int .i64 k) 0,.lptr (.int .i64 f) 0],st):=by
 refine s_of rfl (fun A hA=>?_)
 have h1:=seal_p (m:=4) (A:=A) (L:=[Blk.arr 1 0 [.int .i64 k],Blk.arr 1 0 [.int .i64 f]]) (ix:=0) rfl rfl
 have h2:=seal_p (m:=4) (A:=A) (L:=[Blk.dead,Blk.arr 1 0 [.int .i64 f]]) (ix:=1) rfl rfl
 have hs:sealV deep A.length ⟨A,false,[Blk.arr 1 0 [.int .i64 k],Blk.arr 1 0 [.int .i64 f]]⟩ (.func (.func F_quartolaw17_sameC1) [] [.ptr A.length 0 0 0 0,.ptr A.length 1 0 0 0])=some (.func (.func F_quartolaw17_sameC1) [] [.lptr (.int .i64 k) 0,.lptr (.int .i64 f) 0],⟨A,false,[Blk.dead,Blk.dead]⟩):=by
  unfold deep
  rw [sealV]
  rw [if_pos (by rfl)]
  simp only [mapSt,oS,Nat.reduceAdd] at h1 h2 ⊢
  simp only [h1,h2,oS,consK,List.set_cons_zero,List.set_cons_succ]
 repeat' (first|refine ruS rfl ?_|refine isS rfl ?_|refine rkS rfl ?_|refine is_mkf rfl rfl ?_|refine is_box rfl rfl rfl ?_)
 all_goals exact end_st hA (.inr rfl) rfl rfl hs rfl rfl
theorem sameC1_c (k f:Int) (st:St):S Tb F_quartolaw17_sameC1 [.int .i64 k,.int .i64 f,.lptr (.int .i64 k) 0,.lptr (.int .i64 f) 0] st=some (.bool true,st):=by
 refine s_of rfl (fun A hA=>?_)
 repeat' (first|refine ruS rfl ?_|refine isS rfl ?_|refine rkS rfl ?_|refine is_ldl rfl rfl ?_|(refine is_eql rfl rfl (fun _=>?_) (fun _=>?_)<;>try (exfalso;omega)))
 all_goals try exact absurd rfl ‹_›
 all_goals refine end_st hA (by first|exact .inl rfl|exact .inr rfl) rfl rfl rfl rfl ?_
 all_goals rfl
theorem Rd.allRo {st:St} {lv ix:Nat} {N:Nodes} (h:Rd st lv ix N):Rd st.allRo lv ix N:=by
 obtain ⟨a0,a1,im,a3,a4,a5,h1,h2⟩:=h
 exact ⟨a0,a1,im,a3,a4,a5,(allRo_get _ _ _).trans h1,(allRo_get _ _ _).trans h2⟩
theorem eqvB6 (b:Bool):eqV [] 6 (.bool b) (.bool b)=some true:=by cases b<;>rfl
theorem sk_loop {A:List (Bool × List Blk)} {L:List Blk} {N M:Nodes} {ro q:Ro} {s:List UInt8} {ns:List Int} {b2 j6 j7:Nat} (hN:GoodN N) (hM:GoodN M) (hR:Rd ⟨A,false,L⟩ A.length 5 N) (hR2:Rd ⟨A,false,L⟩ A.length (b2+5) M) (h1:Rt N ro s) (h2:Rt M q s) (hs:s.length≤100000) (hl:ns.length≤20)
 (g16:L[j6]?=some (.arr 5 0 [q.av])) (g17:L[j7]?=some (.arr 5 0 [ro.av])) {k:List Fr} {Q:Post}
 (hQ:Rk (S Tb) k Q .norm [(3,.lit (ns.map (.int .i64))),(9,.ptr A.length 5 0 0 0),(14,.ptr A.length (b2+5) 0 0 0),(16,.ptr A.length j6 0 0 0),(17,.ptr A.length j7 0 0 0),(18,.int .i64 ns.length),(91,.bool false)] ⟨A,false,L⟩) :
 Ru (S Tb) p_quartolaw17_SeekAlike_31.loop (.blk 0::k) Q [(3,.lit (ns.map (.int .i64))),(9,.ptr A.length 5 0 0 0),(14,.ptr A.length (b2+5) 0 0 0),(16,.ptr A.length j6 0 0 0),(17,.ptr A.length j7 0 0 0),(18,.int .i64 0)] ⟨A,false,L⟩:=by
 refine ru_loopP (α:=Nat) (fun i=>[(3,.lit (ns.map (.int .i64))),(9,.ptr A.length 5 0 0 0),(14,.ptr A.length (b2+5) 0 0 0),(16,.ptr A.length j6 0 0 0),(17,.ptr A.length j7 0 0 0),(18,.int .i64 i)]) (fun i=>⟨A,false,L⟩) (fun i=>i≤ns.length) (fun i=>ns.length-i) 0 rfl rfl (Nat.zero_le _) ?_
 intro i hi
 rcases Nat.lt_or_ge i ns.length with hlt|hge
 ·obtain ⟨n,hn⟩:∃ n,ns[i]?=some n:=⟨ns[i]'hlt,List.getElem?_eq_getElem _⟩
  have qn:0≤((i:Nat):Int)∧ns[((i:Nat):Int).toNat]?=some n:=⟨by omega,by rw [show ((i:Nat):Int).toNat=i by omega];exact hn⟩
  have a1:=Byte_a (b:=0) hN hR h1 n hs
  have a2:=Byte_a hM hR2 h2 n hs
  have r1:=Rune_a (b:=0) hN hR.allRo h1 n hs
  have r2:=Rune_a hM hR2 h2 n hs
  have e1:=RunesBefore_a (b:=0) hN hR.allRo h1 n hs
  have e2:=RunesBefore_a hM hR2 h2 n hs
  have l1:=Line_a (b:=0) hN hR.allRo h1 n hs
  have l2:=Line_a hM hR2 h2 n hs
  have o1:=LineOf_a (b:=0) hN hR.allRo h1 n hs
  have o2:=LineOf_a hM hR2 h2 n hs
  have d1:=Boundary_a (b:=0) hN hR h1 n hs
  have d2:=Boundary_a hM hR2 h2 n hs
  generalize byteV s n=v1 at *
  generalize runeV s n=v2 at *
  generalize befV beginsB s n=v3 at *
  generalize lineV s n=v4 at *
  generalize befV feedsB s n=v5 at *
  generalize bdV s n=v6 at *
  have hS:=fun k f st=>sameS_c k f st
  have hC:=fun k f st=>sameC1_c k f st
  have hq:=eqvB6 v6.1
  repeat' (first|refine len1L rfl ?_|refine is_ixKn (f:=AV.int .i64) rfl rfl qn (fun _=>rfl) ?_|refine is_ldc rfl g16 rfl (ro_part _) ?_|refine is_ldc rfl g17 rfl (ro_part _) ?_|refine is_eqs rfl rfl hq rfl ?_|refine ruS rfl ?_|refine isS rfl ?_|refine rkS rfl ?_|refine is_ldl rfl rfl ?_|(refine is_lss rfl rfl (fun _=>?_) (fun _=>?_)<;>try (exfalso;omega))|(refine is_neq rfl rfl (fun _=>?_) (fun _=>?_)<;>try (exfalso;omega))|refine is_addS rfl rfl (by omega) ?_|refine is_callE rfl rfl rfl (a1) ?_|refine is_callE rfl rfl rfl (a2) ?_|refine is_callE rfl rfl rfl (r2) ?_|refine is_callE rfl rfl rfl (e2) ?_|refine is_callE rfl rfl rfl (l2) ?_|refine is_callE rfl rfl rfl (o2) ?_|refine is_callE rfl rfl rfl (d1) ?_|refine is_callE rfl rfl rfl (d2) ?_|refine is_callE rfl rfl rfl (hC _ _ _) ?_|refine is_callP rfl rfl rfl r1 ?_|refine is_callP rfl rfl rfl e1 ?_|refine is_callP rfl rfl rfl l1 ?_|refine is_callP rfl rfl rfl o1 ?_|refine is_callP rfl rfl rfl (hS _ _ _) ?_)
  all_goals try contradiction
  all_goals try (exfalso;omega)
  all_goals try exact absurd rfl ‹_›
  all_goals exact ⟨i+1,⟨rfl,rfl⟩,by omega,by omega⟩
 ·obtain rfl:i=ns.length:=by omega
  repeat' (first|refine len1L rfl ?_|refine ruS rfl ?_|refine isS rfl ?_|refine rkS rfl ?_|(refine is_lss rfl rfl (fun _=>?_) (fun _=>?_)<;>try (exfalso;omega)))
  all_goals try (exfalso;omega)
  all_goals exact hQ
end Go.Q15
namespace Go.Q15
open Go Go.QAbs
set_option maxRecDepth 100000
set_option maxHeartbeats 16000000
end Go.Q15
namespace Go.Q15
open Go Go.QAbs
set_option maxRecDepth 100000
set_option maxHeartbeats 8000000
theorem cntO_getD (k:Option (List Tr)):Tr.cntO k=Tr.cntL (k.getD []):=by cases k<;>rfl
def arL (L:List Blk) (n b:Nat) (r:AR):List Blk:=(((((L.set b r.b0).set (b+1) r.b1).set (b+2) r.b2).set (b+3) (r.b3 n b)).set (b+4) r.b4).set (b+5) (r.b5 n b)
theorem arSt_L (A:List (Bool × List Blk)) (L:List Blk) (b:Nat) (r:AR):arSt ⟨A,false,L⟩ A.length b r=⟨A,false,arL L A.length b r⟩:=by
 simp [arSt,arK,arB,putC,St.upd,arL]
theorem arL_ne {L:List Blk} {n b i:Nat} (r:AR) (h:¬ (b≤i∧i≤b+5)):(arL L n b r)[i]?=L[i]?:=by
 unfold arL
 rw [List.getElem?_set_ne (by omega),List.getElem?_set_ne (by omega),List.getElem?_set_ne (by omega),List.getElem?_set_ne (by omega),List.getElem?_set_ne (by omega),List.getElem?_set_ne (by omega)]
theorem arL_len {L:List Blk} {n b:Nat} (r:AR):(arL L n b r).length=L.length:=by simp [arL]
theorem Has.frmL {A:List (Bool × List Blk)} {L L':List Blk} {b:Nat} {r:AR} (h:Has ⟨A,false,L⟩ A.length b r) (hg:∀ i,b≤i→i≤b+5→L'[i]?=L[i]?):Has ⟨A,false,L'⟩ A.length b r:=by
 have e:∀ i,b≤i→i≤b+5→St.get ⟨A,false,L'⟩ A.length i=St.get ⟨A,false,L⟩ A.length i:=fun i h1 h2=>by rw [St.get_cur,St.get_cur,hg i h1 h2]
 exact ⟨by simp [St.wr],(e _ (by omega) (by omega)).trans h.h0,(e _ (by omega) (by omega)).trans h.h1,(e _ (by omega) (by omega)).trans h.h2,(e _ (by omega) (by omega)).trans h.h3,(e _ (by omega) (by omega)).trans h.h4,(e _ (by omega) (by omega)).trans h.h5⟩
theorem get_lt {A:List (Bool × List Blk)} {ro:Bool} {L:List Blk} {i:Nat} {b:Blk} (h:St.get ⟨A,ro,L⟩ A.length i=some b):i<L.length:=by
 rw [St.get_cur] at h
 exact (List.getElem?_eq_some_iff.1 (vis_noH h).1).1
theorem Has.app {A:List (Bool × List Blk)} {L:List Blk} {b:Nat} {r:AR} (h:Has ⟨A,false,L⟩ A.length b r) (T:List Blk):Has ⟨A,false,L++T⟩ A.length b r :=
 h.frmL fun i h1 h2=>by
  have:=get_lt h.h5
  rw [List.getElem?_append_left (by omega)]
theorem PenS.app {A:List (Bool × List Blk)} {L:List Blk} {ip tx ver la b:Nat} {cls:List AV} {its:List It} {F:List (Nat × Blk)} {keys:List Nat} {rx:Nat} {ρ:Nat→Ro} {j:Nat} (h:PenS ⟨A,false,L⟩ A.length ip tx ver la b cls its F keys rx ρ j) (T:List Blk):PenS ⟨A,false,L++T⟩ A.length ip tx ver la b cls its F keys rx ρ j:=by
 refine h.frm rfl (fun i hi=>?_)
 have hlt:i<L.length:=by
  rcases hi with rfl|⟨hc,rfl⟩|q|⟨p,hp,rfl⟩
  ·obtain ⟨td,h1,_⟩:=h.pen;exact get_lt h1
  ·obtain ⟨td,_,h2⟩:=h.pen
   rcases h2 with ⟨w,_⟩|⟨_,_,w⟩
   ·exact absurd w hc
   ·exact get_lt w
  ·exact get_lt (h.rts i q)
  ·exact get_lt (h.fx p hp)
 rw [List.getElem?_append_left hlt]
theorem RunOk.ext {its:List It} {r r':AR} {ρ ρ':Nat→Ro} {hs:List Nat} (h:RunOk its r ρ r' ρ' hs):AROk r→Ext r.nodes r'.nodes:=by
 induction h with
 | nil=>intro _;exact Ext.refl _
 | cons hn hx hk h ih=>intro ho;exact (ext_add ho hn _).trans (ih (ho.add hn _))
end Go.Q15
namespace Go.Q15
open Go Go.QAbs
set_option maxRecDepth 100000
set_option maxHeartbeats 32000000
theorem beyond_noS {texts:List (List UInt8)} {ys:List Ed} (h:¬ beyondP texts ys):(texts.flatten.length≤900∧texts.length≤4)∧ys.length≤12∧∀ y∈ys,y.text.length≤200:=by
 have h1:¬ longP texts:=fun q=>h (.inl q)
 have h2:¬ manyQ ys:=fun q=>h (.inr (.inl q))
 have h3:¬ 12<ys.length:=fun q=>h (.inr (.inr q))
 obtain ⟨a,b,c⟩:=guards h1 h2
 exact ⟨a,by omega,c⟩
theorem eqv3m (m:Mea):eqV [(0,0),(1,0),(2,0)] 0 m.av m.av=some true:=by
 show (if decide (m.b=m.b)=true then (if decide (m.r=m.r)=true then (if decide (m.l=m.l)=true then some true else some false) else some false) else some false)=_
 simp
section
variable {O:Orc} {k:List Fr} {Q:Post} {e:Env} {A:List (Bool × List Blk)} {L:List Blk} {keep:List Nat} {is:List QAbs.PI}
theorem is_stRoX {a x:Opd} {y:AV} {ro:Ro} (ha:opdO e a=some (.ptr A.length L.length 0 0 0)) (hx:opdO e x=some ro.av) (hy:y=Ro.zero.av) (h:Is O is keep k Q e ⟨A,false,L++[Blk.arr 5 0 [ro.av]]⟩) :
 Is O (⟨none,none,false,.st 5 a x⟩::is) keep k Q e ⟨A,false,L++[Blk.arr 5 0 [y]]⟩:=by
 subst hy
 exact is_stA (L0:=L) (T:=[Blk.arr 5 0 [Ro.zero.av]]) (ix:=0) (i:=0) (w:=5) (ver:=0) (es:=[Ro.zero.av]) ha hx rfl rfl (by cases ro;rfl) (by cases ro;rfl) (forceB_self _) h
end
theorem SeekAlike_c (texts:List (List UInt8)) (ys:List Ed) (which:Int) (ns:List Int) (hb:texts.length<9223372036854775808) (hbs:∀ s∈texts,s.length<9223372036854775808) (hy:ys.length<9223372036854775808) (hys:∀ y∈ys,y.text.length<9223372036854775808) (hns:ns.length<9223372036854775808) (st:St) :
 S Tb F_quartolaw17_SeekAlike [.lit (texts.map .str),.lit (ys.map Ed.av),.int .i64 which,.lit (ns.map (.int .i64))] st=some (.bool true,st):=by
 refine s_of rfl (fun A hA=>?_)
 have hBy:=fun st=>Beyond_c texts ys hb hbs hy hys st
 have hWk:=fun st=>works17_c st
 by_cases hl:beyondP texts ys
 ·simp only [decide_eq_true hl] at hBy
  repeat' (first|refine ruS rfl ?_|refine isS rfl ?_|refine rkS rfl ?_|refine is_callE rfl rfl rfl (hBy _) ?_|refine is_callE rfl rfl rfl (hWk _) ?_)
  all_goals try contradiction
  all_goals refine end_st hA (by first|exact .inl rfl|exact .inr rfl) rfl rfl rfl rfl ?_
  all_goals rfl
 simp only [decide_eq_false hl] at hBy
 by_cases h20:20<ns.length
 ·repeat' (first|refine len1L rfl ?_|refine ruS rfl ?_|refine isS rfl ?_|refine rkS rfl ?_|(refine is_gtr rfl rfl (fun _=>?_) (fun _=>?_)<;>try (exfalso;omega))|refine is_callE rfl rfl rfl (hBy _) ?_|refine is_callE rfl rfl rfl (hWk _) ?_)
  all_goals try contradiction
  all_goals try (exfalso;omega)
  all_goals refine end_st hA (by first|exact .inl rfl|exact .inr rfl) rfl rfl rfl rfl ?_
  all_goals rfl
 obtain ⟨h9,h12,hy2⟩:=beyond_noS hl
 obtain ⟨v,st',hMk,r,c,ros,ss,G0,G1,n,rfl,rfl,hI⟩:=Make_c texts ys h9 h12 hy2 A
 have hn20:=hI.n20
 have hrs:=hI.len
 have hsl:=hI.rts.1
 rcases Nat.eq_zero_or_pos n with hn0|hpos
 ·subst hn0
  repeat' (first|refine len1L rfl ?_|refine ruS rfl ?_|refine isS rfl ?_|refine rkS rfl ?_|refine is_lenR rfl ?_|(refine is_gtr rfl rfl (fun _=>?_) (fun _=>?_)<;>try (exfalso;omega))|(refine is_eql rfl rfl (fun _=>?_) (fun _=>?_)<;>try (exfalso;omega))|refine is_callE rfl rfl rfl (hBy _) ?_|refine is_callE rfl rfl rfl (hWk _) ?_|refine is_callE rfl rfl rfl (hMk) ?_)
  all_goals try contradiction
  all_goals try (exfalso;omega)
  all_goals refine end_st hA (by first|exact .inl rfl|exact .inr rfl) rfl rfl rfl rfl ?_
  all_goals rfl
 have hpb:=pickM_bounds (x:=which) (n:=(n:Int)-1) (by omega)
 have hPk:=fun st=>Pick_c which ((n:Int)-1) (by omega) (by omega) st
 generalize pickM which ((n:Int)-1)=z at *
 obtain ⟨ro,hro⟩:∃ x,ros[z.toNat]?=some x:=⟨_,List.getElem?_eq_getElem (by omega)⟩
 obtain ⟨s,hs⟩:∃ x,ss[z.toNat]?=some x:=⟨_,List.getElem?_eq_getElem (by omega)⟩
 have hRt:=hI.rts.2 z.toNat ro s hro hs
 have hsm:=hI.small s (List.mem_of_getElem? hs)
 have f6:(ltL A.length r n ros G0 c ss G1)[6]?=_:=lt_6
 have f7:(ltL A.length r n ros G0 c ss G1)[7+G0.length]?=_:=lt_7
 have g6:(ros.map Ro.av)[0+z.toNat]?=some ro.av:=by rw [Nat.zero_add,List.getElem?_map,hro];rfl
 have g7:(ss.map AV.str)[0+z.toNat]?=some (.str s):=by rw [Nat.zero_add,List.getElem?_map,hs];rfl
 have hHas:=lt_has (A:=A) (r:=r) (v:=n) (ros:=ros) (G0:=G0) (w:=c) (ss:=ss) (G1:=G1)
 have hgd:=hI.good
 generalize ltL A.length r n ros G0 c ss G1=X at *
 have l6:6<X.length:=(List.getElem?_eq_some_iff.1 f6).1
 have l7:7+G0.length<X.length:=(List.getElem?_eq_some_iff.1 f7).1
 have hNw:=arNew_c 2000 1 (by omega) (by omega) A X
 obtain ⟨Y,hY⟩:∃ Y,Y=X++(arB A.length X.length (newAR 2000 1)++[]):=⟨_,rfl⟩
 have hNw:S Tb F_arena_New [.int .i64 2000,.int .u64 1] ⟨A,false,X⟩=some (.tup [.ptr A.length (X.length+5) 0 0 0,.int .i64 0],⟨A,false,Y⟩):=by
  rw [hY,lN];exact hNw
 have hbY:Has ⟨A,false,Y⟩ A.length X.length (newAR 2000 1):=by rw [hY];exact has_cur A X _ _
 have haY:Has ⟨A,false,Y⟩ A.length 0 r:=by rw [hY];exact hHas.app _
 have y6:Y[6]?=some (.arr 5 n (ros.map Ro.av)):=by rw [hY,List.getElem?_append_left l6];exact f6
 have y7:Y[7+G0.length]?=some (.arr 1 c (ss.map .str)):=by rw [hY,List.getElem?_append_left l7];exact f7
 have hX7:7≤X.length:=by omega
 obtain ⟨B0,hB0⟩:∃ B0,B0=X.length:=⟨_,rfl⟩
 rw [← hB0] at hbY hNw
 have hok:=newAR_ok 2000 1 (by omega) (by omega)
 have hgn:GoodN (newAR 2000 1).nodes:=good_nil
 rcases Nat.lt_or_ge (newAR 2000 1).n (nw (buildM s)) with hfull|hroom
 ·have hRn:=rtNew_full hbY hok hgn s (by omega) hfull
  repeat' (first|refine len1L rfl ?_|refine is_ixRc rfl rfl (by omega) y7 ?_|refine is_ldc rfl y7 g7 rfl ?_|refine ruS rfl ?_|refine isS rfl ?_|refine rkS rfl ?_|refine is_lenR rfl ?_|(refine is_gtr rfl rfl (fun _=>?_) (fun _=>?_)<;>try (exfalso;omega))|(refine is_eql rfl rfl (fun _=>?_) (fun _=>?_)<;>try (exfalso;omega))|(refine is_neq rfl rfl (fun _=>?_) (fun _=>?_)<;>try (exfalso;omega))|refine is_subS rfl rfl (by omega) ?_|refine is_eqs rfl rfl rfl rfl ?_|refine is_boxG rfl rfl rfl ?_|refine is_stT rfl rfl rfl rfl rfl rfl ?_|refine is_callE rfl rfl rfl (hBy _) ?_|refine is_callE rfl rfl rfl (hWk _) ?_|refine is_callE rfl rfl rfl (hMk) ?_|refine is_callE rfl rfl rfl (hPk _) ?_|refine is_callE rfl rfl rfl (hNw) ?_|refine is_callE rfl rfl rfl (hRn) ?_)
  all_goals try contradiction
  all_goals try (exfalso;omega)
  all_goals refine end_st hA (by first|exact .inl rfl|exact .inr rfl) rfl rfl rfl rfl ?_
  all_goals rfl
 have hRn:=rtNew_c hbY hok hgn s (by omega) hroom
 obtain ⟨b1,b2,b3⟩:=buildM_ok hgn (show s.length≤65536 by omega)
 obtain ⟨w1,w2⟩:=wr_rt (r:=newAR 2000 1) (has_cur [] [] [] _) hok hgn b1 (by rw [b3];omega) hroom
 rw [b2] at w2
 rw [arSt_L] at hRn
 obtain ⟨Z,hZ⟩:∃ Z,Z=arL Y A.length B0 (wrV (buildM s) (newAR 2000 1)).1:=⟨_,rfl⟩
 rw [← hZ] at hRn
 have hyl:B0+5<Y.length:=get_lt hbY.h5
 have lZ:Z.length=Y.length:=by rw [hZ,arL_len]
 have z6:∀ U,(Z++U)[6]?=some (.arr 5 n (ros.map Ro.av)):=fun U=>by rw [List.getElem?_append_left (by omega),hZ,arL_ne _ (by omega)];exact y6
 have hbZ:Has ⟨A,false,Z⟩ A.length B0 (wrV (buildM s) (newAR 2000 1)).1:=by
  have:=hbY.put (wrV (buildM s) (newAR 2000 1)).1
  rw [arSt_L,← hZ] at this
  exact this
 have haZ:Has ⟨A,false,Z⟩ A.length 0 r:=haY.frmL fun i h1 h2=>by rw [hZ,arL_ne _ (by omega)]
 have gm:=w1.good
 generalize (wrV (buildM s) (newAR 2000 1)).2.1=q at *
 generalize (wrV (buildM s) (newAR 2000 1)).1=r2 at *
 have hm1:=hRt.m hgd
 have hm2:=w2.m gm
 have hem:=eqv3m (meaT s)
 have p1:partOf ro.av true 2 3=some (meaT s).av:=by rw [← hm1];rfl
 have p2:partOf q.av true 2 3=some (meaT s).av:=by rw [← hm2];rfl
 have z16:((Z++[Blk.arr 5 0 [q.av]])++[Blk.arr 5 0 [ro.av]])[Z.length]?=some (.arr 5 0 [q.av]):=by rw [List.append_assoc];exact get_app (i:=0)
 have hlp:=fun k Q hQ=>sk_loop (A:=A) (L:=(Z++[.arr 5 0 [q.av]])++[.arr 5 0 [ro.av]]) (N:=r.nodes) (M:=r2.nodes) (ro:=ro) (q:=q) (s:=s) (ns:=ns) (b2:=B0) (j6:=Z.length) (j7:=(Z++[Blk.arr 5 0 [q.av]]).length) hgd gm ((haZ.app _).app _).r.rd ((hbZ.app _).app _).r.rd hRt w2 (by omega) (by omega) (by rw [List.append_assoc];exact get_app (i:=0)) (List.getElem?_concat_length ..) (k:=k) (Q:=Q) hQ
 repeat' (first|refine len1L rfl ?_|refine is_ixRc rfl rfl (by omega) y7 ?_|refine is_ldc rfl y7 g7 rfl ?_|refine is_stRoX rfl rfl rfl ?_|refine is_ixRc rfl rfl (by omega) (z6 _) ?_|refine is_ldc rfl (z6 _) g6 (ro_part _) ?_|refine is_ldc rfl (List.getElem?_concat_length ..) rfl p1 ?_|refine is_ldc rfl z16 rfl p2 ?_|refine is_eqs rfl rfl hem rfl ?_|refine ruS rfl ?_|refine isS rfl ?_|refine rkS rfl ?_|refine is_lenR rfl ?_|(refine is_gtr rfl rfl (fun _=>?_) (fun _=>?_)<;>try (exfalso;omega))|(refine is_eql rfl rfl (fun _=>?_) (fun _=>?_)<;>try (exfalso;omega))|(refine is_neq rfl rfl (fun _=>?_) (fun _=>?_)<;>try (exfalso;omega))|refine is_subS rfl rfl (by omega) ?_|refine is_eqs rfl rfl rfl rfl ?_|refine is_boxG rfl rfl rfl ?_|refine is_callE rfl rfl rfl (hBy _) ?_|refine is_callE rfl rfl rfl (hWk _) ?_|refine is_callE rfl rfl rfl (hMk) ?_|refine is_callE rfl rfl rfl (hPk _) ?_|refine is_callE rfl rfl rfl (hNw) ?_|refine is_callE rfl rfl rfl (hRn) ?_|refine hlp _ _ ?_)
 all_goals try contradiction
 all_goals try (exfalso;omega)
 all_goals refine end_st hA (by first|exact .inl rfl|exact .inr rfl) rfl rfl rfl rfl ?_
 all_goals rfl
end Go.Q15
namespace Go.QAbs
open Go.ChangeShapes Go.WideShapes Go.RowKit Go.Deep
variable {P:Program}
def rho0:Rho:=⟨fun _ _=>⟨0,0,0⟩,fun _=>(0,[])⟩
theorem empty_get (lv ix:Nat):St.empty.get lv ix=none:=by
 unfold St.empty St.get
 split<;>simp [vis]
theorem empty_im {W:World} {b o:Nat} {v:Value} (h:W.cell? ⟨b,o,none⟩=some v):(cx .empty rho0 W 0).im b o v :=
 ⟨h,fun ⟨lv,ix,w,ver,es,hg,_⟩=>by rw [empty_get] at hg;simp at hg⟩
theorem walk_in (hm:P.follows .mixedOrders=true) {T:Tab} (hT:TabOk P T) {f:FuncId} {args:List AV} (h:∃ st',S T f args .empty=some (.bool true,st')) {W:World} {xs:List Value} (hg:KG P W (.of W)) (hx:RL (cx .empty rho0 W 0) args xs) :
 Calls P f xs.toArray W fun e W'=>e=.returned (.bool true)∧Below W.heap.size W W':=by
 obtain ⟨st',h⟩:=h
 refine (S_calls hm hT h hg (rel_empty W) hx).mono fun e' W' ⟨x,_,he,g,hv⟩=>?_
 subst he
 exact ⟨by rw [getBool hv],g.rel.below.b⟩
theorem lit_idx {W:World} {b off len cap w:Nat} (es:List AV) (g:Nat→Value) (hlen:es.length=len) (hc:len≤cap) (he:∀ (i:Nat) (e:AV),es[i]?=some e→R (cx .empty rho0 W 0).pure e (g i))
 (hg:∀ i,i<len→(g i).cells.size=w∧∀ (j:Nat) (v:Value),(g i).cells[j]?=some v→W.cell? ⟨b,off+i*w+j,none⟩=some v):R (cx .empty rho0 W 0) (.lit es) (.slice (some ⟨b,off,none⟩) len cap):=by
 subst hlen
 exact .lit (w:=w) g he (fun i hi=>⟨(hg i hi).1,fun j v hv=>empty_im ((hg i hi).2 j v hv)⟩) hc
section
variable {H:Type} {enc:TypeId × Value→H}
theorem open_strs_arg {W:World} {base:Nat} {t e:TypeId} {v:Value} {d:DataW H} {ps:List MemPlace} (ht:P.underlying t=some (.slice e)) (he:P.underlying e=some .string) (hc:P.cellsOf e=1)
 (hval:Value.okWide P W .any base t v) (h:DataW.Trod enc P W 0 (fun _=>true) true t v d ps) :
 ∃ ss:List (List UInt8),(∀ s∈ss,s.length≤maxLen)∧ss.length≤maxLen∧R (cx .empty rho0 W 0) (.lit (ss.map .str)) v:=by
 obtain ⟨a0,len,cap,rfl⟩:=okWide_slice ht hval
 obtain ⟨fuel,hf⟩:=h
 rcases open_strings ht he hc hf with ⟨hcs,hx⟩|⟨a,len',cap',ss,hcs,_,hl,hm,hz,hx,hcell,hsz⟩
 ·refine ⟨[],by simp,by simp,?_⟩
  have:(Value.slice a0 len cap)=.slice none 0 0:=by simpa [Value.cells] using hcs
  rw [this];exact .lit0 _ _
 ·have hv:(Value.slice a0 len cap)=.slice (some a) len' cap':=by simpa [Value.cells] using hcs
  rw [hv]
  simp only [if_true] at hz
  refine ⟨(ss.take len').map (fun s=>s.data.toList),?_,?_,?_⟩
  ·intro s hs
   obtain ⟨s',hs',rfl⟩:=List.mem_map.1 hs
   rw [Array.length_toList];exact hsz s' (List.mem_of_mem_take hs')
  ·rw [List.length_map,List.length_take];omega
  ·cases len' with
   | zero=>exact .lit0 _ _
   | succ n =>
    obtain ⟨b,off,spot⟩:=a
    have hspot:spot=none:=by simpa [Addr.add] using World.cell?_spot (hcell 0 (by omega))
    subst hspot
    refine lit_idx (w:=1) _ (fun i=>.string (ss.getD i ByteArray.empty)) (by simp;omega) hl (fun i e he=>?_) (fun i hi=>⟨rfl,fun j v hv=>?_⟩)
    ·rw [List.getElem?_map,List.getElem?_map,List.getElem?_take] at he
     by_cases hi:i<n+1
     ·rw [if_pos hi] at he
      have hs:ss[i]?=some (ss.getD i ByteArray.empty):=by
       have:i<ss.length:=by omega
       simp [List.getD,this]
      rw [hs] at he
      simp only [Option.map_some,oJ] at he
      subst he
      rw [str_eq (ss.getD i ByteArray.empty)]
      exact .str _
     ·rw [if_neg hi] at he;simp at he
    ·have hj : j = 0 := by
      have:j<(Value.string (ss.getD i ByteArray.empty)).cells.size:=(Array.getElem?_eq_some_iff.1 hv).1
      simp [Value.cells] at this;omega
     subst hj
     have hv':Value.string (ss.getD i ByteArray.empty)=v:=by simpa [Value.cells] using hv
     rw [← hv']
     have:=hcell i (by omega)
     simpa [Addr.add_lit] using this
theorem open_ops_arg {W:World} {base:Nat} {t e t0 t1 t2 t3 t4:TypeId} {f0 f1 f2 f3 f4:Field} {v:Value} {d:DataW H} {ps:List MemPlace} (ht:P.underlying t=some (.slice e)) (he:P.underlying e=some (.struct #[f0,f1,f2,f3,f4])) (hc:P.cellsOf e=5)
 (hf0:f0.type=t0∧f0.offset=0∧P.underlying t0=some (.int .u8)∧P.cellsOf t0=1) (hf1:f1.type=t1∧f1.offset=1∧P.underlying t1=some (.int .i64)∧P.cellsOf t1=1) (hf2:f2.type=t2∧f2.offset=2∧P.underlying t2=some (.int .i64)∧P.cellsOf t2=1)
 (hf3:f3.type=t3∧f3.offset=3∧P.underlying t3=some (.int .i64)∧P.cellsOf t3=1) (hf4:f4.type=t4∧f4.offset=4∧P.underlying t4=some .string∧P.cellsOf t4=1) (hval:Value.okWide P W .any base t v) (h:DataW.Trod enc P W 0 (fun _=>true) true t v d ps) :
 ∃ l:List (Nat × Int × Int × Int × List UInt8),(∀ s∈l,s.2.2.2.2.length≤maxLen)∧l.length≤maxLen∧R (cx .empty rho0 W 0) (.lit (l.map fun q=>.agg [.int .u8 q.1,.int .i64 q.2.1,.int .i64 q.2.2.1,.int .i64 q.2.2.2.1,.str q.2.2.2.2])) v:=by
 obtain ⟨a0,len,cap,rfl⟩:=okWide_slice ht hval
 obtain ⟨fuel,hf⟩:=h
 rcases open_slice ht hf with ⟨hcs,hx⟩|⟨a,len',cap',m,n,D,Pl,hcs,_,hl,hm,hmm,hx,hall⟩
 ·refine ⟨[],by simp,by simp,?_⟩
  have:(Value.slice a0 len cap)=.slice none 0 0:=by simpa [Value.cells] using hcs
  rw [this];exact .lit0 _ _
 ·have hv:(Value.slice a0 len cap)=.slice (some a) len' cap':=by simpa [Value.cells] using hcs
  rw [hv]
  simp only [if_true] at hmm
  subst hmm
  rw [hc] at hall
  have each:∀ i,i<len'→∃ q:Nat × Int × Int × Int × List UInt8,q.2.2.2.2.length≤maxLen∧W.cell? (a.add (i*5))=some (.int .u8 q.1)∧W.cell? (a.add (i*5+1))=some (.int .i64 q.2.1)∧W.cell? (a.add (i*5+2))=some (.int .i64 q.2.2.1)∧W.cell? (a.add (i*5+3))=some (.int .i64 q.2.2.2.1)∧W.cell? (a.add (i*5+4))=some (.string ⟨q.2.2.2.2.toArray⟩):=by
   intro i hi
   obtain ⟨cs',h1,h2⟩:=hall i (by omega)
   obtain ⟨_,hlen,hcell⟩:=World.cells?_some h1
   obtain ⟨xs,k,_,_,_,hxl,hfs⟩:=DataW.trod_struct he h2
   have g0:=hfs 0 f0 rfl
   have g1:=hfs 1 f1 rfl
   have g2:=hfs 2 f2 rfl
   have g3:=hfs 3 f3 rfl
   have g4:=hfs 4 f4 rfl
   match cs',hlen,xs,hxl with
   | [c0,c1,c2,c3,c4],_,[y0,y1,y2,y3,y4],_ =>
    simp only [hf0.1,hf0.2.1,hf0.2.2.2,hf1.1,hf1.2.1,hf1.2.2.2,hf2.1,hf2.2.1,hf2.2.2.2,hf3.1,hf3.2.1,hf3.2.2.2,hf4.1,hf4.2.1,hf4.2.2.2,List.drop,List.take,List.getElem?_cons_zero,List.getElem?_cons_succ] at g0 g1 g2 g3 g4
    obtain ⟨n0,e0,_,w0⟩:=DataW.trod_int hf0.2.2.1 g0
    obtain ⟨n1,e1,_,_⟩:=DataW.trod_int hf1.2.2.1 g1
    obtain ⟨n2,e2,_,_⟩:=DataW.trod_int hf2.2.2.1 g2
    obtain ⟨n3,e3,_,_⟩:=DataW.trod_int hf3.2.2.1 g3
    obtain ⟨s,e4,_,hs⟩:=DataW.trod_string hf4.2.2.1 g4
    simp only [List.cons.injEq,and_true] at e0 e1 e2 e3 e4
    subst e0;subst e1;subst e2;subst e3;subst e4
    have hn0:0≤n0:=by
     simp only [Lit.wf,Bool.and_eq_true,decide_eq_true_eq] at w0
     exact w0.1
    refine ⟨(n0.toNat,n1,n2,n3,s.data.toList),by simp only [Array.length_toList];exact hs,?_,?_,?_,?_,?_⟩
    ·have:=hcell 0 (by omega)
     simp only [add_add,Nat.add_zero,List.getElem?_cons_zero] at this
     rw [this];simp only [Int.toNat_of_nonneg hn0]
    ·have:=hcell 1 (by omega)
     simpa only [add_add,List.getElem?_cons_succ,List.getElem?_cons_zero] using this
    ·have:=hcell 2 (by omega)
     simpa only [add_add,List.getElem?_cons_succ,List.getElem?_cons_zero] using this
    ·have:=hcell 3 (by omega)
     simpa only [add_add,List.getElem?_cons_succ,List.getElem?_cons_zero] using this
    ·have:=hcell 4 (by omega)
     simp only [add_add,List.getElem?_cons_succ,List.getElem?_cons_zero] at this
     rw [this,str_eq s]
  obtain ⟨q,hq⟩:=choose_lt each
  refine ⟨(List.range len').map q,?_,by simp;omega,?_⟩
  ·intro s hs
   obtain ⟨i,hi,rfl⟩:=List.mem_map.1 hs
   exact (hq i (List.mem_range.1 hi)).1
  ·cases len' with
   | zero=>exact .lit0 _ _
   | succ len' =>
    obtain ⟨b,off,spot⟩:=a
    have hspot:spot=none:=by simpa [Addr.add] using World.cell?_spot (hq 0 (by omega)).2.1
    subst hspot
    refine lit_idx (w:=5) _ (fun i=>.agg #[.int .u8 (q i).1,.int .i64 (q i).2.1,.int .i64 (q i).2.2.1,.int .i64 (q i).2.2.2.1,.string ⟨(q i).2.2.2.2.toArray⟩]) (by simp) hl (fun i e he=>?_) (fun i hi=>⟨by simp [Value.cells],fun j v hv=>?_⟩)
    ·rw [List.getElem?_map,List.getElem?_map] at he
     by_cases hi:i<len'+1
     ·rw [List.getElem?_range hi] at he
      simp only [Option.map_some,oJ] at he
      subst he
      have hr:=RL.cons (C:=(cx .empty rho0 W 0).pure) (.int .u8 ((q i).1:Int)) (.cons (.int .i64 (q i).2.1) (.cons (.int .i64 (q i).2.2.1) (.cons (.int .i64 (q i).2.2.2.1) (.cons (.str (q i).2.2.2.2) (.nil _)))))
      exact .agg (xs:=[_,_,_,_,_]) hr.1 hr.2
     ·have:(List.range (len'+1))[i]?=none:=by simp;omega
      rw [this] at he;simp at he
    ·obtain ⟨_,k0,k1,k2,k3,k4⟩:=hq i hi
     have hj:j<5:=by
      have:=(Array.getElem?_eq_some_iff.1 hv).1
      simpa [Value.cells] using this
     simp only [Addr.add_lit] at k0 k1 k2 k3 k4
     match j,hj with
     | 0,_ =>
      have:v=.int .u8 (q i).1:=by simpa [Value.cells] using hv.symm
      subst this;simpa using k0
     | 1,_ =>
      have:v=.int .i64 (q i).2.1:=by simpa [Value.cells] using hv.symm
      subst this;simpa [Nat.add_assoc] using k1
     | 2,_ =>
      have:v=.int .i64 (q i).2.2.1:=by simpa [Value.cells] using hv.symm
      subst this;simpa [Nat.add_assoc] using k2
     | 3,_ =>
      have:v=.int .i64 (q i).2.2.2.1:=by simpa [Value.cells] using hv.symm
      subst this;simpa [Nat.add_assoc] using k3
     | 4,_ =>
      have:v=.string ⟨(q i).2.2.2.2.toArray⟩:=by simpa [Value.cells] using hv.symm
      subst this;simpa [Nat.add_assoc] using k4
end
end Go.QAbs
namespace Go.QAbs
open Go.ChangeShapes Go.WideShapes Go.RowKit Go.Deep
variable {P:Program}
section
variable {H:Type} {enc:TypeId × Value→H}
theorem open_ints_arg {W:World} {base:Nat} {t e:TypeId} {v:Value} {d:DataW H} {ps:List MemPlace} (ht:P.underlying t=some (.slice e)) (he:P.underlying e=some (.int .i64)) (hc:P.cellsOf e=1)
 (hval:Value.okWide P W .any base t v) (h:DataW.Trod enc P W 0 (fun _=>true) true t v d ps) :
 ∃ l:List Int,l.length≤maxLen∧R (cx .empty rho0 W 0) (.lit (l.map (.int .i64))) v:=by
 obtain ⟨a0,len,cap,rfl⟩:=okWide_slice ht hval
 obtain ⟨fuel,hf⟩:=h
 rcases open_ints ht he hc hf with ⟨hcs,hx⟩|⟨a,len',cap',zs,hcs,_,hl,hm,hz,hx,hcell,hsz⟩
 ·refine ⟨[],by simp,?_⟩
  have:(Value.slice a0 len cap)=.slice none 0 0:=by simpa [Value.cells] using hcs
  rw [this];exact .lit0 _ _
 ·have hv:(Value.slice a0 len cap)=.slice (some a) len' cap':=by simpa [Value.cells] using hcs
  rw [hv]
  simp only [if_true] at hz
  refine ⟨zs.take len',?_,?_⟩
  ·rw [List.length_take];omega
  ·cases len' with
   | zero=>exact .lit0 _ _
   | succ n =>
    obtain ⟨b,off,spot⟩:=a
    have hspot:spot=none:=by simpa [Addr.add] using World.cell?_spot (hcell 0 (by omega))
    subst hspot
    refine lit_idx (w:=1) _ (fun i=>.int .i64 (zs.getD i 0)) (by simp;omega) hl (fun i e he=>?_) (fun i hi=>⟨rfl,fun j v hv=>?_⟩)
    ·rw [List.getElem?_map,List.getElem?_take] at he
     by_cases hi:i<n+1
     ·rw [if_pos hi] at he
      have hs:zs[i]?=some (zs.getD i 0):=by
       have:i<zs.length:=by omega
       simp [List.getD,this]
      rw [hs] at he
      simp only [Option.map_some,oJ] at he
      subst he
      exact .int _ _
     ·rw [if_neg hi] at he;simp at he
    ·have hj : j = 0 := by
      have:j<(Value.int .i64 (zs.getD i 0)).cells.size:=(Array.getElem?_eq_some_iff.1 hv).1
      simp [Value.cells] at this;omega
     subst hj
     have hv':Value.int .i64 (zs.getD i 0)=v:=by simpa [Value.cells] using hv
     rw [← hv']
     have:=hcell i (by omega)
     simpa [Addr.add_lit] using this
end
end Go.QAbs
namespace Go.Proofs
open Go.Shelf
def Tryz.lays156_ren:Go.Shelf.Ren:=⟨fun|156=>152|165=>228|166=>229|169=>230|240=>261|241=>262|276=>282|277=>283|n=>n,fun|31=>22|9=>9|3=>3|4=>4|0=>0|20=>20|72=>299|76=>303|70=>297|37=>157|75=>302|127=>323|164=>342|5=>5|80=>305|n=>n,fun|n=>n⟩
theorem Tryz.lays156:Go.Proofs.Lays.n156 Tryz.prog Tryz.lays156_ren:={
 mixed:=by kernel_rfl
 f156:=Tryz.func152.trans (congrArg some (by kernel_rfl))
 f165:=Tryz.func228.trans (congrArg some (by kernel_rfl))
 f166:=Tryz.func229.trans (congrArg some (by kernel_rfl))
 f169:=Tryz.func230.trans (congrArg some (by kernel_rfl))
 f240:=Tryz.func261.trans (congrArg some (by kernel_rfl))
 f241:=Tryz.func262.trans (congrArg some (by kernel_rfl))
 f276:=Tryz.func282.trans (congrArg some (by kernel_rfl))
 f277:=Tryz.func283.trans (congrArg some (by kernel_rfl))
 t0:=Tryz.underlying0
 a0:=Tryz.isAgg0
 z0:=Tryz.sizeOf0
 v0:=Tryz.zeroValue0
 t3:=Tryz.underlying3
 a3:=Tryz.isAgg3
 z3:=Tryz.sizeOf3
 v3:=Tryz.zeroValue3
 t4:=Tryz.underlying4
 a4:=Tryz.isAgg4
 z4:=Tryz.sizeOf4
 v4:=Tryz.zeroValue4
 t9:=Tryz.underlying9
 a9:=Tryz.isAgg9
 z9:=Tryz.sizeOf9
 v9:=Tryz.zeroValue9
 t20:=Tryz.underlying20
 a20:=Tryz.isAgg20
 z20:=Tryz.sizeOf20
 v20:=Tryz.zeroValue20
 t31:=Tryz.underlying22
 a31:=Tryz.isAgg22
 z31:=Tryz.sizeOf22
 v31:=Tryz.zeroValue22
 t37:=Tryz.underlying157
 a37:=Tryz.isAgg157
 z37:=Tryz.sizeOf157
 v37:=Tryz.zeroValue157
 t70:=Tryz.underlying297
 a70:=Tryz.isAgg297
 z70:=Tryz.sizeOf297
 v70:=Tryz.zeroValue297
 t72:=Tryz.underlying299
 a72:=Tryz.isAgg299
 z72:=Tryz.sizeOf299
 v72:=Tryz.zeroValue299
 t75:=Tryz.underlying302
 a75:=Tryz.isAgg302
 z75:=Tryz.sizeOf302
 v75:=Tryz.zeroValue302
 t76:=Tryz.underlying303
 a76:=Tryz.isAgg303
 z76:=Tryz.sizeOf303
 v76:=Tryz.zeroValue303
 t127:=Tryz.underlying323
 a127:=Tryz.isAgg323
 z127:=Tryz.sizeOf323
 v127:=Tryz.zeroValue323
 t164:=Tryz.underlying342
 a164:=Tryz.isAgg342
 z164:=Tryz.sizeOf342
 v164:=Tryz.zeroValue342 }
theorem Tryz.Builder_Extra_156:Builder.Extra Tryz.prog Tryz.lays156_ren:={
 sizeBuilder:=by kernel_rfl
 liesBuilder:=by kernel_rfl
 t5:=Tryz.underlying5
 a5:=Tryz.isAgg5
 z5:=Tryz.sizeOf5
 v5:=Tryz.zeroValue5
 infoByte:=by kernel_rfl
 cellsByte:=by kernel_rfl
 sizeByte:=by kernel_rfl
 neB5:=by decide }
open Go.RowKit in
theorem Tryz.strings_Join_none (a:Option Addr) (c:Nat) (sep:ByteArray) (w:World) :
 Calls Tryz.prog 152 #[.slice a 0 c,.string sep] w fun e w'=>e=.returned (.string ⟨#[]⟩)∧w'=w:=Any.strings_Join_none Tryz.lays156 Tryz.Builder_Extra_156 a c sep w
open Go.RowKit in
theorem Tryz.strings_Join (bk o c:Nat) (xs:List ByteArray) (sep:ByteArray) (w:World) (hcells:∀ (j:Nat) x,xs[j]?=some x→w.cell? ⟨bk,o+j,none⟩=some (.string x)) (hbk:bk<w.heap.size) (hN:xs.length≤140737488355328) (hcap:xs.length≤c) (hlen:(Lib.join (xs.map (·.data.toList)) sep.data.toList).length≤140737488355328) :
 Calls Tryz.prog 152 #[.slice (some ⟨bk,o,none⟩) xs.length c,.string sep] w fun e w'=>e=.returned (.string ⟨(Lib.join (xs.map (·.data.toList)) sep.data.toList).toArray⟩)∧Below w.heap.size w w':=Any.strings_Join Tryz.lays156 Tryz.Builder_Extra_156 bk o c xs sep w hcells hbk hN hcap hlen
end Go.Proofs
namespace Go.Q15
open Go Go.QAbs
set_option maxRecDepth 100000
open Go.Shelf in
def cloneRen:Ren:=⟨fun|41=>179|n=>n,fun|22=>160|23=>239|n=>n,fun n=>n⟩
theorem cloneL:Go.Proofs.SlLaysE0.n41 Go.Proofs.Tryz.prog cloneRen:={
 mixed:=by kernel_rfl
 f41 := ⟨"slices.Clone[[]quarto/api.Kid,quarto/api.Kid]", by decide, Go.Proofs.Tryz.func179.trans (congrArg some (by kernel_rfl))⟩
 t4:=Go.Proofs.Tryz.underlying4
 a4:=Go.Proofs.Tryz.isAgg4
 z4:=Go.Proofs.Tryz.sizeOf4
 v4:=Go.Proofs.Tryz.zeroValue4
 t22:=Go.Proofs.Tryz.underlying160
 a22:=Go.Proofs.Tryz.isAgg160
 z22:=Go.Proofs.Tryz.sizeOf160
 v22:=Go.Proofs.Tryz.zeroValue160 }
theorem kid_info:∃ i z,Go.Proofs.Tryz.prog.info? 239=some i∧i.zero=some z∧i.size=4∧i.bytes=32∧z.cells.size=4:=⟨_,_,rfl,rfl,rfl,rfl,rfl⟩
theorem clone_ok15:EntOk Go.Proofs.Tryz.prog F_slices_Clone_api_Kid_api_Kid (.base (cloneO 4)):=by
 obtain ⟨i,z,h1,h2,h3,h4,h5⟩:=kid_info
 refine clone_ok (T:=239) (fun n c W=>Go.Proofs.AnyE.slices_Clone_nil cloneL n c W) fun ad n c news W hl hn hc ho=>?_
 exact clone_any cloneL i z 4 32 h1 h2 h3 h4 h5 (by decide) Go.Proofs.Tryz.sizeOf239 ad n c news W hl (by unfold maxLen;omega) (by omega) hc ho
theorem tl_all:AllOk Go.Proofs.Tryz.prog tl:=⟨⟨Go.Proofs.Tryz.call179,clone_ok15⟩,⟨Go.Proofs.Tryz.call152,join_ok Go.Proofs.Tryz.strings_Join_none Go.Proofs.Tryz.strings_Join⟩,tab_all⟩
theorem Tb_ok:TabOk Go.Proofs.Tryz.prog Tb:=tabOk_of tl_all
end Go.Q15
namespace Go.Q15
open Go Go.QAbs
set_option maxRecDepth 100000
def mkEd (q:Nat × Int × Int × Int × List UInt8):Ed:=⟨q.1,q.2.1,q.2.2.1,q.2.2.2.1,q.2.2.2.2⟩
theorem seekAlike_run (ss:List (List UInt8)) (l:List (Nat × Int × Int × Int × List UInt8)) (which:Int) (ns:List Int) (h1:∀ s∈ss,s.length≤maxLen) (h2:ss.length≤maxLen) (h3:∀ s∈l,s.2.2.2.2.length≤maxLen) (h4:l.length≤maxLen) (_h5:(Lit.int .i64 which).wf=true) (h6:ns.length≤maxLen) :
 ∃ st',S Tb F_quartolaw17_SeekAlike [.lit (ss.map .str),.lit (l.map fun q=>.agg [.int .u8 q.1,.int .i64 q.2.1,.int .i64 q.2.2.1,.int .i64 q.2.2.2.1,.str q.2.2.2.2]),.int .i64 which,.lit (ns.map (.int .i64))] .empty=some (.bool true,st'):=by
 have hm:maxLen<9223372036854775808:=by decide +kernel
 have:=SeekAlike_c ss (l.map mkEd) which ns (by omega) (fun s hs=>by have:=h1 s hs;omega) (by rw [List.length_map];omega) (fun s hs=>by obtain ⟨q,hq,rfl⟩:=List.mem_map.1 hs;have:=h3 q hq;simp only [mkEd];omega) (by omega) .empty
 rw [List.map_map] at this
 exact ⟨_,this⟩
end Go.Q15
