/- A part of the proof: SKc, SQe, SB, RZ, SD, SE, SF, SG, SI, SJ, SK, SL, SN, SQf, SKd, SSa, SSb, SSc, SSd, SSe, SSf, SSg, SSh, SSi, SSj, SSk, SSl, SSm, SSn, SKe, SKf, FY, FYi, TYg. No condition. -/
import Derived.SliceStrings
import Derived.Deep.Slices
import Derived.Carry
import Derived.ChangeSlices
import Derived.Test.YtbmllhocajbcfaaGreatSbT8
set_option linter.unusedVariables false
set_option linter.unusedSimpArgs false
namespace Go.Q15
open Go Go.QAbs
set_option maxRecDepth 100000
set_option maxHeartbeats 4000000
theorem nth_ex {p:UInt8→Bool} {s:List UInt8} {k:Nat} (h:k<s.countP p):∃ i c,NthB p s k i c:=by
 have key:∀ n,n≤s.length→k<(s.take n).countP p→∃ i c,NthB p s k i c:=by
  intro n
  induction n with
  | zero=>intro _ h;simp at h
  | succ n ih =>
   intro hn hk
   rcases Nat.lt_or_ge k ((s.take n).countP p) with q|q
   ·exact ih (by omega) q
   ·obtain ⟨c,hc⟩:∃ c,s[n]?=some c:=⟨_,List.getElem?_eq_getElem (by omega)⟩
    have hs:=count_take_succ (p:=p) hc
    by_cases hp:p c=true
    ·rw [if_pos hp] at hs
     exact ⟨n,c,hc,hp,by omega⟩
    ·rw [if_neg hp] at hs;omega
 exact key s.length (Nat.le_refl _) (by rw [List.take_length];exact h)
theorem next_ex {p:UInt8→Bool} {s:List UInt8} {a:Nat} (ha:a≤s.length):∃ i,a≤i∧i≤s.length∧(∀ m d,a≤m→m<i→s[m]?=some d→p d=false) ∧
 ((i=s.length∧(s.take a).countP p=s.countP p)∨∃ c,NthB p s ((s.take a).countP p) i c):=by
 have hle:=count_le_take (p:=p) (s:=s) ha
 rw [List.take_length] at hle
 have hcl:=fun m d (hm:s[m]?=some d)=>count_take_succ (p:=p) hm
 rcases Nat.lt_or_ge ((s.take a).countP p) (s.countP p) with q|q
 ·obtain ⟨i,c,hi⟩:=nth_ex q
  have hil:=(List.getElem?_eq_some_iff.1 hi.get).1
  have h1:=hcl i c hi.get
  rw [if_pos hi.is,hi.cnt] at h1
  refine ⟨i,?_,by omega,fun m d h2 h3 h4=>?_,.inr ⟨c,hi⟩⟩
  ·rcases Nat.lt_or_ge i a with w|w
   ·have:=count_le_take (p:=p) (s:=s) (i:=i+1) (j:=a) w
    omega
   ·exact w
  ·cases hp:p d with
   | false=>rfl
   | true =>
    have h5:=hcl m d h4
    rw [if_pos hp] at h5
    have:=count_le_take (p:=p) (s:=s) h2
    have:=count_le_take (p:=p) (s:=s) (i:=m+1) (j:=i) h3
    have:=hi.cnt
    omega
 ·refine ⟨s.length,ha,Nat.le_refl _,fun m d h2 h3 h4=>?_,.inl ⟨rfl,by omega⟩⟩
  cases hp:p d with
  | false=>rfl
  | true =>
   have h5:=hcl m d h4
   rw [if_pos hp] at h5
   have h6:=count_le_take (p:=p) (s:=s) h2
   have h7:=count_le_take (p:=p) (s:=s) (i:=m+1) (j:=s.length) h3
   rw [List.take_length] at h7
   omega
theorem prev_ex {p:UInt8→Bool} {s:List UInt8} {a:Nat} (ha:a≤s.length):((s.take a).countP p=0∧∀ m d,m<a→s[m]?=some d→p d=false) ∨
 ∃ k i c,(s.take a).countP p=k+1∧NthB p s k i c∧i+1≤a∧∀ m d,i+1≤m→m<a→s[m]?=some d→p d=false:=by
 have hle:=count_le_take (p:=p) (s:=s) ha
 rw [List.take_length] at hle
 have hcl:=fun m d (hm:s[m]?=some d)=>count_take_succ (p:=p) hm
 rcases Nat.eq_zero_or_pos ((s.take a).countP p) with q|q
 ·refine .inl ⟨q,fun m d h2 h3=>?_⟩
  cases hp:p d with
  | false=>rfl
  | true =>
   have h5:=hcl m d h3
   rw [if_pos hp] at h5
   have:=count_le_take (p:=p) (s:=s) (i:=m+1) (j:=a) h2
   omega
 ·obtain ⟨k,hk⟩:∃ k,(s.take a).countP p=k+1:=⟨(s.take a).countP p-1,by omega⟩
  obtain ⟨i,c,hi⟩:=nth_ex (p:=p) (s:=s) (k:=k) (by omega)
  have h1:=hcl i c hi.get
  rw [if_pos hi.is,hi.cnt] at h1
  refine .inr ⟨k,i,c,hk,hi,?_,fun m d h2 h3 h4=>?_⟩
  ·rcases Nat.lt_or_ge i a with w|w
   ·exact w
   ·have:=count_le_take (p:=p) (s:=s) w
    rw [hi.cnt] at this
    omega
  ·cases hp:p d with
   | false=>rfl
   | true =>
    have h5:=hcl m d h4
    rw [if_pos hp] at h5
    have:=count_le_take (p:=p) (s:=s) h2
    have:=count_le_take (p:=p) (s:=s) (i:=m+1) (j:=a) h3
    omega
section
variable {N:Nodes} {r:Ro} {s:List UInt8} {la b:Nat}
theorem rune_at (hN:GoodN N) (h:Rt N r s) (hs:s.length≤100000) {k:Int} (h0:0≤k) (h1:k≤r.m.r):∃ a:Int,0≤a∧a≤s.length∧(a=s.length→¬ k<r.m.r)∧(a<s.length→(((s.take a.toNat).countP beginsB:Nat):Int)=k) ∧
 ∀ {st:St},Rd st la (b+5) N→S Tb F_seek_Rune [.ptr la (b+5) 0 0 0,r.av,.int .i64 k] st=some (.tup [.int .i64 a,.int .i64 0],st):=by
 have hm:=h.m hN
 have hmr:r.m.r=s.countP beginsB:=by rw [hm];rfl
 rcases Int.lt_or_le k r.m.r with q|q
 ·obtain ⟨i,c,hi⟩:=nth_ex (p:=beginsB) (s:=s) (k:=k.toNat) (by omega)
  have hil:=(List.getElem?_eq_some_iff.1 hi.get).1
  refine ⟨i,by omega,by omega,fun e=>by omega,fun _=>?_,fun hR=>?_⟩
  ·rw [show ((i:Nat):Int).toNat=i by omega,hi.cnt];omega
  ·have:=Rune_c hN hR h hi hs
   rw [show ((k.toNat:Nat):Int)=k by omega] at this
   exact this
 ·refine ⟨s.length,by omega,by omega,fun _=>by omega,fun e=>by omega,fun hR=>?_⟩
  have:=Rune_end hN hR h hs
  rw [← hmr,show r.m.r=k by omega] at this
  exact this
theorem line_at (hN:GoodN N) (h:Rt N r s) (hs:s.length≤100000) {k:Int} (h0:0≤k) (h1:k≤r.m.l):∃ a:Int,0≤a∧a≤s.length∧(((s.take a.toNat).countP feedsB:Nat):Int)=k∧(0<a→s[(a-1).toNat]?=some 10) ∧
 ∀ {st:St},Rd st la (b+5) N→S Tb F_seek_Line [.ptr la (b+5) 0 0 0,r.av,.int .i64 k] st=some (.tup [.int .i64 a,.int .i64 0],st):=by
 have hm:=h.m hN
 have hmr:r.m.l=s.countP feedsB:=by rw [hm];rfl
 rcases Int.lt_or_le 0 k with q|q
 ·obtain ⟨i,c,hi⟩:=nth_ex (p:=feedsB) (s:=s) (k:=(k-1).toNat) (by omega)
  have hil:=(List.getElem?_eq_some_iff.1 hi.get).1
  have h2:=count_take_succ (p:=feedsB) hi.get
  rw [if_pos hi.is,hi.cnt] at h2
  refine ⟨(i:Int)+1,by omega,by omega,?_,fun _=>?_,fun hR=>?_⟩
  ·rw [show ((i:Int)+1).toNat=i+1 by omega,h2];omega
  ·have hc : c = 10 := by
    have:=hi.is
    unfold feedsB at this
    have h10:c.toNat=10:=by simpa using this
    exact UInt8.toNat_inj.1 h10
   rw [show ((i:Int)+1-1).toNat=i by omega,hi.get,hc]
  ·have:=Line_c hN hR h hi hs
   rw [show (((k-1).toNat:Nat):Int)+1=k by omega] at this
   exact this
 ·obtain rfl:k=0:=by omega
  exact ⟨0,by omega,by omega,by simp,fun e=>by omega,fun hR=>Line_zero hN hR h hs⟩
theorem next_at (hN:GoodN N) (h:Rt N r s) (hs:s.length≤100000) {a:Int} (h0:0≤a) (h1:a≤s.length):∃ x:Int,a≤x∧x≤s.length∧(∀ (m:Int) d,a≤m→m<x→s[m.toNat]?=some d→beginsB d=false) ∧
 (∀ {st:St},Rd st la (b+5) N→S Tb F_seek_Rune [.ptr la (b+5) 0 0 0,r.av,.int .i64 (((s.take a.toNat).countP beginsB:Nat):Int)] st=some (.tup [.int .i64 x,.int .i64 0],st)) ∧
 (∀ {st:St},Rd st la (b+5) N→S Tb F_seek_Boundary [.ptr la (b+5) 0 0 0,r.av,.int .i64 x] st=some (.tup [.bool true,.int .i64 0],st)):=by
 obtain ⟨i,i1,i2,i3,i4⟩:=next_ex (p:=beginsB) (s:=s) (a:=a.toNat) (by omega)
 refine ⟨i,by omega,by omega,fun m d h2 h3 h4=>i3 m.toNat d (by omega) (by omega) h4,?_,?_⟩
 ·intro st hR
  rcases i4 with ⟨rfl,e⟩|⟨c,hi⟩
  ·rw [e];exact Rune_end hN hR h hs
  ·exact Rune_c hN hR h hi hs
 ·intro st hR
  rcases i4 with ⟨rfl,e⟩|⟨c,hi⟩
  ·exact Boundary_end hN hR h hs
  ·have:=Boundary_c hN hR h hi.get hs
   rw [hi.is] at this
   exact this
theorem begin_at (hN:GoodN N) (h:Rt N r s) (hs:s.length≤100000) {a:Int} (h0:0≤a) (h1:a≤s.length):∃ x:Int,0≤x∧x≤a∧(∀ (m:Int) d,x≤m→m<a→s[m.toNat]?=some d→feedsB d=false) ∧
 (∀ {st:St},Rd st la (b+5) N→S Tb F_seek_Line [.ptr la (b+5) 0 0 0,r.av,.int .i64 (((s.take a.toNat).countP feedsB:Nat):Int)] st=some (.tup [.int .i64 x,.int .i64 0],st)):=by
 rcases prev_ex (p:=feedsB) (s:=s) (a:=a.toNat) (by omega) with ⟨e,i3⟩|⟨k,i,c,e,hi,i2,i3⟩
 ·refine ⟨0,by omega,by omega,fun m d h2 h3 h4=>i3 m.toNat d (by omega) h4,?_⟩
  intro st hR
  rw [e];exact Line_zero hN hR h hs
 ·refine ⟨(i:Int)+1,by omega,by omega,fun m d h2 h3 h4=>i3 m.toNat d (by omega) (by omega) h4,?_⟩
  intro st hR
  rw [e]
  exact Line_c hN hR h hi hs
end
end Go.Q15
namespace Go.Q15
open Go Go.QAbs
set_option maxRecDepth 100000
set_option maxHeartbeats 8000000
def exT:List UInt8:=[97,195,177,10,98,99,100,101,102,103,104,105,106,107,108,109,110]
theorem exT_build:buildM exT=.mk 0 1 .zero [] (some [leafT [97,195,177,10,98,99,100,101,102],leafT [103,104,105,106,107,108,109,110]]):=by
 rfl
noncomputable def exTR:AR:=(wrV (buildM exT) (newAR 8 4)).1
def exTRo:Ro:=⟨65538,1,⟨17,16,1⟩⟩
theorem exT_ro:(wrV (buildM exT) (newAR 8 4)).2.1=exTRo:=by
 rw [exT_build];rfl
theorem exT_nw:nw (buildM exT)=3:=by rw [exT_build];rfl
theorem small17_c (A:List (Bool × List Blk)):S Tb F_quartolaw17_small [] ⟨A,false,[]⟩=some (.tup [.ptr A.length 6 0 0 0,exTRo.av,.bool true],⟨A,false,[.arr 5 0 [exTRo.av]]++(arB A.length 1 exTR++[.arr 5 0 [exTRo.av]])⟩):=by
 have hN:=arNew_c 8 4 (by omega) (by omega) A [.arr 5 0 [Ro.zero.av]]
 have h1:=rtNew_c (has_cur A [.arr 5 0 [Ro.zero.av]] [] (newAR 8 4)) (newAR_ok 8 4 (by omega) (by omega)) good_nil exT (by decide) (by rw [exT_nw];decide)
 rw [arSt_cur,exT_ro] at h1
 change S Tb F_rope_New [.ptr A.length 6 0 0 0,.str exT] ⟨A,false,_⟩=some (_,⟨A,false,[.arr 5 0 [Ro.zero.av]]++(arB A.length 1 exTR++[])⟩) at h1
 refine s_keep rfl ?_
 repeat' (first|refine ru_seq ?_|refine ru_reg ?_|refine is_mv rfl ?_|refine is_gT rfl ?_|refine is_pick rfl rfl rfl rfl ?_|refine is_ext rfl rfl ?_|refine is_nil rfl ?_|refine rk_seq ?_|(refine is_neq rfl rfl (fun _=>?_) (fun _=>?_)<;>try (exfalso;omega))|refine ru_iteF rfl ?_|refine is_eqs rfl rfl rfl rfl ?_|refine is_box rfl rfl rfl ?_|refine is_callE rfl rfl rfl (hN) ?_|refine ru_skip ?_)
 all_goals try contradiction
 all_goals try (exfalso;omega)
 unfold exT at h1
 refine is_callE rfl rfl rfl h1 ?_
 change Is _ _ _ _ _ _ ⟨A,false,[.arr 5 0 [Ro.zero.av],exTR.b0,exTR.b1,exTR.b2,exTR.b3 A.length 1,exTR.b4,exTR.b5 A.length 1]⟩
 generalize hb0:exTR.b0=b0 at *
 generalize hb1:exTR.b1=b1 at *
 generalize hb2:exTR.b2=b2 at *
 generalize hb3:exTR.b3 A.length 1=b3 at *
 generalize hb4:exTR.b4=b4 at *
 generalize hb5:exTR.b5 A.length 1=b5 at *
 repeat' (first|refine is_hideLd rfl rfl rfl rfl rfl rfl ?_|refine is_plainSt rfl rfl rfl rfl rfl rfl rfl ?_|refine ru_seq ?_|refine ru_reg ?_|refine is_mv rfl ?_|refine is_fadr rfl rfl ?_|refine is_ldc rfl rfl rfl rfl ?_|refine is_gT rfl ?_|refine is_pick rfl rfl rfl rfl ?_|refine is_ext rfl rfl ?_|refine is_nil rfl ?_|refine rk_seq ?_|(refine is_eql rfl rfl (fun _=>?_) (fun _=>?_)<;>try (exfalso;omega))|refine is_box rfl rfl rfl ?_|refine is_stb rfl rfl rfl rfl rfl rfl ?_|refine ru_ret ?_|refine rk_nil ?_)
 all_goals first|exact absurd rfl ‹_›|(refine (end_kc (.inr rfl) rfl rfl rfl rfl rfl).trans ?_;subst hb0 hb1 hb2 hb3 hb4 hb5;rfl)
theorem exT_ok:AROk exTR∧GoodN exTR.nodes∧Rt exTR.nodes exTRo exT:=by
 obtain ⟨b1,b2,b3⟩:=buildM_ok good_nil (s:=exT) (by decide)
 have ho:=newAR_ok 8 4 (by omega) (by omega)
 obtain ⟨w1,w2⟩:=wr_rt (r:=newAR 8 4) (has_cur [] [] [] _) ho good_nil b1 (by rw [b3];decide) (by rw [exT_nw];decide)
 rw [show (newAR 8 4).nodes=[] from rfl,b2,exT_ro] at w2
 exact ⟨w1.ok,w1.good,w2⟩
theorem works17_c (st:St):S Tb F_quartolaw17_works [] st=some (.bool true,st):=by
 refine s_of rfl (fun A hA=>?_)
 obtain ⟨o1,o2,o3⟩:=exT_ok
 have hS:=small17_c A
 have hR:=fun T=>Rune_c (n:=2) (i:=3) (c:=10) o2 (has_cur A [.arr 5 0 [exTRo.av]] T exTR).r.rd o3 ⟨rfl,by decide,by decide⟩ (by decide)
 have hB:=fun T=>Byte_t (i:=16) (c:=110) o2 (has_cur A [.arr 5 0 [exTRo.av]] T exTR).r.rd o3 rfl (by decide)
 change ∀ T,S Tb F_seek_Rune [.ptr A.length 6 0 0 0,exTRo.av,.int .i64 2] ⟨A,false,.arr 5 0 [exTRo.av]::exTR.b0::exTR.b1::exTR.b2::exTR.b3 A.length 1::exTR.b4::exTR.b5 A.length 1::T⟩=some (.tup [.int .i64 3,.int .i64 0],⟨A,false,.arr 5 0 [exTRo.av]::exTR.b0::exTR.b1::exTR.b2::exTR.b3 A.length 1::exTR.b4::exTR.b5 A.length 1::T⟩) at hR
 change ∀ T,S Tb F_seek_Byte [.ptr A.length 6 0 0 0,exTRo.av,.int .i64 16] ⟨A,false,.arr 5 0 [exTRo.av]::exTR.b0::exTR.b1::exTR.b2::exTR.b3 A.length 1::exTR.b4::exTR.b5 A.length 1::T⟩=some (.tup [.int .u8 110,.int .i64 0],⟨A,false,.arr 5 0 [exTRo.av]::exTR.b0::exTR.b1::exTR.b2::exTR.b3 A.length 1::exTR.b4::exTR.b5 A.length 1::T⟩) at hB
 change S Tb F_quartolaw17_small [] ⟨A,false,[]⟩=some (_,⟨A,false,.arr 5 0 [exTRo.av]::exTR.b0::exTR.b1::exTR.b2::exTR.b3 A.length 1::exTR.b4::exTR.b5 A.length 1::[.arr 5 0 [exTRo.av]]⟩) at hS
 generalize exTR.b0=b0 at *
 generalize exTR.b1=b1 at *
 generalize exTR.b2=b2 at *
 generalize exTR.b3 A.length 1=b3 at *
 generalize exTR.b4=b4 at *
 generalize exTR.b5 A.length 1=b5 at *
 repeat' (first|refine ru_seq ?_|refine ru_reg ?_|refine is_mv rfl ?_|refine is_ldc rfl rfl rfl rfl ?_|refine is_gT rfl ?_|refine is_pick rfl rfl rfl rfl ?_|refine is_ext rfl rfl ?_|refine is_nil rfl ?_|refine rk_seq ?_|(refine is_eql rfl rfl (fun _=>?_) (fun _=>?_)<;>try (exfalso;omega))|refine ru_iteF rfl ?_|refine is_not rfl rfl ?_|refine is_box rfl rfl rfl ?_|refine is_stb rfl rfl rfl rfl rfl rfl ?_|refine is_callE rfl rfl rfl (hS) ?_|refine is_callE rfl rfl rfl (hR _) ?_|refine is_callE rfl rfl rfl (hB _) ?_|refine ru_skip ?_|refine ru_ret ?_|refine rk_nil ?_)
 all_goals try contradiction
 all_goals try (exfalso;omega)
 refine end_st hA (by first|exact .inl rfl|exact .inr rfl) rfl rfl rfl rfl ?_
 rfl
end Go.Q15
namespace Go.Q15
open Go Go.QAbs
set_option maxRecDepth 100000
set_option maxHeartbeats 8000000
end Go.Q15
namespace Go.Q15
open Go Go.QAbs
set_option maxRecDepth 100000
set_option maxHeartbeats 16000000
def ltL (n:Nat) (r:AR) (v:Nat) (ros:List Ro) (G0:List Blk) (w:Nat) (ss:List (List UInt8)) (G1:List Blk):List Blk :=
 r.b0::r.b1::r.b2::r.b3 n 0::r.b4::r.b5 n 0::.arr 5 v (ros.map Ro.av)::(G0++.arr 1 w (ss.map .str)::G1)
section
variable {A:List (Bool × List Blk)} {r:AR} {v:Nat} {ros:List Ro} {G0:List Blk} {w:Nat} {ss:List (List UInt8)} {G1:List Blk}
theorem lt_has:Has ⟨A,false,ltL A.length r v ros G0 w ss G1⟩ A.length 0 r:=has_cur A [] (.arr 5 v (ros.map Ro.av)::(G0++.arr 1 w (ss.map .str)::G1)) r
theorem lt_rd:Rd ⟨A,false,ltL A.length r v ros G0 w ss G1⟩ A.length 5 r.nodes:=(lt_has).r.rd
theorem lt_set (r':AR):arSt ⟨A,false,ltL A.length r v ros G0 w ss G1⟩ A.length 0 r'=⟨A,false,ltL A.length r' v ros G0 w ss G1⟩:=arSt_cur A [] (.arr 5 v (ros.map Ro.av)::(G0++.arr 1 w (ss.map .str)::G1)) r r'
theorem lt_6 {n:Nat}:(ltL n r v ros G0 w ss G1)[6]?=some (.arr 5 v (ros.map Ro.av)):=rfl
theorem lt_7 {n:Nat}:(ltL n r v ros G0 w ss G1)[7+G0.length]?=some (.arr 1 w (ss.map .str)):=by
 rw [show 7+G0.length=G0.length+7 by omega]
 show (G0++.arr 1 w (ss.map .str)::G1)[G0.length]?=_
 exact get_at _ _ _
theorem lt_box {n:Nat} (b:Blk):ltL n r v ros G0 w ss G1++[b]=ltL n r v ros G0 w ss (G1++[b]):=by simp [ltL]
theorem lt_set6 {n:Nat} (v':Nat) (x:Ro):(ltL n r v ros G0 w ss G1).set 6 (.arr 5 v' (ros.map Ro.av++[x.av]))=ltL n r v' (ros++[x]) G0 w ss G1:=by
 unfold ltL;rw [List.map_append];rfl
theorem lt_set7 {n:Nat} (w':Nat) (s:List UInt8):(ltL n r v ros G0 w ss G1).set (7+G0.length) (.arr 1 w' (ss.map .str++[.str s]))=ltL n r v ros G0 w' (ss++[s]) G1:=by
 rw [show 7+G0.length=G0.length+7 by omega]
 unfold ltL
 simp only [List.set_cons_succ,List.map_append]
 rw [show (G0++Blk.arr 1 w (ss.map .str)::G1).set G0.length (Blk.arr 1 w' (ss.map .str++[AV.str s]))=G0++Blk.arr 1 w' (ss.map .str++[AV.str s])::G1 by simp]
 rfl
end
theorem single_slc {ys:List Ed} {i:Nat} {y:Ed} (h:ys[i]?=some y):((ys.map Ed.av).drop i).take (i+1-i)=[y].map Ed.av:=by
 rw [← List.map_drop,← List.map_take,show i+1-i=1 by omega]
 obtain ⟨h1,h2⟩:=List.getElem?_eq_some_iff.1 h
 rw [List.drop_eq_getElem_cons h1,h2];rfl
theorem eds_wide (ys:List Ed):sameW 5 (ys.map Ed.av)=true:=by
 induction ys with
 | nil=>rfl
 | cons b s ih=>rw [List.map_cons,sameW,List.all_cons];exact Bool.and_eq_true_iff.2 ⟨rfl,ih⟩
theorem is_slc1 {O:Orc} {k:List Fr} {Q:Post} {e:Env} {st:St} {keep:List Nat} {is:List QAbs.PI} {d:Nat} {ys:List Ed} {i:Nat} {y:Ed} {x a b:Opd} {z:Int} (hx:opdO e x=some (.lit (ys.map Ed.av))) (ha:opdO e a=some (.int .i64 i)) (hb:opdO e b=some (.int .i64 z)) (hz:z=i+1) (hy:ys[i]?=some y)
 (h:Is O is keep k Q ((d,.lit ([y].map Ed.av))::e) st):Is O (⟨some d,none,false,.slc 5 x (some a) (some b)⟩::is) keep k Q e st:=by
 have hlt:=(List.getElem?_eq_some_iff.1 hy).1
 refine is_slcL (r:=i+1) (l:=i) hx ?_ ?_ (eds_wide _) ?_
 ·simp only [oget,opdO_some hb,boundV,List.length_map]
  rw [if_pos (by omega)];congr 1;omega
 ·simp only [oget,opdO_some ha,boundV]
  rw [if_pos (by omega)];rfl
 ·rw [single_slc hy];exact h
end Go.Q15
namespace Go.Q15
open Go Go.QAbs
set_option maxRecDepth 100000
set_option maxHeartbeats 16000000
end Go.Q15
namespace Go.Q15
open Go Go.QAbs
set_option maxRecDepth 100000
set_option maxHeartbeats 16000000
end Go.Q15
namespace Go.Q15
open Go Go.QAbs
set_option maxRecDepth 100000
set_option maxHeartbeats 16000000
theorem guards {texts:List (List UInt8)} {ys:List Ed} (hl:¬ longP texts) (hm:¬ manyQ ys):(texts.flatten.length≤900∧texts.length≤4)∧ys.length≤60∧∀ y∈ys,y.text.length≤200:=by
 refine ⟨?_,manyQ_no hm⟩
 have:=longP_no hl
 rw [List.length_flatten]
 omega
theorem laid_small {texts:List (List UInt8)} (h9:texts.flatten.length≤900):∀ s∈texts,s.length≤900:=by
 intro s hs
 obtain ⟨i,hi,rfl⟩:=List.getElem_of_mem hs
 have h1:=flat_get (l:=texts) (List.getElem?_eq_getElem hi)
 have h2:=flat_le texts (i+1)
 rw [h1,lL] at h2
 omega
end Go.Q15
namespace Go.Q15
open Go Go.QAbs
set_option maxRecDepth 100000
set_option maxHeartbeats 8000000
end Go.Q15
namespace Go.Q15
open Go Go.QAbs
set_option maxRecDepth 100000
set_option maxHeartbeats 8000000
end Go.Q15
namespace Go.Q15
open Go Go.QAbs
set_option maxRecDepth 100000
set_option maxHeartbeats 8000000
end Go.Q15
namespace Go.Q15
open Go Go.QAbs
set_option maxRecDepth 100000
set_option maxHeartbeats 16000000
end Go.Q15
namespace Go.Q15
open Go Go.QAbs
set_option maxRecDepth 100000
set_option maxHeartbeats 16000000
theorem laidV_nl (texts:List (List UInt8)) (hl:texts.flatten.length≤900):∀ i,i≤texts.length→(laidV (texts.take i)).1.nodes.length+(laidV (texts.take i)).1.n=1500:=by
 intro i
 induction i with
 | zero=>intro _;simp [laidV,newAR]
 | succ i ih =>
  intro hi
  obtain ⟨s,hs⟩:∃ s,texts[i]?=some s:=⟨texts[i]'(by omega),by simp [show i<texts.length by omega]⟩
  have hl2:=flat_le texts (i+1)
  have h:=laidV_ok texts hl i (by omega)
  obtain ⟨hn,_⟩:=laidF_ok (s:=s) h (by rw [← take_succ_get hs];omega)
  have hfl:=flat_get hs
  have hs2:s.length≤900:=by rw [hfl,lL] at hl2;omega
  obtain ⟨b1,b2,b3⟩:=buildM_ok h.good (show s.length≤65536 by omega)
  obtain ⟨w1,_⟩:=wr_rt (has_cur [] [] [] _) h.ok h.good b1 (by rw [b3];omega) hn
  have h1:=w1.n
  have h2:=w1.nl
  have h3:=ih (by omega)
  rw [take_succ_get hs,laidV_snoc]
  show (wrV (buildM s) _).1.nodes.length+(wrV (buildM s) _).1.n=1500
  omega
end Go.Q15
namespace Go.Q15
open Go Go.QAbs
set_option maxRecDepth 100000
set_option maxHeartbeats 16000000
theorem planV_le {N:Nodes} (hN:GoodN N) {ros:List Ro} (h:PlanOk N ros) {y:Ed} (hy:y.text.length≤200) {B:Int} (hB:0≤B) (hr:∀ r∈ros,r.m.b≤B):(planV N ros y).bytes≤B+200:=by
 unfold planV
 match hq:pickR ros y.n with
 | none =>
  obtain ⟨b1,b2,b3⟩:=buildM_ok hN (s:=y.text) (by omega)
  show (buildM y.text).bytes≤_;omega
 | some r =>
  have hm:=List.mem_of_getElem? (show ros[_]?=some r from hq)
  obtain ⟨h1,h2,h3,h4⟩:=h.rt r hm
  have h5:=hr r hm
  have p1:=pickM_bounds (x:=y.at_) h3
  have p2:=pickM_bounds (x:=y.len) (n:=r.m.b-pickM y.at_ r.m.b) (by omega)
  have:=replM_ok hN (s:=y.text) h1.keep (a:=pickM y.at_ r.m.b) (n:=pickM y.len (r.m.b-pickM y.at_ r.m.b)) p1.1 p2.1 (by omega) (by omega) (by omega)
  show (Tr.own _).bytes≤_
  rw [own_bytes,this.bytes];omega
structure MkInv (r:AR) (ros:List Ro) (ss:List (List UInt8)) (n:Nat) (B:Nat):Prop where
 ok:AROk r
 good:GoodN r.nodes
 rts:Rts r.nodes ros ss
 len:ros.length=n
 n20:n≤20
 small:∀ s∈ss,s.length≤B
 nl:r.nodes.length+r.n=1500
theorem MkInv.plan {r:AR} {ros:List Ro} {ss:List (List UInt8)} {n B:Nat} (h:MkInv r ros ss n B) (hB:B≤60000):PlanOk r.nodes ros:=h.rts.plan h.good (by have:=h.len;have:=h.n20;omega) (fun s hs=>by have:=h.small s hs;omega)
theorem MkInv.mb {r:AR} {ros:List Ro} {ss:List (List UInt8)} {n B:Nat} (h:MkInv r ros ss n B):∀ ro∈ros,ro.m.b≤(B:Int):=by
 intro ro hr
 obtain ⟨i,hi,rfl⟩:=List.getElem_of_mem hr
 have hi2:i<ss.length:=by rw [← h.rts.1];exact hi
 have g:=h.rts.2 i _ _ (List.getElem?_eq_getElem hi) (List.getElem?_eq_getElem hi2)
 have:=(g.b h.good).2
 have:=h.small _ (List.getElem_mem hi2)
 omega
theorem Make_c (texts:List (List UInt8)) (ys:List Ed) (h9:texts.flatten.length≤900∧texts.length≤4) (hy12:ys.length≤12) (hys:∀ y∈ys,y.text.length≤200) (A:List (Bool × List Blk)) :
 Sp Tb F_quartolaw16_Make [.lit (texts.map .str),.lit (ys.map Ed.av)] ⟨A,false,[]⟩ (fun v st'=>∃ r c ros ss G0 G1 n,v=.tup [.ptr A.length 5 0 0 0,.ref A.length 6 n 0 n,.ref A.length (7+G0.length) c 0 n,.bool true]∧st'=⟨A,false,ltL A.length r n ros G0 c ss G1⟩∧MkInv r ros ss n 3300):=by
 refine sp_keep (rfl:Tb F_quartolaw16_Make=some (.pf p_quartolaw16_Make)) ?_
 have hLd:=laid_c texts h9.1 h9.2 A []
 have hLok:=laidV_ok texts h9.1 texts.length (Nat.le_refl _)
 have hnl0:=laidV_nl texts h9.1 texts.length (Nat.le_refl _)
 rw [List.take_length] at hLok hnl0
 have hrl:=hLok.rts.1
 obtain ⟨r0,ros0,hV⟩:∃ r0 ros0,laidV texts=(r0,ros0):=⟨_,_,rfl⟩
 rw [hV] at hLd hLok hrl hnl0
 simp only at hLd hLok hrl hnl0
 have hG:(boxesR ros0).length=texts.length:=by unfold boxesR;rw [List.length_map,hrl]
 generalize boxesR ros0=G0 at *
 change S Tb F_quartolaw16_laid [.lit (texts.map .str)] ⟨A,false,[]⟩=some (.tup [.ptr A.length 5 0 0 0,.ref A.length 6 texts.length 0 texts.length,.bool true],⟨A,false,r0.b0::r0.b1::r0.b2::r0.b3 A.length 0::r0.b4::r0.b5 A.length 0::.arr 5 texts.length (ros0.map Ro.av)::G0⟩) at hLd
 repeat' (first|refine ru_seq ?_|refine ru_reg ?_|refine is_mv rfl ?_|refine is_ext rfl rfl ?_|refine is_nil rfl ?_|refine rk_seq ?_|refine ru_iteF rfl ?_|refine is_not rfl rfl ?_|refine is_bslFO rfl rfl rfl rfl ?_|refine is_callE rfl rfl rfl (hLd) ?_|refine ru_skip ?_)
 all_goals try contradiction
 refine is_appNilG (vx:=.lit (texts.map .str)) (ys:=texts.map .str) (bytes:=16) rfl rfl rfl (by rw [List.length_map];omega) (by decide) (strs_wide _) ?_
 repeat' (first|refine ru_seq ?_|refine ru_reg ?_|refine is_mv rfl ?_|refine is_nil rfl ?_|refine rk_seq ?_|refine ru_block ?_)
 have hl7:(r0.b0::r0.b1::r0.b2::r0.b3 A.length 0::r0.b4::r0.b5 A.length 0::Blk.arr 5 texts.length (ros0.map Ro.av)::G0).length=7+G0.length:=by simp;omega
 rw [hl7,List.length_map]
 refine ru_loopP (α:=Nat × Nat × AR × List Ro × List (List UInt8) × List Blk) (fun q=>[(1,.lit (ys.map Ed.av)),(8,.ptr A.length 5 0 0 0),(9,.ref A.length 6 (texts.length+q.2.1) 0 (texts.length+q.2.1)),(11,.ref A.length (7+G0.length) q.2.1 0 (texts.length+q.2.1)),(12,.int .i64 q.1)])
  (fun q=>⟨A,false,ltL A.length q.2.2.1 (texts.length+q.2.1) q.2.2.2.1 G0 q.2.1 q.2.2.2.2.1 q.2.2.2.2.2⟩) (fun q=>q.1≤ys.length∧q.2.1≤q.1∧MkInv q.2.2.1 q.2.2.2.1 q.2.2.2.2.1 (texts.length+q.2.1) (900+200*q.1)) (fun q=>ys.length-q.1) (0,0,r0,ros0,texts,[]) rfl rfl ⟨Nat.zero_le _,Nat.zero_le _,hLok.ok,hLok.good,hLok.rts,hrl,by simp only;omega,laid_small h9.1,hnl0⟩ ?_
 rintro ⟨i,c,r,ros,ss,G1⟩ ⟨hi,hci,hI⟩
 simp only at hi hci hI ⊢
 have hsl:=hI.rts.1
 have hrs:=hI.len
 rcases Nat.lt_or_ge i ys.length with hlt|hge
 ·obtain ⟨y,hyi⟩:∃ y,ys[i]?=some y:=⟨ys[i]'(by omega),by simp [hlt]⟩
  have hy2:=hys y (List.mem_of_getElem? hyi)
  have hP:PlanOk r.nodes ros:=hI.plan (by omega)
  obtain ⟨hv,hvb⟩:=planV_ok hI.good hP hy2
  have hvs:=planV_le hI.good hP hy2 (B:=((900+200*i:Nat):Int)) (by omega) hI.mb
  have hPl:=fun L (hR:Rd ⟨A,false,L⟩ A.length 5 r.nodes) (hg:St.get ⟨A,false,L⟩ A.length 6=some (.arr 5 (texts.length+c) (ros.map Ro.av)))=>plans_c (b:=0) hI.good hR hg hP (ys:=[y]) (by simp) (fun z hz=>by rw [List.mem_singleton] at hz;rw [hz];exact hy2)
  have hPl:=hPl _ lt_rd (get_top (lt_6 (r:=r) (v:=texts.length+c) (G0:=G0) (w:=c) (ss:=ss) (G1:=G1)) rfl)
  have hTx:=Text_c hI.good (lt_rd (A:=A) (r:=r) (v:=texts.length+c) (ros:=ros) (G0:=G0) (w:=c) (ss:=ss) (G1:=G1)) hv (by omega)
  have hln:=hv.len hI.good
  simp only [List.map_cons,List.map_nil] at hPl
  rw [hrs] at hPl
  generalize hT:planV r.nodes ros y=t at *
  rcases Nat.lt_or_ge r.n (nw t) with hfull|hroom
  ·have hWr:=Write_full (lt_has (A:=A) (r:=r) (v:=texts.length+c) (ros:=ros) (G0:=G0) (w:=c) (ss:=ss) (G1:=G1)) hI.ok hI.good hv (by omega) hfull
   have eb:=lt_box (n:=A.length) (r:=r) (v:=texts.length+c) (ros:=ros) (G0:=G0) (w:=c) (ss:=ss) (G1:=G1) (.arr 5 0 [Ro.zero.av])
   generalize ltL A.length r (texts.length+c) ros G0 c ss G1=L1 at *
   repeat' (first|refine len1L rfl ?_|refine is_slc1 rfl rfl rfl rfl hyi ?_|refine is_ixKn (f:=Tr.av) (l:=[t]) rfl rfl ⟨by decide,rfl⟩ tr_wide ?_|refine ru_seq ?_|refine ru_reg ?_|refine is_mv rfl ?_|refine is_ext rfl rfl ?_|refine is_nil rfl ?_|refine rk_seq ?_|(refine is_lss rfl rfl (fun _=>?_) (fun _=>?_)<;>try (exfalso;omega))|(refine is_eql rfl rfl (fun _=>?_) (fun _=>?_)<;>try (exfalso;omega))|(refine is_neq rfl rfl (fun _=>?_) (fun _=>?_)<;>try (exfalso;omega))|refine ru_iteT rfl ?_|refine ru_iteF rfl ?_|refine is_not rfl rfl ?_|refine is_addS rfl rfl (by omega) ?_|refine is_boxG rfl rfl rfl ?_|refine is_stT rfl rfl rfl rfl rfl rfl ?_|refine is_ldl rfl (tr_part _) ?_|refine is_callE rfl rfl (by first|rfl|(simp only [lE,lN,lC,weaks,tr_weak,forceL];first|done|rfl)) (hPl) ?_|refine is_callE rfl rfl (by first|rfl|(simp only [lE,lN,lC,weaks,tr_weak,forceL];first|done|rfl)) (hTx) ?_|refine is_callE rfl rfl (by first|rfl|(simp only [lE,lN,lC,weaks,tr_weak,forceL];first|done|rfl)) (hWr) ?_|refine ru_skip ?_|refine ru_exit ?_|refine ru_block ?_|refine rk_seq_ex ?_|refine rk_blk_eq rfl ?_|refine rk_inv ?_)
   all_goals try contradiction
   all_goals try (exfalso;omega)
   refine ⟨(i+1,c,r,ros,ss,G1++[Blk.arr 5 0 [Ro.zero.av]]),⟨rfl,?_⟩,⟨by simp only;omega,by simp only;omega,hI.ok,hI.good,hI.rts,hrs,hI.n20,fun s hs=>by have:=hI.small s hs;simp only;omega,hI.nl⟩,by simp only;omega⟩
   exact congrArg (St.mk A false) eb
  ·have hWr:=Write_c (lt_has (A:=A) (r:=r) (v:=texts.length+c) (ros:=ros) (G0:=G0) (w:=c) (ss:=ss) (G1:=G1)) hI.ok hI.good hv (by omega) hroom
   rw [lt_set] at hWr
   obtain ⟨w1,w2⟩:=wr_rt (lt_has (A:=A) (r:=r) (v:=texts.length+c) (ros:=ros) (G0:=G0) (w:=c) (ss:=ss) (G1:=G1)) hI.ok hI.good hv (by omega) hroom
   have f6:(ltL A.length (wrV t r).1 (texts.length+c) ros G0 c ss G1)[6]?=_:=lt_6
   have f7:(ltL A.length (wrV t r).1 (texts.length+c) ros G0 c ss G1)[7+G0.length]?=_:=lt_7
   have n1:=w1.n
   have n2:=w1.nl
   have n3:=hI.nl
   have n4:=hI.n20
   generalize hL2:ltL A.length (wrV t r).1 (texts.length+c) ros G0 c ss G1=L2 at *
   generalize ltL A.length r (texts.length+c) ros G0 c ss G1=L1 at *
   generalize (wrV t r).1=r2 at *
   generalize (wrV t r).2.1=ro at *
   generalize (wrV t r).2.2=hh at *
   generalize hTT:t.txt r.nodes=T at *
   have hl6:=(List.getElem?_eq_some_iff.1 f6).1
   have hl7':=(List.getElem?_eq_some_iff.1 f7).1
   repeat' (first|refine len1L rfl ?_|refine is_slc1 rfl rfl rfl rfl hyi ?_|refine is_ixKn (f:=Tr.av) (l:=[t]) rfl rfl ⟨by decide,rfl⟩ tr_wide ?_|refine ru_seq ?_|refine ru_reg ?_|refine is_mv rfl ?_|refine is_ext rfl rfl ?_|refine is_nil rfl ?_|refine rk_seq ?_|refine is_ldT rfl rfl rfl ?_|(refine is_lss rfl rfl (fun _=>?_) (fun _=>?_)<;>try (exfalso;omega))|(refine is_eql rfl rfl (fun _=>?_) (fun _=>?_)<;>try (exfalso;omega))|(refine is_neq rfl rfl (fun _=>?_) (fun _=>?_)<;>try (exfalso;omega))|refine ru_iteT rfl ?_|refine ru_iteF rfl ?_|refine is_not rfl rfl ?_|refine is_addS rfl rfl (by omega) ?_|refine is_boxG rfl rfl rfl ?_|refine is_stT rfl rfl rfl rfl rfl rfl ?_|refine is_bslFO rfl rfl rfl rfl ?_|refine is_ldl rfl (tr_part _) ?_|refine is_callE rfl rfl (by first|rfl|(simp only [lE,lN,lC,weaks,tr_weak,forceL];first|done|rfl)) (hPl) ?_|refine is_callE rfl rfl (by first|rfl|(simp only [lE,lN,lC,weaks,tr_weak,forceL];first|done|rfl)) (hTx) ?_|refine is_callE rfl rfl (by first|rfl|(simp only [lE,lN,lC,weaks,tr_weak,forceL];first|done|rfl)) (hWr) ?_|refine ru_skip ?_|refine ru_block ?_)
   all_goals try contradiction
   all_goals try (exfalso;omega)
   refine is_appG (es:=ros.map Ro.av) (ys:=[ro.av]) rfl rfl (get_left f6) (by rw [List.length_map];omega) rfl rfl (by rw [List.length_map,List.length_singleton];omega) (by decide) ?_
   repeat' (first|refine ru_reg ?_|refine is_mv rfl ?_|refine is_nil rfl ?_|refine rk_seq ?_|refine is_bslFO rfl rfl rfl rfl ?_)
   refine is_appG (es:=ss.map .str) (ys:=[.str T]) rfl rfl ((List.getElem?_set_ne (by omega)).trans (get_left f7)) (by rw [List.length_map];omega) rfl rfl (by rw [List.length_map,List.length_singleton];omega) (by decide) ?_
   repeat' (first|refine ru_reg ?_|refine is_mv rfl ?_|refine is_nil rfl ?_|refine rk_seq ?_|refine is_addS rfl rfl (by omega) ?_|refine rk_blk ?_|refine rk_inv ?_)
   refine ⟨(i+1,c+1,r2,ros++[ro],ss++[T],G1++[.arr 5 0 [ro.av]]),⟨rfl,?_⟩,⟨by simp only;omega,by simp only;omega,w1.ok,w1.good,(hI.rts.ext hI.good w1.ext).snoc w2,by simp only [lL,List.length_singleton];omega,by simp only;omega,fun s hs=>?_,by simp only;omega⟩,by simp only;omega⟩
   ·show (⟨A,false,((L2++[Blk.arr 5 0 [ro.av]]).set 6 (Blk.arr 5 (texts.length+c+1) (ros.map Ro.av++[ro.av]))).set (7+G0.length) (Blk.arr 1 (c+1) (ss.map AV.str++[AV.str T]))⟩:St)=_
    rw [← hL2,lt_box,lt_set6,lt_set7]
    rfl
   ·rcases List.mem_append.1 hs with q|q
    ·have:=hI.small s q;simp only;omega
    ·rw [List.mem_singleton.1 q];simp only;omega
 ·obtain rfl:i=ys.length:=by omega
  repeat' (first|refine len1L rfl ?_|refine ru_seq ?_|refine ru_reg ?_|refine is_mv rfl ?_|refine is_nil rfl ?_|refine rk_seq ?_|(refine is_lss rfl rfl (fun _=>?_) (fun _=>?_)<;>try (exfalso;omega))|refine ru_iteF rfl ?_|refine ru_ret ?_|refine ru_exit ?_|refine rk_nil ?_|refine rk_seq_ex ?_|refine rk_blk_eq rfl ?_|refine rk_inv_ex ?_)
  all_goals try (exfalso;omega)
  refine ⟨_,_,end_keep (.inr rfl) rfl rfl rfl rfl,r,c,ros,ss,G0,G1,texts.length+c,rfl,rfl,hI.ok,hI.good,hI.rts,hrs,hI.n20,fun s hs=>?_,hI.nl⟩
  have:=hI.small s hs
  omega
end Go.Q15
namespace Go.Q15
open Go Go.QAbs
set_option maxRecDepth 100000
set_option maxHeartbeats 16000000
def beyondP (texts:List (List UInt8)) (ys:List Ed):Prop:=longP texts∨manyQ ys∨12<ys.length
noncomputable instance (texts:List (List UInt8)) (ys:List Ed):Decidable (beyondP texts ys):=Classical.propDecidable _
theorem Beyond_c (texts:List (List UInt8)) (ys:List Ed) (hb:texts.length<9223372036854775808) (hbs:∀ s∈texts,s.length<9223372036854775808) (hy:ys.length<9223372036854775808) (hys:∀ y∈ys,y.text.length<9223372036854775808) (st:St) :
 S Tb F_quartolaw16_Beyond [.lit (texts.map .str),.lit (ys.map Ed.av)] st=some (.bool (decide (beyondP texts ys)),st):=by
 refine s_of rfl (fun A hA=>?_)
 have hLg:=fun st=>long_c texts hb hbs st
 have hMn:=fun st=>many16_c ys hy hys st
 by_cases hl:longP texts
 ·rw [decide_eq_true (show beyondP texts ys from .inl hl)]
  simp only [decide_eq_true hl] at hLg
  repeat' (first|refine ru_seq ?_|refine ru_reg ?_|refine is_mv rfl ?_|refine is_gF rfl rfl ?_|refine is_pick rfl rfl rfl rfl ?_|refine is_nil rfl ?_|refine rk_seq ?_|refine is_callE rfl rfl rfl (hLg _) ?_|refine ru_ret ?_|refine rk_nil ?_)
  all_goals try contradiction
  all_goals refine end_st hA (by first|exact .inl rfl|exact .inr rfl) rfl rfl rfl rfl ?_
  all_goals rfl
 simp only [decide_eq_false hl] at hLg
 by_cases hm:manyQ ys
 ·rw [decide_eq_true (show beyondP texts ys from .inr (.inl hm))]
  simp only [decide_eq_true hm] at hMn
  repeat' (first|refine ru_seq ?_|refine ru_reg ?_|refine is_mv rfl ?_|refine is_gT rfl ?_|refine is_gF rfl rfl ?_|refine is_pick rfl rfl rfl rfl ?_|refine is_nil rfl ?_|refine rk_seq ?_|refine is_callE rfl rfl rfl (hLg _) ?_|refine is_callE rfl rfl rfl (hMn _) ?_|refine ru_ret ?_|refine rk_nil ?_)
  all_goals try contradiction
  all_goals refine end_st hA (by first|exact .inl rfl|exact .inr rfl) rfl rfl rfl rfl ?_
  all_goals rfl
 simp only [decide_eq_false hm] at hMn
 by_cases h12:12<ys.length
 ·rw [decide_eq_true (show beyondP texts ys from .inr (.inr h12))]
  repeat' (first|refine len1L rfl ?_|refine ru_seq ?_|refine ru_reg ?_|refine is_mv rfl ?_|refine is_gT rfl ?_|refine is_pick rfl rfl rfl rfl ?_|refine is_nil rfl ?_|refine rk_seq ?_|(refine is_gtr rfl rfl (fun _=>?_) (fun _=>?_)<;>try (exfalso;omega))|refine is_callE rfl rfl rfl (hLg _) ?_|refine is_callE rfl rfl rfl (hMn _) ?_|refine ru_ret ?_|refine rk_nil ?_)
  all_goals try contradiction
  all_goals try (exfalso;omega)
  all_goals refine end_st hA (by first|exact .inl rfl|exact .inr rfl) rfl rfl rfl rfl ?_
  all_goals rfl
 ·rw [decide_eq_false (show ¬ beyondP texts ys from fun q=>q.elim hl fun q=>q.elim hm h12)]
  repeat' (first|refine len1L rfl ?_|refine ru_seq ?_|refine ru_reg ?_|refine is_mv rfl ?_|refine is_gT rfl ?_|refine is_pick rfl rfl rfl rfl ?_|refine is_nil rfl ?_|refine rk_seq ?_|(refine is_gtr rfl rfl (fun _=>?_) (fun _=>?_)<;>try (exfalso;omega))|refine is_callE rfl rfl rfl (hLg _) ?_|refine is_callE rfl rfl rfl (hMn _) ?_|refine ru_ret ?_|refine rk_nil ?_)
  all_goals try contradiction
  all_goals try (exfalso;omega)
  all_goals refine end_st hA (by first|exact .inl rfl|exact .inr rfl) rfl rfl rfl rfl ?_
  all_goals rfl
theorem Pick_c (x n:Int) (h0:0≤n) (h1:n<4611686018427387904) (st:St):S Tb F_quartolaw16_Pick [.int .i64 x,.int .i64 n] st=some (.int .i64 (pickM x n),st):=by
 refine s_of rfl (fun A hA=>?_)
 have hP:=fun st=>pick_c x n h0 h1 st
 repeat' (first|refine ru_seq ?_|refine ru_reg ?_|refine is_mv rfl ?_|refine is_nil rfl ?_|refine rk_seq ?_|refine is_callE rfl rfl rfl (hP _) ?_|refine ru_ret ?_|refine rk_nil ?_)
 refine end_st hA (by first|exact .inl rfl|exact .inr rfl) rfl rfl rfl rfl ?_
 rfl
end Go.Q15
namespace Go.Q15
open Go Go.QAbs
set_option maxRecDepth 100000
set_option maxHeartbeats 32000000
theorem number_c (A:List (Bool × List Blk)) (L:List Blk) (n e:Int):S Tb F_quartolaw17_number [.int .i64 n,.int .i64 e] ⟨A,false,L⟩=some (.func (.func F_quartolaw17_numberC1) [] [.ptr A.length L.length 0 0 0,.ptr A.length (L.length+1) 0 0 0],⟨A,false,L++[.arr 1 0 [.int .i64 n],.arr 1 0 [.int .i64 e]]⟩):=by
 refine s_keep rfl ?_
 have e0:(⟨A,false,L⟩:St)=⟨A,false,L++[]⟩:=by rw [lN]
 rw [e0]
 repeat' (first|refine is_boxA rfl rfl rfl rfl rfl ?_|refine ru_seq ?_|refine ru_reg ?_|refine is_mv rfl ?_|refine is_nil rfl ?_|refine rk_seq ?_|refine is_mkf rfl rfl ?_|refine ru_ret ?_|refine rk_nil ?_)
 all_goals try contradiction
 refine (end_keep (.inr rfl) rfl rfl rfl rfl).trans ?_
 rfl
theorem numberC1_c {st:St} {lv i j:Nat} {n:Int} (g1:st.get lv i=some (.arr 1 0 [.int .i64 n])) (g2:st.get lv j=some (.arr 1 0 [.int .i64 0])) (h0:0≤n) :
 S Tb F_quartolaw17_numberC1 [.int .i64 n,.ptr lv i 0 0 0,.ptr lv j 0 0 0] st=some (.bool true,st):=by
 refine s_of rfl (fun A hA=>?_)
 have k1:=fun L=>get_old hA (ro:=false) (L:=L) g1
 have k2:=fun L=>get_old hA (ro:=false) (L:=L) g2
 repeat' (first|refine is_ld rfl (k1 _) rfl rfl ?_|refine is_ld rfl (k2 _) rfl rfl ?_|refine ru_seq ?_|refine ru_reg ?_|refine is_mv rfl ?_|refine is_gT rfl ?_|refine is_pick rfl rfl rfl rfl ?_|refine is_nil rfl ?_|refine rk_seq ?_|(refine is_lss rfl rfl (fun _=>?_) (fun _=>?_)<;>try (exfalso;omega))|(refine is_eql rfl rfl (fun _=>?_) (fun _=>?_)<;>try (exfalso;omega))|refine ru_iteF rfl ?_|refine ru_skip ?_|refine ru_ret ?_|refine rk_nil ?_)
 all_goals try contradiction
 all_goals try (exfalso;omega)
 refine end_st hA (by first|exact .inl rfl|exact .inr rfl) rfl rfl rfl rfl ?_
 rfl
theorem number_T (A:List (Bool × List Blk)) (L0 T:List Blk) (n:Int):S Tb F_quartolaw17_number [.int .i64 n,.int .i64 0] ⟨A,false,L0++T⟩=some (.func (.func F_quartolaw17_numberC1) [] [.ptr A.length (L0++T).length 0 0 0,.ptr A.length ((L0++T).length+1) 0 0 0],⟨A,false,L0++(T++[.arr 1 0 [.int .i64 n],.arr 1 0 [.int .i64 0]])⟩):=by
 rw [← List.append_assoc];exact number_c A (L0++T) n 0
theorem numberC1_T (A:List (Bool × List Blk)) (L0 T:List Blk) {n:Int} (h0:0≤n):S Tb F_quartolaw17_numberC1 [.int .i64 n,.ptr A.length (L0++T).length 0 0 0,.ptr A.length ((L0++T).length+1) 0 0 0] ⟨A,false,L0++(T++[.arr 1 0 [.int .i64 n],.arr 1 0 [.int .i64 0]])⟩=some (.bool true,⟨A,false,L0++(T++[.arr 1 0 [.int .i64 n],.arr 1 0 [.int .i64 0]])⟩):=by
 rw [← List.append_assoc]
 refine numberC1_c ?_ ?_ h0
 ·rw [St.get_cur,List.getElem?_append_right (Nat.le_refl _),Nat.sub_self];rfl
 ·rw [St.get_cur,List.getElem?_append_right (by omega),show (L0++T).length+1-(L0++T).length=1 by omega];rfl
section
variable {A:List (Bool × List Blk)} {L0:List Blk} {j0:Nat} {N:Nodes} {ro:Ro} {s:List UInt8}
theorem sb_in1 (hN:GoodN N) (h:Rt N ro s) (hs:s.length≤100000) (hRd:∀ T,Rd ⟨A,false,L0++T⟩ A.length (0+5) N) (h14:∀ T,(L0++T)[j0]?=some (.arr 5 0 [ro.av])) {v3 v16:AV} {a x:Int} (h0:0≤a) (h1:a≤x) (h2:x≤s.length) (hm:∀ (m:Int) d,a≤m→m<x→s[m.toNat]?=some d→beginsB d=false) (T:List Blk) {k:List Fr} {Q:Post}
 (hQ:Rk (S Tb) k Q .norm [(3,v3),(9,.ptr A.length 5 0 0 0),(14,.ptr A.length j0 0 0 0),(15,.str s),(16,v16),(18,.int .i64 a),(20,.int .i64 x),(22,.int .i64 x),(208,.bool false)] ⟨A,false,L0++T⟩) :
 Ru (S Tb) p_quartolaw17_SeekBack_33.loop (.blk 2::k) Q [(3,v3),(9,.ptr A.length 5 0 0 0),(14,.ptr A.length j0 0 0 0),(15,.str s),(16,v16),(18,.int .i64 a),(20,.int .i64 x),(22,.int .i64 a)] ⟨A,false,L0++T⟩:=by
 have f14:=h14 T
 have hR:=hRd T
 generalize L0++T=X at *
 refine ru_loopP (α:=Int) (fun m=>[(3,v3),(9,.ptr A.length 5 0 0 0),(14,.ptr A.length j0 0 0 0),(15,.str s),(16,v16),(18,.int .i64 a),(20,.int .i64 x),(22,.int .i64 m)]) (fun m=>⟨A,false,X⟩) (fun m=>a≤m∧m≤x) (fun m=>(x-m).toNat) a rfl rfl ⟨Int.le_refl _,h1⟩ ?_
 rintro m ⟨m1,m2⟩
 rcases Int.lt_or_le m x with q|q
 ·obtain ⟨d,hd⟩:∃ d,s[m.toNat]?=some d:=⟨_,List.getElem?_eq_getElem (by omega)⟩
  have hB:=Boundary_c (b:=0) hN hR h hd hs
  rw [hm m d m1 q hd,show ((m.toNat:Nat):Int)=m by omega] at hB
  repeat' (first|refine is_ldc rfl f14 rfl (ro_part _) ?_|refine ru_seq ?_|refine ru_reg ?_|refine is_mv rfl ?_|refine is_gT rfl ?_|refine is_pick rfl rfl rfl rfl ?_|refine is_ext rfl rfl ?_|refine is_nil rfl ?_|refine rk_seq ?_|(refine is_lss rfl rfl (fun _=>?_) (fun _=>?_)<;>try (exfalso;omega))|(refine is_neq rfl rfl (fun _=>?_) (fun _=>?_)<;>try (exfalso;omega))|refine ru_iteT rfl ?_|refine ru_iteF rfl ?_|refine is_addS rfl rfl (by omega) ?_|refine is_callE rfl rfl rfl (hB) ?_|refine ru_skip ?_|refine ru_block ?_|refine rk_blk ?_|refine rk_inv ?_)
  all_goals try contradiction
  all_goals try (exfalso;omega)
  exact ⟨m+1,⟨rfl,rfl⟩,⟨by omega,by omega⟩,by omega⟩
 ·obtain rfl:m=x:=by omega
  repeat' (first|refine ru_seq ?_|refine ru_reg ?_|refine is_mv rfl ?_|refine is_nil rfl ?_|refine rk_seq ?_|(refine is_lss rfl rfl (fun _=>?_) (fun _=>?_)<;>try (exfalso;omega))|refine ru_iteF rfl ?_|refine ru_exit ?_|refine rk_seq_ex ?_|refine rk_blk_eq rfl ?_|refine rk_inv_ex ?_)
  all_goals try contradiction
  all_goals try (exfalso;omega)
  exact hQ
theorem sb_in2 {v3 v9 v14 v16:AV} {a x:Int} (h0:0≤x) (h1:x≤a) (h2:a≤s.length) (hs:s.length≤100000) (hm:∀ (m:Int) d,x≤m→m<a→s[m.toNat]?=some d→feedsB d=false) (st:St) {k:List Fr} {Q:Post}
 (hQ:Rk (S Tb) k Q .norm [(3,v3),(9,v9),(14,v14),(15,.str s),(16,v16),(18,.int .i64 a),(28,.int .i64 a),(264,.bool false)] st) :
 Ru (S Tb) p_quartolaw17_SeekBack_46.loop (.blk 4::k) Q [(3,v3),(9,v9),(14,v14),(15,.str s),(16,v16),(18,.int .i64 a),(28,.int .i64 x)] st:=by
 refine ru_loopP (α:=Int) (fun m=>[(3,v3),(9,v9),(14,v14),(15,.str s),(16,v16),(18,.int .i64 a),(28,.int .i64 m)]) (fun m=>st) (fun m=>x≤m∧m≤a) (fun m=>(a-m).toNat) x rfl rfl ⟨Int.le_refl _,h1⟩ ?_
 rintro m ⟨m1,m2⟩
 rcases Int.lt_or_le m a with q|q
 ·obtain ⟨d,hd⟩:∃ d,s[m.toNat]?=some d:=⟨_,List.getElem?_eq_getElem (by omega)⟩
  have hf:=hm m d m1 q hd
  have hne:¬ ((d.toNat:Nat):Int)=10:=by
   intro e
   have:d.toNat=10:=by omega
   unfold feedsB at hf
   simp [this] at hf
  repeat' (first|refine is_ixStr rfl rfl (by omega) hd ?_|refine ru_seq ?_|refine ru_reg ?_|refine is_mv rfl ?_|refine is_nil rfl ?_|refine rk_seq ?_|(refine is_lss rfl rfl (fun _=>?_) (fun _=>?_)<;>try (exfalso;omega))|(refine is_eql rfl rfl (fun _=>?_) (fun _=>?_)<;>try (exfalso;omega))|refine ru_iteT rfl ?_|refine ru_iteF rfl ?_|refine is_addS rfl rfl (by omega) ?_|refine ru_skip ?_|refine ru_block ?_|refine rk_blk ?_|refine rk_inv ?_)
  all_goals try contradiction
  all_goals try (exfalso;omega)
  exact ⟨m+1,⟨rfl,rfl⟩,⟨by omega,by omega⟩,by omega⟩
 ·obtain rfl:m=a:=by omega
  repeat' (first|refine ru_seq ?_|refine ru_reg ?_|refine is_mv rfl ?_|refine is_nil rfl ?_|refine rk_seq ?_|(refine is_lss rfl rfl (fun _=>?_) (fun _=>?_)<;>try (exfalso;omega))|refine ru_iteF rfl ?_|refine ru_exit ?_|refine rk_seq_ex ?_|refine rk_blk_eq rfl ?_|refine rk_inv_ex ?_)
  all_goals try contradiction
  all_goals try (exfalso;omega)
  exact hQ
end
end Go.Q15
namespace Go.Q15
open Go Go.QAbs
set_option maxRecDepth 100000
set_option maxHeartbeats 8000000
end Go.Q15
namespace Go.Q15
open Go Go.QAbs
set_option maxRecDepth 100000
set_option maxHeartbeats 8000000
end Go.Q15
namespace Go.Q15
open Go Go.QAbs
set_option maxRecDepth 100000
set_option maxHeartbeats 8000000
end Go.Q15
namespace Go.Q15
open Go Go.QAbs
set_option maxRecDepth 100000
set_option maxHeartbeats 8000000
end Go.Q15
namespace Go.Q15
open Go Go.QAbs
set_option maxRecDepth 100000
set_option maxHeartbeats 8000000
end Go.Q15
namespace Go.Q15
open Go Go.QAbs
set_option maxRecDepth 100000
set_option maxHeartbeats 16000000
end Go.Q15
namespace Go.Q15
open Go Go.QAbs
set_option maxRecDepth 100000
set_option maxHeartbeats 16000000
end Go.Q15
namespace Go.Q15
open Go Go.QAbs
set_option maxRecDepth 100000
set_option maxHeartbeats 16000000
end Go.Q15
namespace Go.Q15
open Go Go.QAbs
set_option maxRecDepth 100000
set_option maxHeartbeats 16000000
end Go.Q15
namespace Go.Q15
open Go Go.QAbs
set_option maxRecDepth 100000
set_option maxHeartbeats 16000000
end Go.Q15
namespace Go.Q15
open Go Go.QAbs
set_option maxRecDepth 100000
set_option maxHeartbeats 16000000
structure Op where
 at_:Int
 num:Int
 text:List UInt8
def wideP (l:List Op):Prop:=∃ s∈l,300<s.text.length
noncomputable instance (l:List Op):Decidable (wideP l):=Classical.propDecidable _
end Go.Q15
namespace Go.Q15
open Go Go.QAbs
set_option maxRecDepth 100000
set_option maxHeartbeats 16000000
end Go.Q15
namespace Go.Q15
open Go Go.QAbs
set_option maxRecDepth 100000
set_option maxHeartbeats 16000000
end Go.Q15
namespace Go.Q15
open Go Go.QAbs
set_option maxRecDepth 100000
set_option maxHeartbeats 16000000
section
variable {O:Orc} {k:List Fr} {Q:Post} {e:Env} {A:List (Bool × List Blk)} {L:List Blk} {keep:List Nat} {is:List QAbs.PI} {d:Nat} {st:St}
theorem is_onlyIx {w:Nat} {x i b:Opd} {ix ver s m v2 s2 m2:Nat} {n:Int} {es:List AV} (hx:opdO e x=some (.ref A.length ix ver s m)) (hb:opdO e b=some (.ref A.length ix v2 s2 m2)) (hi:opdO e i=some (.int .i64 n)) (hn:0≤n∧n<m) (hg:L[ix]?=some (Blk.arr w ver es))
 (h:Is O is keep k Q ((d,.ptr A.length ix ver (s+n.toNat) 0)::e) ⟨A,false,L⟩):Is O (⟨some d,none,false,.w (.only b) (.ixS w x i)⟩::is) keep k Q e ⟨A,false,L⟩:=by
 refine is_of (v:=.ptr A.length ix ver (s+n.toNat) 0) (st':=⟨A,false,L⟩) ?_ h
 have hgt:(St.hide (fun lv ix=>!atPtr lv ix (b.get e)) ⟨A,false,L⟩).get A.length ix=some (Blk.arr w ver es):=by
  rw [hide_get,St.get_cur,hg,opdO_some hb]
  simp [atPtr,vis]
 have hio:indexOf m (.int .i64 n)=some n.toNat:=by simp only [indexOf,if_pos hn]
 simp only [evalPI,evalW,PO.reads,if_true,evalPO,opdO_some hx,opdO_some hi,ixSV,hio,hgt,wIs,oS,ret1,pureK]
 simp [ret1,pureK]
theorem is_onlyLdS {a b:Opd} {agg:Bool} {n ix ver i o w v2 s2 m2:Nat} {es:List AV} {x v:AV} (ha:opdO e a=some (.ptr A.length ix ver i o)) (hb:opdO e b=some (.ref A.length ix v2 s2 m2))
 (hg:L[ix]?=some (Blk.arr w ver es)) (hx:es[i]?=some x) (hv:partOf x agg o n=some v) (h:Is O is keep k Q ((d,v)::e) ⟨A,false,L⟩):Is O (⟨some d,none,false,.w (.only b) (.ld agg n a)⟩::is) keep k Q e ⟨A,false,L⟩:=by
 refine is_of (v:=v) (st':=⟨A,false,L⟩) ?_ h
 have hgt:(St.hide (fun lv ix=>!atPtr lv ix (b.get e)) ⟨A,false,L⟩).get A.length ix=some (Blk.arr w ver es):=by
  rw [hide_get,St.get_cur,hg,opdO_some hb]
  simp [atPtr,vis]
 simp only [evalPI,evalW,PO.reads,if_true,evalPO,opdO_some ha,loadP,hgt,loadB,hx,hv,oS,ret1,pureK]
theorem is_off {a x b:Opd} {n lv ix ver i o lv2 ix2 v2 s2 m2:Nat} {vx:AV} (ha:opdO e a=some (.ptr lv ix ver i o)) (hb:opdO e b=some (.ref lv2 ix2 v2 s2 m2)) (hx:opdO e x=some vx) (hne:¬ (lv=lv2∧ix=ix2)) (hh:heldV 6 (lv+1) vx=true)
 (h:Is O (⟨none,none,false,.st n a x⟩::is) keep k Q e st):Is O (⟨none,none,false,.w (.off b) (.st n a x)⟩::is) keep k Q e st:=by
 refine is_same ?_ h
 have hs:offOk (.ref lv2 ix2 v2 s2 m2) (.ptr lv ix ver i o) vx=true:=by
  unfold offOk
  simp only [atPtr,hh,Bool.and_true,Bool.not_eq_true',Bool.and_eq_false_iff,beq_eq_false_iff_ne,ne_eq]
  by_cases q:lv=lv2
  ·exact .inr fun z=>hne ⟨q,z⟩
  ·exact .inl q
 simp only [evalPI,evalW,offW,opdO_some ha,opdO_some hb,opdO_some hx,hs,if_true]
end
section
variable {n:Nat} {r:AR} {v w:Nat} {ros:List Ro} {ss:List (List UInt8)} {G0 G1 G2:List Blk}
theorem lt_len:(ltL n r v ros G0 w ss G1).length=8+G0.length+G1.length:=by
 simp [ltL];omega
end
end Go.Q15
namespace Go.Q15
open Go Go.QAbs
set_option maxRecDepth 100000
set_option maxHeartbeats 32000000
theorem sb_loop {st:St} {A:List (Bool × List Blk)} (hA:A=st.A++[(st.ro,st.L)]) {L0:List Blk} {j0:Nat} {N:Nodes} {ro:Ro} {s:List UInt8} (hN:GoodN N) (h:Rt N ro s) (hs:s.length≤3300) (hRd:∀ T,Rd ⟨A,false,L0++T⟩ A.length (0+5) N) (h14:∀ T,(L0++T)[j0]?=some (.arr 5 0 [ro.av]))
 (ns:List Int) (hns:ns.length≤20) (G0:List Blk) :
 Ru (S Tb) p_quartolaw17_SeekBack_48.loop [Fr.blk 0,Fr.seq (p_quartolaw17_SeekBack_49.seq PC.ret)] (fun x e st'=>endK false [RV.s 8] (x,e,st')=some (AV.bool true,st))
  [(3,.lit (ns.map (.int .i64))),(9,.ptr A.length 5 0 0 0),(14,.ptr A.length j0 0 0 0),(15,.str s),(16,.int .i64 0)] ⟨A,false,L0++G0⟩:=by
 have hWk:=fun st=>works17_c st
 have hm:=h.m hN
 have hmr:ro.m.r=s.countP beginsB:=by rw [hm];rfl
 have hml:ro.m.l=s.countP feedsB:=by rw [hm];rfl
 have hcr:=List.countP_le_length (p:=beginsB) (l:=s)
 have hcl:=List.countP_le_length (p:=feedsB) (l:=s)
 refine ru_loopP (α:=Nat × List Blk) (fun p=>[(3,.lit (ns.map (.int .i64))),(9,.ptr A.length 5 0 0 0),(14,.ptr A.length j0 0 0 0),(15,.str s),(16,.int .i64 p.1)]) (fun p=>⟨A,false,L0++p.2⟩) (fun p=>p.1≤ns.length) (fun p=>ns.length-p.1) (0,G0) rfl rfl (Nat.zero_le _) ?_
 rintro ⟨i,G⟩ hi
 replace hi:i≤ns.length:=hi
 simp only
 rcases Nat.lt_or_ge i ns.length with hlt|hge
 ·obtain ⟨x,hx⟩:∃ x,ns[i]?=some x:=⟨ns[i]'hlt,List.getElem?_eq_getElem _⟩
  have q:0≤((i:Nat):Int)∧ns[((i:Nat):Int).toNat]?=some x:=⟨by omega,by rw [show ((i:Nat):Int).toNat=i by omega];exact hx⟩
  have b1:=pickM_bounds (x:=x) (n:=ro.m.r) (by omega)
  have hP1:=fun st=>Pick_c x ro.m.r (by omega) (by omega) st
  have b2:=pickM_bounds (x:=x) (n:=ro.m.l) (by omega)
  have hP2:=fun st=>Pick_c x ro.m.l (by omega) (by omega) st
  have b3:=pickM_bounds (x:=x) (n:=(s.length:Int)) (by omega)
  have hP3:=fun st=>Pick_c x s.length (by omega) (by omega) st
  generalize pickM x ro.m.r=k1 at *
  generalize pickM x ro.m.l=k2 at *
  generalize pickM x s.length=a3 at *
  obtain ⟨a1,a11,a12,a13,a14,hRu⟩:=rune_at (la:=A.length) (b:=0) hN h (by omega) b1.1 b1.2
  obtain ⟨a2,a21,a22,a23,a24,hLi⟩:=line_at (la:=A.length) (b:=0) hN h (by omega) b2.1 b2.2
  obtain ⟨x3,x31,x32,x33,hRn,hBn⟩:=next_at (la:=A.length) (b:=0) hN h (by omega) b3.1 b3.2
  obtain ⟨x4,x41,x42,x43,hLn⟩:=begin_at (la:=A.length) (b:=0) hN h (by omega) b3.1 b3.2
  have hRu:=fun T=>hRu (hRd T)
  have hLi:=fun T=>hLi (hRd T)
  have hRn:=fun T=>hRn (hRd T)
  have hBn:=fun T=>hBn (hRd T)
  have hLn:=fun T=>hLn (hRd T)
  have hB1:=fun T=>RunesBefore_c (b:=0) hN (hRd T) h a11 a12 (by omega)
  have hL2:=fun T=>LineOf_c (b:=0) hN (hRd T) h a21 a22 (by omega)
  have hB3:=fun T=>RunesBefore_c (b:=0) hN (hRd T) h b3.1 b3.2 (by omega)
  have hL3:=fun T=>LineOf_c (b:=0) hN (hRd T) h b3.1 b3.2 (by omega)
  have hi1:=fun T k Q hQ=>sb_in1 (v3:=.lit (ns.map (.int .i64))) (v16:=.int .i64 i) hN h (by omega) hRd h14 b3.1 x31 x32 x33 T (k:=k) (Q:=Q) hQ
  have hi2:=fun st k Q hQ=>sb_in2 (v3:=.lit (ns.map (.int .i64))) (v9:=.ptr A.length 5 0 0 0) (v14:=.ptr A.length j0 0 0 0) (v16:=.int .i64 i) x41 x42 b3.2 (by omega) x43 st (k:=k) (Q:=Q) hQ
  rw [a23] at hL2
  have hN2:=fun T=>number_T A L0 T k2
  have hC2:=fun T=>numberC1_T A L0 T b2.1
  have c3:0≤(((s.take a3.toNat).countP beginsB:Nat):Int):=by omega
  have c4:0≤(((s.take a3.toNat).countP feedsB:Nat):Int):=by omega
  generalize (((s.take a3.toNat).countP beginsB:Nat):Int)=n3 at *
  generalize (((s.take a3.toNat).countP feedsB:Nat):Int)=n4 at *
  rcases Int.lt_or_le a1 s.length with qa|qa
  ·rw [a14 qa] at hB1
   have hN1:=fun T=>number_T A L0 T k1
   have hC1:=fun T=>numberC1_T A L0 T b1.1
   repeat' (first|refine len1L rfl ?_|refine is_ixKn (f:=AV.int .i64) rfl rfl q (fun _=>rfl) ?_|refine is_ldc rfl (h14 _) rfl (ro_part _) ?_|refine is_ldc rfl (h14 _) rfl rfl ?_|refine hi1 _ _ _ ?_|refine hi2 _ _ _ ?_|refine is_ixStr rfl rfl (by omega) (a24 (by omega)) ?_|refine ru_seq ?_|refine ru_reg ?_|refine is_mv rfl ?_|refine is_fadr rfl rfl ?_|refine is_gT rfl ?_|refine is_gF rfl rfl ?_|refine is_gU rfl ?_|refine is_pick rfl rfl rfl rfl ?_|refine is_ext rfl rfl ?_|refine is_nil rfl ?_|refine rk_seq ?_|refine is_lenS rfl ?_|refine is_ldl rfl rfl ?_|(refine is_lss rfl rfl (fun _=>?_) (fun _=>?_)<;>try (exfalso;omega))|(refine is_gtr rfl rfl (fun _=>?_) (fun _=>?_)<;>try (exfalso;omega))|(refine is_eql rfl rfl (fun _=>?_) (fun _=>?_)<;>try (exfalso;omega))|(refine is_neq rfl rfl (fun _=>?_) (fun _=>?_)<;>try (exfalso;omega))|refine ru_iteT rfl ?_|refine ru_iteF rfl ?_|refine is_not rfl rfl ?_|refine is_addS rfl rfl (by omega) ?_|refine is_subS rfl rfl (by omega) ?_|refine is_callE rfl rfl rfl (hP1 _) ?_|refine is_callE rfl rfl rfl (hP2 _) ?_|refine is_callE rfl rfl rfl (hP3 _) ?_|refine is_callE rfl rfl rfl (hRu _) ?_|refine is_callE rfl rfl rfl (hB1 _) ?_|refine is_callE rfl rfl rfl (hN1 _) ?_|refine is_callE rfl rfl rfl (hC1 _) ?_|refine is_callE rfl rfl rfl (hLi _) ?_|refine is_callE rfl rfl rfl (hL2 _) ?_|refine is_callE rfl rfl rfl (hN2 _) ?_|refine is_callE rfl rfl rfl (hC2 _) ?_|refine is_callE rfl rfl rfl (hB3 _) ?_|refine is_callE rfl rfl rfl (hRn _) ?_|refine is_callE rfl rfl rfl (hBn _) ?_|refine is_callE rfl rfl rfl (hL3 _) ?_|refine is_callE rfl rfl rfl (hLn _) ?_|refine ru_skip ?_|refine ru_ret ?_|refine ru_block ?_|refine rk_nil ?_|refine rk_seq_ret ?_|refine rk_blk ?_|refine rk_blk_ret ?_|refine rk_inv ?_|refine rk_inv_ret ?_)
   all_goals try contradiction
   all_goals try (exfalso;omega)
   all_goals try exact absurd rfl ‹_›
   all_goals exact ⟨(i+1,_),⟨rfl,rfl⟩,by simp only;omega,by simp only;omega⟩
  ·repeat' (first|refine len1L rfl ?_|refine is_ixKn (f:=AV.int .i64) rfl rfl q (fun _=>rfl) ?_|refine is_ldc rfl (h14 _) rfl (ro_part _) ?_|refine is_ldc rfl (h14 _) rfl rfl ?_|refine hi1 _ _ _ ?_|refine hi2 _ _ _ ?_|refine is_ixStr rfl rfl (by omega) (a24 (by omega)) ?_|refine ru_seq ?_|refine ru_reg ?_|refine is_mv rfl ?_|refine is_fadr rfl rfl ?_|refine is_gT rfl ?_|refine is_gF rfl rfl ?_|refine is_gU rfl ?_|refine is_pick rfl rfl rfl rfl ?_|refine is_ext rfl rfl ?_|refine is_nil rfl ?_|refine rk_seq ?_|refine is_lenS rfl ?_|refine is_ldl rfl rfl ?_|(refine is_lss rfl rfl (fun _=>?_) (fun _=>?_)<;>try (exfalso;omega))|(refine is_gtr rfl rfl (fun _=>?_) (fun _=>?_)<;>try (exfalso;omega))|(refine is_eql rfl rfl (fun _=>?_) (fun _=>?_)<;>try (exfalso;omega))|(refine is_neq rfl rfl (fun _=>?_) (fun _=>?_)<;>try (exfalso;omega))|refine ru_iteT rfl ?_|refine ru_iteF rfl ?_|refine is_not rfl rfl ?_|refine is_addS rfl rfl (by omega) ?_|refine is_subS rfl rfl (by omega) ?_|refine is_callE rfl rfl rfl (hP1 _) ?_|refine is_callE rfl rfl rfl (hP2 _) ?_|refine is_callE rfl rfl rfl (hP3 _) ?_|refine is_callE rfl rfl rfl (hRu _) ?_|refine is_callE rfl rfl rfl (hLi _) ?_|refine is_callE rfl rfl rfl (hL2 _) ?_|refine is_callE rfl rfl rfl (hN2 _) ?_|refine is_callE rfl rfl rfl (hC2 _) ?_|refine is_callE rfl rfl rfl (hB3 _) ?_|refine is_callE rfl rfl rfl (hRn _) ?_|refine is_callE rfl rfl rfl (hBn _) ?_|refine is_callE rfl rfl rfl (hL3 _) ?_|refine is_callE rfl rfl rfl (hLn _) ?_|refine ru_skip ?_|refine ru_ret ?_|refine ru_block ?_|refine rk_nil ?_|refine rk_seq_ret ?_|refine rk_blk ?_|refine rk_blk_ret ?_|refine rk_inv ?_|refine rk_inv_ret ?_)
   all_goals try contradiction
   all_goals try (exfalso;omega)
   all_goals try exact absurd rfl ‹_›
   all_goals exact ⟨(i+1,_),⟨rfl,rfl⟩,by simp only;omega,by simp only;omega⟩
 ·obtain rfl:i=ns.length:=by omega
  repeat' (first|refine len1L rfl ?_|refine ru_seq ?_|refine ru_reg ?_|refine is_mv rfl ?_|refine is_nil rfl ?_|refine rk_seq ?_|(refine is_lss rfl rfl (fun _=>?_) (fun _=>?_)<;>try (exfalso;omega))|refine ru_iteF rfl ?_|refine is_callE rfl rfl rfl (hWk _) ?_|refine ru_ret ?_|refine ru_exit ?_|refine rk_nil ?_|refine rk_seq_ex ?_|refine rk_blk_eq rfl ?_|refine rk_inv_ex ?_)
  all_goals try (exfalso;omega)
  refine end_st hA (by first|exact .inl rfl|exact .inr rfl) rfl rfl rfl rfl ?_
  rfl
end Go.Q15
namespace Go.Q15
open Go Go.QAbs
set_option maxRecDepth 100000
set_option maxHeartbeats 32000000
theorem beyond_no {texts:List (List UInt8)} {ys:List Ed} (h:¬ beyondP texts ys):(texts.flatten.length≤900∧texts.length≤4)∧ys.length≤12∧∀ y∈ys,y.text.length≤200:=by
 have h1:¬ longP texts:=fun q=>h (.inl q)
 have h2:¬ manyQ ys:=fun q=>h (.inr (.inl q))
 have h3:¬ 12<ys.length:=fun q=>h (.inr (.inr q))
 obtain ⟨a,b,c⟩:=guards h1 h2
 exact ⟨a,by omega,c⟩
theorem SeekBack_c (texts:List (List UInt8)) (ys:List Ed) (which:Int) (ns:List Int) (hb:texts.length<9223372036854775808) (hbs:∀ s∈texts,s.length<9223372036854775808) (hy:ys.length<9223372036854775808) (hys:∀ y∈ys,y.text.length<9223372036854775808) (hns:ns.length<9223372036854775808) (st:St) :
 S Tb F_quartolaw17_SeekBack [.lit (texts.map .str),.lit (ys.map Ed.av),.int .i64 which,.lit (ns.map (.int .i64))] st=some (.bool true,st):=by
 refine s_of rfl (fun A hA=>?_)
 have hBy:=fun st=>Beyond_c texts ys hb hbs hy hys st
 have hWk:=fun st=>works17_c st
 by_cases hl:beyondP texts ys
 ·simp only [decide_eq_true hl] at hBy
  repeat' (first|refine ru_seq ?_|refine ru_reg ?_|refine is_mv rfl ?_|refine is_gF rfl rfl ?_|refine is_pick rfl rfl rfl rfl ?_|refine is_nil rfl ?_|refine rk_seq ?_|refine ru_iteT rfl ?_|refine is_callE rfl rfl rfl (hBy _) ?_|refine is_callE rfl rfl rfl (hWk _) ?_|refine ru_ret ?_|refine rk_nil ?_|refine rk_seq_ret ?_)
  all_goals try contradiction
  all_goals refine end_st hA (by first|exact .inl rfl|exact .inr rfl) rfl rfl rfl rfl ?_
  all_goals rfl
 simp only [decide_eq_false hl] at hBy
 by_cases h20:20<ns.length
 ·repeat' (first|refine len1L rfl ?_|refine ru_seq ?_|refine ru_reg ?_|refine is_mv rfl ?_|refine is_gT rfl ?_|refine is_pick rfl rfl rfl rfl ?_|refine is_nil rfl ?_|refine rk_seq ?_|(refine is_gtr rfl rfl (fun _=>?_) (fun _=>?_)<;>try (exfalso;omega))|refine ru_iteT rfl ?_|refine is_callE rfl rfl rfl (hBy _) ?_|refine is_callE rfl rfl rfl (hWk _) ?_|refine ru_ret ?_|refine rk_nil ?_|refine rk_seq_ret ?_)
  all_goals try contradiction
  all_goals try (exfalso;omega)
  all_goals refine end_st hA (by first|exact .inl rfl|exact .inr rfl) rfl rfl rfl rfl ?_
  all_goals rfl
 obtain ⟨h9,h12,hy2⟩:=beyond_no hl
 obtain ⟨v,st',hMk,r,c,ros,ss,G0,G1,n,rfl,rfl,hI⟩:=Make_c texts ys h9 h12 hy2 A
 have hn20:=hI.n20
 have hrs:=hI.len
 have hsl:=hI.rts.1
 rcases Nat.eq_zero_or_pos n with hn0|hpos
 ·subst hn0
  repeat' (first|refine len1L rfl ?_|refine ru_seq ?_|refine ru_reg ?_|refine is_mv rfl ?_|refine is_gT rfl ?_|refine is_pick rfl rfl rfl rfl ?_|refine is_ext rfl rfl ?_|refine is_nil rfl ?_|refine rk_seq ?_|refine is_lenR rfl ?_|(refine is_gtr rfl rfl (fun _=>?_) (fun _=>?_)<;>try (exfalso;omega))|(refine is_eql rfl rfl (fun _=>?_) (fun _=>?_)<;>try (exfalso;omega))|refine ru_iteT rfl ?_|refine ru_iteF rfl ?_|refine is_not rfl rfl ?_|refine is_callE rfl rfl rfl (hBy _) ?_|refine is_callE rfl rfl rfl (hWk _) ?_|refine is_callE rfl rfl rfl (hMk) ?_|refine ru_skip ?_|refine ru_ret ?_|refine rk_nil ?_|refine rk_seq_ret ?_)
  all_goals try contradiction
  all_goals try (exfalso;omega)
  all_goals refine end_st hA (by first|exact .inl rfl|exact .inr rfl) rfl rfl rfl rfl ?_
  all_goals rfl
 have hpb:=pickM_bounds (x:=which) (n:=(n:Int)-1) (by omega)
 have hPk:=fun st=>Pick_c which ((n:Int)-1) (by omega) (by omega) st
 generalize pickM which ((n:Int)-1)=z at *
 obtain ⟨ro,hro⟩:∃ x,ros[z.toNat]?=some x:=⟨_,List.getElem?_eq_getElem (by omega)⟩
 obtain ⟨s,hs⟩:∃ x,ss[z.toNat]?=some x:=⟨_,List.getElem?_eq_getElem (by omega)⟩
 have hRt:=hI.rts.2 z.toNat ro s hro hs
 have hsm:=hI.small s (List.mem_of_getElem? hs)
 have f6:(ltL A.length r n ros G0 c ss G1)[6]?=_:=lt_6
 have f7:(ltL A.length r n ros G0 c ss G1)[7+G0.length]?=_:=lt_7
 have g6:(ros.map Ro.av)[0+z.toNat]?=some ro.av:=by rw [Nat.zero_add,List.getElem?_map,hro];rfl
 have g7:(ss.map AV.str)[0+z.toNat]?=some (.str s):=by rw [Nat.zero_add,List.getElem?_map,hs];rfl
 have hz:=lt_len (n:=A.length) (r:=r) (v:=n) (ros:=ros) (G0:=G0) (w:=c) (ss:=ss) (G1:=G1)
 have hne:¬ (A.length=A.length∧(ltL A.length r n ros G0 c ss G1).length=7+G0.length):=by rw [hz];omega
 have hap:∀ T,ltL A.length r n ros G0 c ss G1++[Blk.arr 5 0 [ro.av]]++T=ltL A.length r n ros G0 c ss (G1++[Blk.arr 5 0 [ro.av]]++T):=fun T=>by
  unfold ltL
  simp
 have hlp:=sb_loop hA (L0:=ltL A.length r n ros G0 c ss G1++[Blk.arr 5 0 [ro.av]]) (j0:=(ltL A.length r n ros G0 c ss G1).length) hI.good hRt hsm (fun T=>by rw [hap];exact lt_rd) (fun T=>by
  rw [List.append_assoc,List.getElem?_append_right (Nat.le_refl _),Nat.sub_self];rfl) ns (by omega) []
 rw [lN] at hlp
 clear hap
 generalize ltL A.length r n ros G0 c ss G1=X at *
 unfold Ro.av at hlp
 repeat' (first|exact hlp|refine len1L rfl ?_|refine is_ixRc rfl rfl (by omega) f6 ?_|refine is_ldc rfl f6 g6 (ro_part _) ?_|refine is_onlyIx rfl rfl rfl (by omega) f7 ?_|refine is_onlyLdS rfl rfl f7 g7 rfl ?_|refine is_off rfl rfl rfl hne rfl ?_|refine ru_seq ?_|refine ru_reg ?_|refine is_mv rfl ?_|refine is_gT rfl ?_|refine is_pick rfl rfl rfl rfl ?_|refine is_ext rfl rfl ?_|refine is_nil rfl ?_|refine rk_seq ?_|refine is_lenR rfl ?_|(refine is_gtr rfl rfl (fun _=>?_) (fun _=>?_)<;>try (exfalso;omega))|(refine is_eql rfl rfl (fun _=>?_) (fun _=>?_)<;>try (exfalso;omega))|refine ru_iteF rfl ?_|refine is_not rfl rfl ?_|refine is_subS rfl rfl (by omega) ?_|refine is_boxG rfl rfl rfl ?_|refine is_stT rfl rfl rfl rfl rfl rfl ?_|refine is_callE rfl rfl rfl (hBy _) ?_|refine is_callE rfl rfl rfl (hMk) ?_|refine is_callE rfl rfl rfl (hPk _) ?_|refine ru_skip ?_|refine ru_block ?_)
 all_goals try contradiction
 all_goals try (exfalso;omega)
end Go.Q15
namespace Go.QAbs
open Go.ChangeShapes Go.WideShapes Go.RowKit Go.Deep
variable {P:Program}
def rho0:Rho:=⟨fun _ _=>⟨0,0,0⟩,fun _=>(0,[])⟩
theorem empty_get (lv ix:Nat):St.empty.get lv ix=none:=by
 unfold St.empty St.get
 split<;>simp [vis]
theorem empty_im {W:World} {b o:Nat} {v:Value} (h:W.cell? ⟨b,o,none⟩=some v):(cx .empty rho0 W 0).im b o v :=
 ⟨h,fun ⟨lv,ix,w,ver,es,hg,_⟩=>by rw [empty_get] at hg;simp at hg⟩
theorem walk_in (hm:P.follows .mixedOrders=true) {T:Tab} (hT:TabOk P T) {f:FuncId} {args:List AV} (h:∃ st',S T f args .empty=some (.bool true,st')) {W:World} {xs:List Value} (hx:RL (cx .empty rho0 W 0) args xs) :
 Calls P f xs.toArray W fun e W'=>e=.returned (.bool true)∧Below W.heap.size W W':=by
 obtain ⟨st',h⟩:=h
 refine (S_calls hm hT h (rel_empty W) hx).mono fun e' W' ⟨x,_,he,g,hv⟩=>?_
 subst he
 exact ⟨by rw [getBool hv],g.rel.below.b⟩
theorem lit_idx {W:World} {b off len cap w:Nat} (es:List AV) (g:Nat→Value) (hlen:es.length=len) (hc:len≤cap) (he:∀ (i:Nat) (e:AV),es[i]?=some e→R (cx .empty rho0 W 0).pure e (g i))
 (hg:∀ i,i<len→(g i).cells.size=w∧∀ (j:Nat) (v:Value),(g i).cells[j]?=some v→W.cell? ⟨b,off+i*w+j,none⟩=some v):R (cx .empty rho0 W 0) (.lit es) (.slice (some ⟨b,off,none⟩) len cap):=by
 subst hlen
 exact .lit (w:=w) g he (fun i hi=>⟨(hg i hi).1,fun j v hv=>empty_im ((hg i hi).2 j v hv)⟩) hc
section
variable {H:Type} {enc:TypeId × Value→H}
theorem open_strs_arg {W:World} {base:Nat} {t e:TypeId} {v:Value} {d:DataW H} {ps:List MemPlace} (ht:P.underlying t=some (.slice e)) (he:P.underlying e=some .string) (hc:P.cellsOf e=1)
 (hval:Value.okWide P W .any base t v) (h:DataW.Trod enc P W 0 (fun _=>true) true t v d ps) :
 ∃ ss:List (List UInt8),(∀ s∈ss,s.length≤maxLen)∧ss.length≤maxLen∧R (cx .empty rho0 W 0) (.lit (ss.map .str)) v:=by
 obtain ⟨a0,len,cap,rfl⟩:=okWide_slice ht hval
 obtain ⟨fuel,hf⟩:=h
 rcases open_strings ht he hc hf with ⟨hcs,hx⟩|⟨a,len',cap',ss,hcs,_,hl,hm,hz,hx,hcell,hsz⟩
 ·refine ⟨[],by simp,by simp,?_⟩
  have:(Value.slice a0 len cap)=.slice none 0 0:=by simpa [Value.cells] using hcs
  rw [this];exact .lit0 _ _
 ·have hv:(Value.slice a0 len cap)=.slice (some a) len' cap':=by simpa [Value.cells] using hcs
  rw [hv]
  simp only [if_true] at hz
  refine ⟨(ss.take len').map (fun s=>s.data.toList),?_,?_,?_⟩
  ·intro s hs
   obtain ⟨s',hs',rfl⟩:=List.mem_map.1 hs
   rw [Array.length_toList];exact hsz s' (List.mem_of_mem_take hs')
  ·rw [List.length_map,List.length_take];omega
  ·cases len' with
   | zero=>exact .lit0 _ _
   | succ n =>
    obtain ⟨b,off,spot⟩:=a
    have hspot:spot=none:=by simpa [Addr.add] using World.cell?_spot (hcell 0 (by omega))
    subst hspot
    refine lit_idx (w:=1) _ (fun i=>.string (ss.getD i ByteArray.empty)) (by simp;omega) hl (fun i e he=>?_) (fun i hi=>⟨rfl,fun j v hv=>?_⟩)
    ·rw [List.getElem?_map,List.getElem?_map,List.getElem?_take] at he
     by_cases hi:i<n+1
     ·rw [if_pos hi] at he
      have hs:ss[i]?=some (ss.getD i ByteArray.empty):=by
       have:i<ss.length:=by omega
       simp [List.getD,this]
      rw [hs] at he
      simp only [Option.map_some,oJ] at he
      subst he
      rw [str_eq (ss.getD i ByteArray.empty)]
      exact .str _
     ·rw [if_neg hi] at he;simp at he
    ·have hj : j = 0 := by
      have:j<(Value.string (ss.getD i ByteArray.empty)).cells.size:=(Array.getElem?_eq_some_iff.1 hv).1
      simp [Value.cells] at this;omega
     subst hj
     have hv':Value.string (ss.getD i ByteArray.empty)=v:=by simpa [Value.cells] using hv
     rw [← hv']
     have:=hcell i (by omega)
     simpa [Addr.add_lit] using this
theorem open_ops_arg {W:World} {base:Nat} {t e t0 t1 t2 t3 t4:TypeId} {f0 f1 f2 f3 f4:Field} {v:Value} {d:DataW H} {ps:List MemPlace} (ht:P.underlying t=some (.slice e)) (he:P.underlying e=some (.struct #[f0,f1,f2,f3,f4])) (hc:P.cellsOf e=5)
 (hf0:f0.type=t0∧f0.offset=0∧P.underlying t0=some (.int .u8)∧P.cellsOf t0=1) (hf1:f1.type=t1∧f1.offset=1∧P.underlying t1=some (.int .i64)∧P.cellsOf t1=1) (hf2:f2.type=t2∧f2.offset=2∧P.underlying t2=some (.int .i64)∧P.cellsOf t2=1)
 (hf3:f3.type=t3∧f3.offset=3∧P.underlying t3=some (.int .i64)∧P.cellsOf t3=1) (hf4:f4.type=t4∧f4.offset=4∧P.underlying t4=some .string∧P.cellsOf t4=1) (hval:Value.okWide P W .any base t v) (h:DataW.Trod enc P W 0 (fun _=>true) true t v d ps) :
 ∃ l:List (Nat × Int × Int × Int × List UInt8),(∀ s∈l,s.2.2.2.2.length≤maxLen)∧l.length≤maxLen∧R (cx .empty rho0 W 0) (.lit (l.map fun q=>.agg [.int .u8 q.1,.int .i64 q.2.1,.int .i64 q.2.2.1,.int .i64 q.2.2.2.1,.str q.2.2.2.2])) v:=by
 obtain ⟨a0,len,cap,rfl⟩:=okWide_slice ht hval
 obtain ⟨fuel,hf⟩:=h
 rcases open_slice ht hf with ⟨hcs,hx⟩|⟨a,len',cap',m,n,D,Pl,hcs,_,hl,hm,hmm,hx,hall⟩
 ·refine ⟨[],by simp,by simp,?_⟩
  have:(Value.slice a0 len cap)=.slice none 0 0:=by simpa [Value.cells] using hcs
  rw [this];exact .lit0 _ _
 ·have hv:(Value.slice a0 len cap)=.slice (some a) len' cap':=by simpa [Value.cells] using hcs
  rw [hv]
  simp only [if_true] at hmm
  subst hmm
  rw [hc] at hall
  have each:∀ i,i<len'→∃ q:Nat × Int × Int × Int × List UInt8,q.2.2.2.2.length≤maxLen∧W.cell? (a.add (i*5))=some (.int .u8 q.1)∧W.cell? (a.add (i*5+1))=some (.int .i64 q.2.1)∧W.cell? (a.add (i*5+2))=some (.int .i64 q.2.2.1)∧W.cell? (a.add (i*5+3))=some (.int .i64 q.2.2.2.1)∧W.cell? (a.add (i*5+4))=some (.string ⟨q.2.2.2.2.toArray⟩):=by
   intro i hi
   obtain ⟨cs',h1,h2⟩:=hall i (by omega)
   obtain ⟨_,hlen,hcell⟩:=World.cells?_some h1
   obtain ⟨xs,k,_,_,_,hxl,hfs⟩:=DataW.trod_struct he h2
   have g0:=hfs 0 f0 rfl
   have g1:=hfs 1 f1 rfl
   have g2:=hfs 2 f2 rfl
   have g3:=hfs 3 f3 rfl
   have g4:=hfs 4 f4 rfl
   match cs',hlen,xs,hxl with
   | [c0,c1,c2,c3,c4],_,[y0,y1,y2,y3,y4],_ =>
    simp only [hf0.1,hf0.2.1,hf0.2.2.2,hf1.1,hf1.2.1,hf1.2.2.2,hf2.1,hf2.2.1,hf2.2.2.2,hf3.1,hf3.2.1,hf3.2.2.2,hf4.1,hf4.2.1,hf4.2.2.2,List.drop,List.take,List.getElem?_cons_zero,List.getElem?_cons_succ] at g0 g1 g2 g3 g4
    obtain ⟨n0,e0,_,w0⟩:=DataW.trod_int hf0.2.2.1 g0
    obtain ⟨n1,e1,_,_⟩:=DataW.trod_int hf1.2.2.1 g1
    obtain ⟨n2,e2,_,_⟩:=DataW.trod_int hf2.2.2.1 g2
    obtain ⟨n3,e3,_,_⟩:=DataW.trod_int hf3.2.2.1 g3
    obtain ⟨s,e4,_,hs⟩:=DataW.trod_string hf4.2.2.1 g4
    simp only [List.cons.injEq,and_true] at e0 e1 e2 e3 e4
    subst e0;subst e1;subst e2;subst e3;subst e4
    have hn0:0≤n0:=by
     simp only [Lit.wf,Bool.and_eq_true,decide_eq_true_eq] at w0
     exact w0.1
    refine ⟨(n0.toNat,n1,n2,n3,s.data.toList),by simp only [Array.length_toList];exact hs,?_,?_,?_,?_,?_⟩
    ·have:=hcell 0 (by omega)
     simp only [add_add,Nat.add_zero,List.getElem?_cons_zero] at this
     rw [this];simp only [Int.toNat_of_nonneg hn0]
    ·have:=hcell 1 (by omega)
     simpa only [add_add,List.getElem?_cons_succ,List.getElem?_cons_zero] using this
    ·have:=hcell 2 (by omega)
     simpa only [add_add,List.getElem?_cons_succ,List.getElem?_cons_zero] using this
    ·have:=hcell 3 (by omega)
     simpa only [add_add,List.getElem?_cons_succ,List.getElem?_cons_zero] using this
    ·have:=hcell 4 (by omega)
     simp only [add_add,List.getElem?_cons_succ,List.getElem?_cons_zero] at this
     rw [this,str_eq s]
  obtain ⟨q,hq⟩:=choose_lt each
  refine ⟨(List.range len').map q,?_,by simp;omega,?_⟩
  ·intro s hs
   obtain ⟨i,hi,rfl⟩:=List.mem_map.1 hs
   exact (hq i (List.mem_range.1 hi)).1
  ·cases len' with
   | zero=>exact .lit0 _ _
   | succ len' =>
    obtain ⟨b,off,spot⟩:=a
    have hspot:spot=none:=by simpa [Addr.add] using World.cell?_spot (hq 0 (by omega)).2.1
    subst hspot
    refine lit_idx (w:=5) _ (fun i=>.agg #[.int .u8 (q i).1,.int .i64 (q i).2.1,.int .i64 (q i).2.2.1,.int .i64 (q i).2.2.2.1,.string ⟨(q i).2.2.2.2.toArray⟩]) (by simp) hl (fun i e he=>?_) (fun i hi=>⟨by simp [Value.cells],fun j v hv=>?_⟩)
    ·rw [List.getElem?_map,List.getElem?_map] at he
     by_cases hi:i<len'+1
     ·rw [List.getElem?_range hi] at he
      simp only [Option.map_some,oJ] at he
      subst he
      have hr:=RL.cons (C:=(cx .empty rho0 W 0).pure) (.int .u8 ((q i).1:Int)) (.cons (.int .i64 (q i).2.1) (.cons (.int .i64 (q i).2.2.1) (.cons (.int .i64 (q i).2.2.2.1) (.cons (.str (q i).2.2.2.2) (.nil _)))))
      exact .agg (xs:=[_,_,_,_,_]) hr.1 hr.2
     ·have:(List.range (len'+1))[i]?=none:=by simp;omega
      rw [this] at he;simp at he
    ·obtain ⟨_,k0,k1,k2,k3,k4⟩:=hq i hi
     have hj:j<5:=by
      have:=(Array.getElem?_eq_some_iff.1 hv).1
      simpa [Value.cells] using this
     simp only [Addr.add_lit] at k0 k1 k2 k3 k4
     match j,hj with
     | 0,_ =>
      have:v=.int .u8 (q i).1:=by simpa [Value.cells] using hv.symm
      subst this;simpa using k0
     | 1,_ =>
      have:v=.int .i64 (q i).2.1:=by simpa [Value.cells] using hv.symm
      subst this;simpa [Nat.add_assoc] using k1
     | 2,_ =>
      have:v=.int .i64 (q i).2.2.1:=by simpa [Value.cells] using hv.symm
      subst this;simpa [Nat.add_assoc] using k2
     | 3,_ =>
      have:v=.int .i64 (q i).2.2.2.1:=by simpa [Value.cells] using hv.symm
      subst this;simpa [Nat.add_assoc] using k3
     | 4,_ =>
      have:v=.string ⟨(q i).2.2.2.2.toArray⟩:=by simpa [Value.cells] using hv.symm
      subst this;simpa [Nat.add_assoc] using k4
end
end Go.QAbs
namespace Go.QAbs
open Go.ChangeShapes Go.WideShapes Go.RowKit Go.Deep
variable {P:Program}
section
variable {H:Type} {enc:TypeId × Value→H}
theorem open_ints_arg {W:World} {base:Nat} {t e:TypeId} {v:Value} {d:DataW H} {ps:List MemPlace} (ht:P.underlying t=some (.slice e)) (he:P.underlying e=some (.int .i64)) (hc:P.cellsOf e=1)
 (hval:Value.okWide P W .any base t v) (h:DataW.Trod enc P W 0 (fun _=>true) true t v d ps) :
 ∃ l:List Int,l.length≤maxLen∧R (cx .empty rho0 W 0) (.lit (l.map (.int .i64))) v:=by
 obtain ⟨a0,len,cap,rfl⟩:=okWide_slice ht hval
 obtain ⟨fuel,hf⟩:=h
 rcases open_ints ht he hc hf with ⟨hcs,hx⟩|⟨a,len',cap',zs,hcs,_,hl,hm,hz,hx,hcell,hsz⟩
 ·refine ⟨[],by simp,?_⟩
  have:(Value.slice a0 len cap)=.slice none 0 0:=by simpa [Value.cells] using hcs
  rw [this];exact .lit0 _ _
 ·have hv:(Value.slice a0 len cap)=.slice (some a) len' cap':=by simpa [Value.cells] using hcs
  rw [hv]
  simp only [if_true] at hz
  refine ⟨zs.take len',?_,?_⟩
  ·rw [List.length_take];omega
  ·cases len' with
   | zero=>exact .lit0 _ _
   | succ n =>
    obtain ⟨b,off,spot⟩:=a
    have hspot:spot=none:=by simpa [Addr.add] using World.cell?_spot (hcell 0 (by omega))
    subst hspot
    refine lit_idx (w:=1) _ (fun i=>.int .i64 (zs.getD i 0)) (by simp;omega) hl (fun i e he=>?_) (fun i hi=>⟨rfl,fun j v hv=>?_⟩)
    ·rw [List.getElem?_map,List.getElem?_take] at he
     by_cases hi:i<n+1
     ·rw [if_pos hi] at he
      have hs:zs[i]?=some (zs.getD i 0):=by
       have:i<zs.length:=by omega
       simp [List.getD,this]
      rw [hs] at he
      simp only [Option.map_some,oJ] at he
      subst he
      exact .int _ _
     ·rw [if_neg hi] at he;simp at he
    ·have hj : j = 0 := by
      have:j<(Value.int .i64 (zs.getD i 0)).cells.size:=(Array.getElem?_eq_some_iff.1 hv).1
      simp [Value.cells] at this;omega
     subst hj
     have hv':Value.int .i64 (zs.getD i 0)=v:=by simpa [Value.cells] using hv
     rw [← hv']
     have:=hcell i (by omega)
     simpa [Addr.add_lit] using this
end
end Go.QAbs
namespace Go.Q15
open Go Go.QAbs
set_option maxRecDepth 100000
open Go.Shelf in
def cloneRen:Ren:=⟨fun|41=>107|n=>n,fun|22=>105|23=>111|n=>n,fun n=>n⟩
theorem cloneL:Go.Proofs.SlLaysE0.n41 Go.Proofs.Tryz.prog cloneRen:={
 mixed:=by kernel_rfl
 f41 := ⟨"slices.Clone[[]quarto/api.Kid,quarto/api.Kid]", by decide, Go.Proofs.Tryz.func107.trans (congrArg some (by kernel_rfl))⟩
 t4:=Go.Proofs.Tryz.underlying4
 a4:=Go.Proofs.Tryz.isAgg4
 z4:=Go.Proofs.Tryz.sizeOf4
 v4:=Go.Proofs.Tryz.zeroValue4
 t22:=Go.Proofs.Tryz.underlying105
 a22:=Go.Proofs.Tryz.isAgg105
 z22:=Go.Proofs.Tryz.sizeOf105
 v22:=Go.Proofs.Tryz.zeroValue105 }
theorem kid_info:∃ i z,Go.Proofs.Tryz.prog.info? 111=some i∧i.zero=some z∧i.size=4∧i.bytes=32∧z.cells.size=4:=⟨_,_,rfl,rfl,rfl,rfl,rfl⟩
theorem clone_ok15:EntOk Go.Proofs.Tryz.prog F_slices_Clone_api_Kid_api_Kid (.base (cloneO 4)):=by
 obtain ⟨i,z,h1,h2,h3,h4,h5⟩:=kid_info
 refine clone_ok (T:=111) (fun n c W=>Go.Proofs.AnyE.slices_Clone_nil cloneL n c W) fun ad n c news W hl hn hc ho=>?_
 exact clone_any cloneL i z 4 32 h1 h2 h3 h4 h5 (by decide) Go.Proofs.Tryz.sizeOf111 ad n c news W hl (by unfold maxLen;omega) (by omega) hc ho
theorem tl_all:AllOk Go.Proofs.Tryz.prog tl:=⟨⟨Go.Proofs.Tryz.call107,clone_ok15⟩,tab_all⟩
theorem Tb_ok:TabOk Go.Proofs.Tryz.prog Tb:=tabOk_of tl_all
def mkEd (q:Nat × Int × Int × Int × List UInt8):Ed:=⟨q.1,q.2.1,q.2.2.1,q.2.2.2.1,q.2.2.2.2⟩
theorem seekBack_run (ss:List (List UInt8)) (l:List (Nat × Int × Int × Int × List UInt8)) (which:Int) (ns:List Int) (h1:∀ s∈ss,s.length≤maxLen) (h2:ss.length≤maxLen) (h3:∀ s∈l,s.2.2.2.2.length≤maxLen) (h4:l.length≤maxLen) (_h5:(Lit.int .i64 which).wf=true) (h6:ns.length≤maxLen) :
 ∃ st',S Tb F_quartolaw17_SeekBack [.lit (ss.map .str),.lit (l.map fun q=>.agg [.int .u8 q.1,.int .i64 q.2.1,.int .i64 q.2.2.1,.int .i64 q.2.2.2.1,.str q.2.2.2.2]),.int .i64 which,.lit (ns.map (.int .i64))] .empty=some (.bool true,st'):=by
 have hm:maxLen<9223372036854775808:=by decide +kernel
 have:=SeekBack_c ss (l.map mkEd) which ns (by omega) (fun s hs=>by have:=h1 s hs;omega) (by rw [List.length_map];omega) (fun s hs=>by obtain ⟨q,hq,rfl⟩:=List.mem_map.1 hs;have:=h3 q hq;simp only [mkEd];omega) (by omega) .empty
 rw [List.map_map] at this
 exact ⟨_,this⟩
end Go.Q15
