/- A part of the proof: S7, ZM1, ZM2, ZM3, S4, S5, S6, ZSH, ZM4, ZAR, ZM21, ZSN, ZLAY, S8, YX, ZSC, ZSR. No condition. -/
import Derived.Lib.Repeat
import Derived.Shelf.Strings.OnBuilder
import Derived.Shelf.Small.Strs
import Derived.Shelf.Strings.Search1
import Derived.Shelf.Strings.Search2
import Derived.Shelf.Strings.Search3
import Derived.Test.YtdkponaiamhnoaaGreatProg
import Derived.Lib.Index
import Derived.Lib.Bytealg
import Derived.Test.YtdkponaiamhnoaaGreatSnT4
set_option linter.unusedVariables false
set_option linter.unusedSimpArgs false
namespace Go.QAbs
open Go.RowKit (Below)
end Go.QAbs
namespace Go.QZ
open Go Go.QAbs
set_option maxRecDepth 100000
def tl:List (FuncId × Ent):=(F_slices_Clone_api_Kid_api_Kid,.base (cloneO 4))::tabL
def Tb:Tab:=lookT tl
structure Mea where
 b:Int
 r:Int
 l:Int
deriving DecidableEq
def Mea.zero:Mea:=⟨0,0,0⟩
def Mea.add (x y:Mea):Mea:=⟨x.b+y.b,x.r+y.r,x.l+y.l⟩
def Mea.av (m:Mea):AV:=.agg [.int .i64 m.b,.int .i64 m.r,.int .i64 m.l]
theorem Mea.ext' {x y:Mea} (h1:x.b=y.b) (h2:x.r=y.r) (h3:x.l=y.l):x=y:=by
 cases x;cases y;simp_all
def beginsB (b:UInt8):Bool:=b.toNat<128 || 191<b.toNat
def feedsB (b:UInt8):Bool:=b.toNat == 10
def meaT (s:List UInt8):Mea:=⟨s.length,s.countP beginsB,s.countP feedsB⟩
theorem every_c (b:UInt8) (st:St):S Tb F_measure_every [.int .u8 b.toNat] st=some (.bool true,st):=by
 refine s_of rfl (fun A hA=>?_)
 repeat' (first|refine ru_seq ?_|refine ru_reg ?_|refine is_mv rfl ?_|refine is_nil rfl ?_|refine rk_seq ?_|refine ru_ret ?_|refine rk_nil ?_)
 refine end_st hA (by first|exact .inl rfl|exact .inr rfl) rfl rfl rfl rfl ?_
 rfl
theorem begins_c (b:UInt8) (st:St):S Tb F_measure_begins [.int .u8 b.toNat] st=some (.bool (beginsB b),st):=by
 refine s_of rfl (fun A hA=>?_)
 repeat' (first|refine ru_seq ?_|refine ru_reg ?_|refine is_mv rfl ?_|refine is_gT rfl ?_|refine is_gF rfl rfl ?_|refine is_pick rfl rfl rfl rfl ?_|refine is_nil rfl ?_|refine rk_seq ?_|(refine is_lss rfl rfl (fun _=>?_) (fun _=>?_)<;>try (exfalso;omega))|(refine is_gtr rfl rfl (fun _=>?_) (fun _=>?_)<;>try (exfalso;omega))|refine ru_ret ?_|refine rk_nil ?_)
 all_goals refine end_st hA (by first|exact .inl rfl|exact .inr rfl) rfl rfl rfl rfl ?_
 all_goals (unfold beginsB;simp;omega)
theorem feeds_c (b:UInt8) (st:St):S Tb F_measure_feeds [.int .u8 b.toNat] st=some (.bool (feedsB b),st):=by
 refine s_of rfl (fun A hA=>?_)
 repeat' (first|refine ru_seq ?_|refine ru_reg ?_|refine is_mv rfl ?_|refine is_nil rfl ?_|refine rk_seq ?_|(refine is_eql rfl rfl (fun _=>?_) (fun _=>?_)<;>try (exfalso;omega))|refine ru_ret ?_|refine rk_nil ?_)
 all_goals refine end_st hA (by first|exact .inl rfl|exact .inr rfl) rfl rfl rfl rfl ?_
 all_goals (unfold feedsB;simp;omega)
def Tells (f:FuncId) (p:UInt8→Bool):Prop:=∀ b st,S Tb f [.int .u8 b.toNat] st=some (.bool (p b),st)
theorem getB {s:List UInt8} {i:Nat} (h:i<s.length):∃ b,s[i]?=some b∧s.take (i+1)=s.take i++[b]:=by
 refine ⟨s[i],by simp [h],?_⟩
 rw [List.take_add_one];simp [h]
theorem count_c (f:FuncId) (p:UInt8→Bool) (hf:Tells f p) (s:List UInt8) (hs:s.length<4294967296) (st:St):S Tb F_measure_count [.str s,.func (.func f) [] []] st=some (.int .i64 (s.countP p),st):=by
 refine s_of rfl (fun A hA=>?_)
 repeat' (first|refine ru_seq ?_|refine ru_reg ?_|refine is_mv rfl ?_|refine is_nil rfl ?_|refine rk_seq ?_|refine is_lenS rfl ?_|refine ru_block ?_)
 refine ru_loopP (α:=Nat) (fun i=>[(0,.str s),(1,.func (.func f) [] []),(5,.int .i64 ((s.take i).countP p)),(8,.int .i64 s.length),(9,.int .i64 i)])
  (fun i=>⟨A,false,[]⟩) (fun i=>i≤s.length) (fun i=>s.length-i) 0 rfl rfl (Nat.zero_le _) ?_
 intro i hi
 repeat' (first|refine ru_seq ?_|refine ru_reg ?_|refine is_mv rfl ?_|refine is_nil rfl ?_|refine rk_seq ?_|(refine is_lss rfl rfl (fun _=>?_) (fun _=>?_)<;>try (exfalso;omega))|refine ru_iteT rfl ?_|refine ru_iteF rfl ?_|refine ru_skip ?_|refine ru_ret ?_|refine ru_exit ?_|refine ru_block ?_|refine rk_nil ?_|refine rk_seq_ex ?_|refine rk_blk_eq rfl ?_|refine rk_inv_ex ?_)
 ·rename_i hlt
  obtain ⟨b,hb,ht⟩:=getB (s:=s) (i:=i) (by omega)
  have hc:=List.countP_le_length (p:=p) (l:=s.take i)
  have hl:=List.length_take_le i s
  refine is_ixStr rfl rfl (by omega) (by simpa using hb) ?_
  refine is_callE rfl rfl rfl (hf b _) ?_
  cases hp:p b
  ·repeat' (first|refine ru_reg ?_|refine is_mv rfl ?_|refine is_nil rfl ?_|refine rk_seq ?_|refine ru_iteF rfl ?_|refine is_addS rfl rfl (by omega) ?_|refine ru_skip ?_|refine rk_blk ?_|refine rk_inv ?_)
   refine ⟨i+1,⟨?_,rfl⟩,by omega,by omega⟩
   rw [ht,List.countP_append];simp [hp]
  ·repeat' (first|refine ru_reg ?_|refine is_mv rfl ?_|refine is_nil rfl ?_|refine rk_seq ?_|refine ru_iteT rfl ?_|refine is_addS rfl rfl (by omega) ?_|refine rk_blk ?_|refine rk_inv ?_)
   refine ⟨i+1,⟨?_,rfl⟩,by omega,by omega⟩
   rw [ht,List.countP_append];simp [hp]
 ·refine end_st hA (by first|exact .inl rfl|exact .inr rfl) rfl rfl rfl rfl ?_
  rw [List.take_of_length_le (by omega)]
theorem eqv3 (a b c x y z:Int):eqV [(0,0),(1,0),(2,0)] 0 (.agg [.int .i64 a,.int .i64 b,.int .i64 c]) (.agg [.int .i64 x,.int .i64 y,.int .i64 z])=some (decide (a=x∧b=y∧c=z)):=by
 show (if decide (a=x)=true then (if decide (b=y)=true then (if decide (c=z)=true then some true else some false) else some false) else some false)=_
 by_cases h1:a=x<;>by_cases h2:b=y<;>by_cases h3:c=z<;>simp [h1,h2,h3]
theorem measured_c (m:Mea) (st:St):S Tb F_measure_measured [m.av] st=some (m.av,st):=by
 refine s_of rfl (fun A hA=>?_)
 unfold Mea.av
 repeat' (first|refine ru_seq ?_|refine ru_reg ?_|refine is_ldc rfl rfl rfl rfl ?_|refine is_nil rfl ?_|refine rk_seq ?_|refine ru_iteT rfl ?_|refine ru_iteF rfl ?_|refine is_buildO rfl rfl rfl ?_|refine is_box rfl rfl rfl ?_|refine is_stb rfl rfl rfl rfl rfl rfl ?_|refine is_ixA rfl rfl rfl ?_|(refine is_eqsB rfl rfl (eqv3 _ _ _ 0 0 0) (fun _=>?_) (fun _=>?_))|refine ru_skip ?_|refine ru_ret ?_|refine rk_nil ?_|refine rk_seq_ret ?_)
 ·rename_i h
  refine end_c hA (by first|exact .inl rfl|exact .inr rfl) rfl rfl rfl rfl rfl ?_
  rw [h.1,h.2.1,h.2.2]
 ·refine end_c hA (by first|exact .inl rfl|exact .inr rfl) rfl rfl rfl rfl rfl ?_
  rfl
theorem Of_c (s:List UInt8) (hs:s.length<4294967296) (st:St):S Tb F_measure_Of [.str s] st=some ((meaT s).av,st):=by
 refine s_of rfl (fun A hA=>?_)
 have h1:=fun st=>count_c F_measure_every (fun _=>true) every_c s hs st
 have h2:=fun st=>count_c F_measure_begins beginsB begins_c s hs st
 have h3:=fun st=>count_c F_measure_feeds feedsB feeds_c s hs st
 repeat' (first|refine ru_seq ?_|refine ru_reg ?_|refine is_mv rfl ?_|refine is_ldc rfl rfl rfl rfl ?_|refine is_nil rfl ?_|refine rk_seq ?_|(refine is_lss rfl rfl (fun _=>?_) (fun _=>?_)<;>try (exfalso;omega))|refine ru_iteT rfl ?_|refine ru_iteF rfl ?_|refine is_addS rfl rfl (by omega) ?_|refine is_buildO rfl rfl rfl ?_|refine is_box rfl rfl rfl ?_|refine is_stb rfl rfl rfl rfl rfl rfl ?_|refine is_ixArr rfl rfl rfl ?_|refine is_ixA rfl rfl rfl ?_|refine is_callE rfl rfl rfl (h1 _) ?_|refine is_callE rfl rfl rfl (h2 _) ?_|refine is_callE rfl rfl rfl (h3 _) ?_|refine is_callE rfl rfl rfl (measured_c ⟨_,_,_⟩ _) ?_|refine ru_unroll ?_|refine ru_skip ?_|refine ru_ret ?_|refine ru_exit ?_|refine ru_block ?_|refine rk_nil ?_|refine rk_seq_ex ?_|refine rk_blk ?_|refine rk_blk_eq rfl ?_)
 refine end_c hA (by first|exact .inl rfl|exact .inr rfl) rfl rfl rfl rfl rfl ?_
 simp [Mea.av,meaT]
theorem wrapU64 {n:Nat} (h:n<18446744073709551616):IntKind.u64.wrap (n:Int)=n:=by
 have e1:IntKind.u64.signed=false:=rfl
 have e2:IntKind.u64.bits=64:=rfl
 simp only [IntKind.wrap,e1,e2,Bool.false_and,if_false,Bool.false_eq_true]
 omega
theorem wrapI64 {n:Nat} (h:n<9223372036854775808):IntKind.i64.wrap (n:Int)=n:=wrap64 (by omega) (by omega)
theorem and16 {h:Nat} (hh:h<18446744073709551616):binV .and (.int .u64 h) (.int .u64 65535)=some (.int .u64 ((h % 65536:Nat):Int)):=by
 have e:(BitVec.ofInt 64 (h:Int) &&& BitVec.ofInt 64 65535).toNat=h % 65536:=by
  have e1:BitVec.ofInt 64 (h:Int)=BitVec.ofNat 64 h:=by simp
  have e2:BitVec.ofInt 64 65535=BitVec.ofNat 64 65535:=rfl
  rw [e1,e2,BitVec.toNat_and,BitVec.toNat_ofNat,BitVec.toNat_ofNat,Nat.mod_eq_of_lt (by omega:h<2 ^ 64)]
  exact Nat.and_two_pow_sub_one_eq_mod h 16
 show some (AV.int .u64 (IntKind.u64.wrap ((BitVec.ofInt 64 (h:Int) &&& BitVec.ofInt 64 65535).toNat:Int)))=_
 rw [e,wrapU64 (by omega)]
theorem shr16 {h:Nat}:binV .shr (.int .u64 h) (.int .u64 16)=some (.int .u64 ((h / 65536:Nat):Int)):=by
 show some (AV.int .u64 ((h:Int).fdiv (2 ^ 16)))=_
 rw [Int.fdiv_eq_ediv_of_nonneg _ (by decide)];rfl
theorem parts_c (h:Nat) (hh:h<18446744073709551616) (st:St):S Tb F_handle_parts [.int .u64 h] st=some (.tup [.int .i64 ((h % 65536:Nat):Int),.int .u64 ((h / 65536:Nat):Int)],st):=by
 refine s_of rfl (fun A hA=>?_)
 repeat' (first|refine ru_seq ?_|refine ru_reg ?_|refine is_mv rfl ?_|refine is_nil rfl ?_|refine rk_seq ?_|refine is_bin rfl rfl (and16 hh) ?_|refine is_bin rfl rfl shr16 ?_|refine is_cintW rfl (wrapI64 (by omega)) ?_|refine ru_ret ?_|refine rk_nil ?_)
 refine end_st hA (by first|exact .inl rfl|exact .inr rfl) rfl rfl rfl rfl ?_
 rfl
abbrev handleP (h:Nat):Prop:=h % 65536<16384∧1≤h / 65536∧h / 65536≤4294967295
theorem hCheck_ok (h:Nat) (hh:handleP h) (st:St):S Tb F_handle_Check [.int .u64 h] st=some (.int .i64 0,st):=by
 refine s_of rfl (fun A hA=>?_)
 repeat' (first|refine ru_seq ?_|refine ru_reg ?_|refine is_mv rfl ?_|refine is_gT rfl ?_|refine is_pick rfl rfl rfl rfl ?_|refine is_ext rfl rfl ?_|refine is_nil rfl ?_|refine rk_seq ?_|(refine is_lss rfl rfl (fun _=>?_) (fun _=>?_)<;>try (exfalso;omega))|(refine is_gtr rfl rfl (fun _=>?_) (fun _=>?_)<;>try (exfalso;omega))|(refine is_geq rfl rfl (fun _=>?_) (fun _=>?_)<;>try (exfalso;omega))|refine ru_iteF rfl ?_|refine is_callE rfl rfl rfl (parts_c h (by omega) _) ?_|refine ru_skip ?_|refine ru_ret ?_|refine rk_nil ?_)
 all_goals try (exfalso;omega)
 all_goals refine end_st hA (by first|exact .inl rfl|exact .inr rfl) rfl rfl rfl rfl ?_
 all_goals rfl
end Go.QZ
namespace Go.QZ
open Go Go.QAbs
set_option maxRecDepth 100000
structure Kid where
 at_:Nat
 m:Mea
deriving DecidableEq
def Kid.av (k:Kid):AV:=.agg [.int .u64 k.at_,.int .i64 k.m.b,.int .i64 k.m.r,.int .i64 k.m.l]
def slV {α:Type} (f:α→AV):Option (List α)→AV
 | none=>.nils
 | some l=>.lit (l.map f)
structure Nd where
 h:Nat
 text:List UInt8
 kids:Option (List Kid)
def Nd.av (x:Nd):AV:=.agg [.int .i64 x.h,.str x.text,slV Kid.av x.kids]
def Nd.ks (x:Nd):List Kid:=x.kids.getD []
def leastB (h:Nat):Nat:=8*2 ^ h
def mostB:Nat→Nat
 | 0=>16
 | h+1=>min (mostB h*4) 65536
theorem mostB_le:∀ h,16≤mostB h∧mostB h≤65536
 | 0=>by simp [mostB]
 | h+1=>by have:=mostB_le h;simp only [mostB];omega
theorem leastB_le {h:Nat} (hh:h≤16):8≤leastB h∧leastB h≤524288:=by
 have h1:2 ^ h≤2 ^ 16:=Nat.pow_le_pow_right (by decide) hh
 have h2:1≤2 ^ h:=Nat.one_le_two_pow
 unfold leastB;omega
theorem leastB_succ (h:Nat):leastB (h+1)=leastB h*2:=by unfold leastB;rw [Nat.pow_succ];omega
theorem bounds_c (n:Nat) (i:Int) (hi:i=n) (hn:n≤16) (st:St):S Tb F_node_bounds [.int .i64 i] st=some (.tup [.int .i64 (leastB n),.int .i64 (mostB n)],st):=by
 subst hi
 refine s_of rfl (fun A hA=>?_)
 repeat' (first|refine ru_seq ?_|refine ru_reg ?_|refine is_mv rfl ?_|refine is_nil rfl ?_|refine rk_seq ?_|refine ru_block ?_)
 refine ru_loopP (α:=Nat) (fun i=>[(2,.int .i64 (leastB i)),(3,.int .i64 (mostB i)),(4,.int .i64 n),(5,.int .i64 i)]) (fun i=>⟨A,false,[]⟩) (fun i=>i≤n) (fun i=>n-i) 0 rfl rfl (by omega) ?_
 intro i hi
 have hl:=leastB_le (h:=i) (by omega)
 have hm:=mostB_le i
 repeat' (first|refine ru_seq ?_|refine ru_reg ?_|refine is_mv rfl ?_|refine is_nil rfl ?_|refine rk_seq ?_|(refine is_lss rfl rfl (fun _=>?_) (fun _=>?_)<;>try (exfalso;omega))|refine ru_iteT rfl ?_|refine ru_iteF rfl ?_|refine is_addS rfl rfl (by omega) ?_|refine is_mulS rfl rfl (by omega) ?_|refine is_mnx rfl rfl ?_|refine ru_skip ?_|refine ru_ret ?_|refine ru_exit ?_|refine ru_block ?_|refine rk_nil ?_|refine rk_seq_ex ?_|refine rk_blk ?_|refine rk_blk_eq rfl ?_|refine rk_inv ?_|refine rk_inv_ex ?_)
 ·refine ⟨i+1,⟨?_,rfl⟩,by omega,by omega⟩
  rw [leastB_succ]
  simp only [mostB,Bool.false_eq_true,if_false]
  rw [show ((min (mostB i*4) 65536:Nat):Int)=min ((mostB i:Int)*4) 65536 by omega]
  rfl
 ·have:i=n:=by omega
  subst this
  refine end_st hA (by first|exact .inl rfl|exact .inr rfl) rfl rfl rfl rfl ?_
  simp only [Bool.false_eq_true,if_false]
  rw [Int.min_eq_left (by omega)]
structure KidOk (h:Nat) (k:Kid):Prop where
 at_:handleP k.at_
 lo:(leastB h:Int)≤k.m.b
 hi:k.m.b≤mostB h
 r0:0≤k.m.r
 rb:k.m.r≤k.m.b
 l0:0≤k.m.l
 lr:k.m.l≤k.m.r
theorem formed_leaf (x:Nd) (h0:x.h=0) (h1:1≤x.text.length∧x.text.length≤16) (h2:x.ks=[]) (st:St):S Tb F_node_formed [x.av] st=some (.bool true,st):=by
 obtain ⟨h,text,kids⟩:=x
 simp only at h0 h1
 subst h0
 refine s_of rfl (fun A hA=>?_)
 cases kids with
 | none =>
  simp only [Nd.av,slV]
  repeat' (first|refine ru_seq ?_|refine ru_reg ?_|refine is_mv rfl ?_|refine is_fadr rfl rfl ?_|refine is_ldc rfl rfl rfl rfl ?_|refine is_gT rfl ?_|refine is_pick rfl rfl rfl rfl ?_|refine is_nil rfl ?_|refine rk_seq ?_|refine is_lenS rfl ?_|refine is_lenN rfl ?_|(refine is_leq rfl rfl (fun _=>?_) (fun _=>?_)<;>try (exfalso;omega))|(refine is_geq rfl rfl (fun _=>?_) (fun _=>?_)<;>try (exfalso;omega))|(refine is_eql rfl rfl (fun _=>?_) (fun _=>?_)<;>try (exfalso;omega))|refine ru_iteT rfl ?_|refine is_box rfl rfl rfl ?_|refine ru_ret ?_|refine rk_nil ?_|refine rk_seq_ret ?_)
  refine end_st hA (by first|exact .inl rfl|exact .inr rfl) rfl rfl rfl rfl ?_
  rfl
 | some l =>
  have:l=[]:=h2
  subst this
  simp only [Nd.av,slV]
  repeat' (first|refine ru_seq ?_|refine ru_reg ?_|refine is_mv rfl ?_|refine is_fadr rfl rfl ?_|refine is_ldc rfl rfl rfl rfl ?_|refine is_gT rfl ?_|refine is_pick rfl rfl rfl rfl ?_|refine is_nil rfl ?_|refine rk_seq ?_|refine is_lenS rfl ?_|refine is_lenF rfl rfl ?_|(refine is_leq rfl rfl (fun _=>?_) (fun _=>?_)<;>try (exfalso;omega))|(refine is_geq rfl rfl (fun _=>?_) (fun _=>?_)<;>try (exfalso;omega))|(refine is_eql rfl rfl (fun _=>?_) (fun _=>?_)<;>try (exfalso;omega))|refine ru_iteT rfl ?_|refine is_box rfl rfl rfl ?_|refine ru_ret ?_|refine rk_nil ?_|refine rk_seq_ret ?_)
  refine end_st hA (by first|exact .inl rfl|exact .inr rfl) rfl rfl rfl rfl ?_
  rfl
set_option maxHeartbeats 4000000 in
theorem formed_in (n:Nat) (hn:n≤15) (ks:List Kid) (hk:2≤ks.length∧ks.length≤4) (hs:∀ k∈ks,KidOk n k) (st:St):S Tb F_node_formed [Nd.av ⟨n+1,[],some ks⟩] st=some (.bool true,st):=by
 refine s_of rfl (fun A hA=>?_)
 simp only [Nd.av,slV]
 repeat' (first|refine ru_seq ?_|refine ru_reg ?_|refine is_mv rfl ?_|refine is_fadr rfl rfl ?_|refine is_ldc rfl rfl rfl rfl ?_|refine is_gT rfl ?_|refine is_pick rfl rfl rfl rfl ?_|refine is_ext rfl rfl ?_|refine is_nil rfl ?_|refine rk_seq ?_|refine is_lenM rfl ?_|(refine is_lss rfl rfl (fun _=>?_) (fun _=>?_)<;>try (exfalso;omega))|(refine is_gtr rfl rfl (fun _=>?_) (fun _=>?_)<;>try (exfalso;omega))|(refine is_eql rfl rfl (fun _=>?_) (fun _=>?_)<;>try (exfalso;omega))|(refine is_neqS rfl rfl (fun _=>?_) (fun _=>?_)<;>try contradiction)|refine ru_iteF rfl ?_|refine is_subS rfl rfl (by omega) ?_|refine is_box rfl rfl rfl ?_|refine is_callE rfl rfl rfl (bounds_c n _ (by omega) (by omega) _) ?_|refine ru_skip ?_|refine ru_block ?_)
 refine ru_loopP (α:=Nat × List Blk) (fun p=>[(3,.int .i64 (leastB n)),(4,.int .i64 (mostB n)),(59,.lit (ks.map Kid.av)),(60,.int .i64 ks.length),(61,.int .i64 p.1)]) (fun p=>⟨A,false,.arr 3 0 [.agg [.int .i64 ↑(n+1),.str [],.lit (ks.map Kid.av)]]::p.2⟩) (fun p=>p.1≤ks.length) (fun p=>ks.length-p.1) (0,[]) rfl rfl (by simp) ?_
 rintro ⟨i,G⟩ hi
 simp only at hi ⊢
 repeat' (first|refine ru_seq ?_|refine ru_reg ?_|refine is_mv rfl ?_|refine is_fadr rfl rfl ?_|refine is_nil rfl ?_|refine rk_seq ?_|refine is_ldT rfl rfl rfl ?_|refine is_ldl rfl rfl ?_|refine is_ixM rfl rfl (by omega) (fun _=>rfl) (fun _ _=>?_)|(refine is_lss rfl rfl (fun _=>?_) (fun _=>?_)<;>try (exfalso;omega))|refine ru_iteT rfl ?_|refine ru_iteF rfl ?_|refine is_boxG rfl rfl rfl ?_|refine is_stT rfl rfl rfl rfl rfl rfl ?_|refine ru_skip ?_|refine ru_ret ?_|refine ru_exit ?_|refine ru_block ?_|refine rk_nil ?_|refine rk_seq_ex ?_|refine rk_blk_eq rfl ?_|refine rk_inv_ex ?_)
 ·rename_i k hk'
  obtain ⟨a1,b1,c1,d1,e1,f1,g1⟩:=hs k (List.mem_of_getElem? hk')
  repeat' (first|refine ru_reg ?_|refine is_mv rfl ?_|refine is_fadr rfl rfl ?_|refine is_gT rfl ?_|refine is_pick rfl rfl rfl rfl ?_|refine is_nil rfl ?_|refine rk_seq ?_|refine is_ldT rfl rfl rfl ?_|(refine is_lss rfl rfl (fun _=>?_) (fun _=>?_)<;>try (exfalso;omega))|(refine is_gtr rfl rfl (fun _=>?_) (fun _=>?_)<;>try (exfalso;omega))|(refine is_neq rfl rfl (fun _=>?_) (fun _=>?_)<;>try (exfalso;omega))|refine ru_iteF rfl ?_|refine is_addS rfl rfl (by omega) ?_|refine is_callE rfl rfl rfl (hCheck_ok k.at_ a1 _) ?_|refine ru_skip ?_|refine rk_blk ?_|refine rk_inv ?_)
  exact ⟨(i+1,_),⟨rfl,rfl⟩,by simp only;omega,by simp only;omega⟩
 ·refine end_st hA (by first|exact .inl rfl|exact .inr rfl) rfl rfl rfl rfl ?_
  rfl
def sumM:List Mea→Mea
 | []=>.zero
 | m::l=>m.add (sumM l)
theorem Mea.add_zero (m:Mea):m.add .zero=m:=by cases m;simp [Mea.add,Mea.zero]
theorem Mea.zero_add (m:Mea):Mea.add .zero m=m:=by cases m;simp [Mea.add,Mea.zero]
theorem Mea.add_assoc (a b c:Mea):(a.add b).add c=a.add (b.add c):=by cases a;cases b;cases c;simp [Mea.add,Int.add_assoc]
theorem sumM_append (a b:List Mea):sumM (a++b)=(sumM a).add (sumM b):=by
 induction a with
 | nil=>simp [sumM,Mea.zero_add]
 | cons m l ih=>simp [sumM,ih,Mea.add_assoc]
structure Mea.Fit (m:Mea) (n:Int):Prop where
 b0:0≤m.b
 b1:m.b≤n
 r0:0≤m.r
 r1:m.r≤n
 l0:0≤m.l
 l1:m.l≤n
theorem sumM_fit:∀ {l:List Mea},(∀ m∈l,m.Fit 65536)→(sumM l).Fit (l.length*65536)
 | [],_=>⟨by decide,by decide,by decide,by decide,by decide,by decide⟩
 | m::l,h=>by
  obtain ⟨a1,a2,a3,a4,a5,a6⟩:=h m (by simp)
  obtain ⟨b1,b2,b3,b4,b5,b6⟩:=sumM_fit (l:=l) (fun x hx=>h x (by simp [hx]))
  have:((m::l).length:Int)*65536=l.length*65536+65536:=by simp;omega
  constructor<;>simp only [sumM,Mea.add]<;>omega
theorem take_succ_get {α:Type} {l:List α} {i:Nat} {a:α} (h:l[i]?=some a):l.take (i+1)=l.take i++[a]:=by
 rw [List.take_add_one,h];rfl
set_option maxHeartbeats 4000000 in
theorem Add_c (ms:List Mea) (hl:ms.length≤4) (hf:∀ m∈ms,m.Fit 65536) (st:St) (lv ix ver n:Nat) (hn:n=ms.length) (hg:st.get lv ix=some (.arr 3 ver (ms.map Mea.av))):S Tb F_measure_Add [.ref lv ix ver 0 n] st=some ((sumM ms).av,st):=by
 subst hn
 refine s_of rfl (fun A hA=>?_)
 have hgA:∀ L,St.get ⟨A,false,L⟩ lv ix=some (.arr 3 ver (ms.map Mea.av)):=fun L=>get_old hA hg
 repeat' (first|refine ru_seq ?_|refine ru_reg ?_|refine is_mv rfl ?_|refine is_nil rfl ?_|refine rk_seq ?_|refine is_lenR rfl ?_|refine is_box rfl rfl rfl ?_|refine ru_block ?_)
 refine ru_loopP (α:=Nat × List Blk) (fun p=>[(2,.ptr A.length 0 0 0 0),(3,.ptr A.length 1 0 0 0),(8,.ref lv ix ver 0 ms.length),(9,.int .i64 ms.length),(10,.int .i64 p.1)]) (fun p=>⟨A,false,.arr 3 0 [.agg [.int .i64 0,.int .i64 0,.int .i64 0]]::.arr 3 0 [(sumM (ms.take p.1)).av]::p.2⟩) (fun p=>p.1≤ms.length) (fun p=>ms.length-p.1) (0,[]) rfl rfl (by simp) ?_
 rintro ⟨i,G⟩ hi
 simp only at hi ⊢
 repeat' (first|refine ru_seq ?_|refine ru_reg ?_|refine is_ldc rfl rfl rfl rfl ?_|refine is_nil rfl ?_|refine rk_seq ?_|(refine is_lss rfl rfl (fun _=>?_) (fun _=>?_)<;>try (exfalso;omega))|refine ru_iteT rfl ?_|refine ru_iteF rfl ?_|refine is_stn rfl rfl rfl rfl rfl rfl ?_|refine is_callE rfl rfl rfl (measured_c _ _) ?_|refine ru_skip ?_|refine ru_ret ?_|refine ru_exit ?_|refine ru_block ?_|refine rk_nil ?_|refine rk_seq_ex ?_|refine rk_blk_eq rfl ?_|refine rk_inv_ex ?_)
 ·rename_i hlt
  obtain ⟨m,hm⟩:∃ m,ms[i]?=some m:=⟨ms[i]'(by omega),by simp [show i<ms.length by omega]⟩
  obtain ⟨a1,a2,a3,a4,a5,a6⟩:=sumM_fit (l:=ms.take i) (fun x hx=>hf x (List.mem_of_mem_take hx))
  have hli:=List.length_take_le i ms
  obtain ⟨b1,b2,b3,b4,b5,b6⟩:=hf m (List.mem_of_getElem? hm)
  refine is_ixR rfl rfl (by omega) (by rw [hgA];simp [wIs]) ?_
  refine is_ld (x:=m.av) rfl (hgA _) (by simp [hm]) rfl ?_
  have ht:sumM (ms.take (i+1))=⟨(sumM (ms.take i)).b+m.b,(sumM (ms.take i)).r+m.r,(sumM (ms.take i)).l+m.l⟩:=by
   rw [take_succ_get hm,sumM_append];simp [sumM,Mea.add,Mea.zero]
  generalize hS:sumM (ms.take i)=s at *
  rw [show s.av=.agg [.int .i64 s.b,.int .i64 s.r,.int .i64 s.l] from rfl]
  repeat' (first|refine ru_seq ?_|refine ru_reg ?_|refine is_mv rfl ?_|refine is_fadr rfl rfl ?_|refine is_ldc rfl rfl rfl rfl ?_|refine is_nil rfl ?_|refine rk_seq ?_|refine is_ldT rfl rfl rfl ?_|(refine is_lss rfl rfl (fun _=>?_) (fun _=>?_)<;>try (exfalso;omega))|refine ru_iteT rfl ?_|refine ru_iteF rfl ?_|refine is_addS rfl rfl (by omega) ?_|refine is_buildO rfl rfl rfl ?_|refine is_boxG rfl rfl rfl ?_|refine is_stT rfl rfl rfl rfl rfl rfl ?_|refine is_ixArr rfl rfl rfl ?_|refine is_ixA rfl rfl rfl ?_|refine is_stn rfl rfl rfl rfl rfl rfl ?_|refine ru_unroll ?_|refine ru_skip ?_|refine ru_exit ?_|refine ru_block ?_|refine rk_seq_ex ?_|refine rk_blk ?_|refine rk_blk_eq rfl ?_|refine rk_inv ?_)
  refine ⟨(i+1,G++[.arr 3 0 [m.av]]),⟨rfl,?_⟩,by simp only;omega,by simp only;omega⟩
  simp only [ht]
  rfl
 ·refine end_c hA (by first|exact .inl rfl|exact .inr rfl) rfl rfl rfl rfl rfl ?_
  have:ms.take i=ms:=List.take_of_length_le (by omega)
  rw [this];rfl
theorem sum_leaf (x:Nd) (h0:x.h=0) (h1:x.text.length≤16) (st:St):S Tb F_node_sum [x.av] st=some ((meaT x.text).av,st):=by
 obtain ⟨h,text,kids⟩:=x
 simp only at h0 h1
 subst h0
 refine s_of rfl (fun A hA=>?_)
 have hO:=fun st=>Of_c text (by omega) st
 unfold Mea.av at hO
 simp only [Nd.av]
 cases kids
 all_goals simp only [slV]
 all_goals repeat' (first|refine ru_seq ?_|refine ru_reg ?_|refine is_fadr rfl rfl ?_|refine is_ldc rfl rfl rfl rfl ?_|refine is_nil rfl ?_|refine rk_seq ?_|(refine is_eql rfl rfl (fun _=>?_) (fun _=>?_)<;>try (exfalso;omega))|refine ru_iteT rfl ?_|refine is_box rfl rfl rfl ?_|refine is_stb rfl rfl rfl rfl rfl rfl ?_|refine is_callE rfl rfl rfl (hO _) ?_|refine ru_ret ?_|refine rk_nil ?_|refine rk_seq_ret ?_)
 all_goals refine end_c hA (by first|exact .inl rfl|exact .inr rfl) rfl rfl rfl rfl rfl ?_
 all_goals rfl
theorem KidOk.fit {n:Nat} {k:Kid} (h:KidOk n k):k.m.Fit 65536:=by
 obtain ⟨a1,b1,c1,d1,e1,f1,g1⟩:=h
 have:=mostB_le n
 constructor<;>omega
set_option maxHeartbeats 4000000 in
theorem sum_in (n:Nat) (ks:List Kid) (hk:ks.length≤4) (hs:∀ k∈ks,k.m.Fit 65536) (text:List UInt8) (st:St):S Tb F_node_sum [Nd.av ⟨n+1,text,some ks⟩] st=some ((sumM (ks.map Kid.m)).av,st):=by
 refine s_of rfl (fun A hA=>?_)
 simp only [Nd.av,slV]
 repeat' (first|refine ru_seq ?_|refine ru_reg ?_|refine is_mv rfl ?_|refine is_fadr rfl rfl ?_|refine is_ldc rfl rfl rfl rfl ?_|refine is_nil rfl ?_|refine rk_seq ?_|refine is_lenM rfl ?_|(refine is_eql rfl rfl (fun _=>?_) (fun _=>?_)<;>try (exfalso;omega))|refine ru_iteF rfl ?_|refine is_box rfl rfl rfl ?_|refine is_onil rfl ?_|refine ru_skip ?_|refine ru_block ?_)
 refine ru_loopP (α:=Nat × List Blk) (fun p=>[(2,.ptr A.length 1 0 0 0),(3,.ref A.length 2 p.1 0 p.1),(13,.lit (ks.map Kid.av)),(14,.int .i64 ks.length),(15,.int .i64 p.1)]) (fun p=>⟨A,false,.arr 3 0 [.agg [.int .i64 ↑(n+1),.str text,.lit (ks.map Kid.av)]]::.arr 3 0 [.agg [.int .i64 0,.int .i64 0,.int .i64 0]]::.arr 3 p.1 ((ks.take p.1).map fun k=>k.m.av)::p.2⟩) (fun p=>p.1≤ks.length) (fun p=>ks.length-p.1) (0,[]) rfl rfl (by simp) ?_
 rintro ⟨i,G⟩ hi
 simp only at hi ⊢
 repeat' (first|refine ru_seq ?_|refine ru_reg ?_|refine is_mv rfl ?_|refine is_fadr rfl rfl ?_|refine is_nil rfl ?_|refine rk_seq ?_|refine is_ldT rfl rfl rfl ?_|refine is_ldl rfl rfl ?_|refine is_ixM rfl rfl (by omega) (fun _=>rfl) (fun _ _=>?_)|(refine is_lss rfl rfl (fun _=>?_) (fun _=>?_)<;>try (exfalso;omega))|refine ru_iteT rfl ?_|refine ru_iteF rfl ?_|refine is_addS rfl rfl (by omega) ?_|refine is_boxG rfl rfl rfl ?_|refine is_stT rfl rfl rfl rfl rfl rfl ?_|refine is_bslFO rfl rfl rfl rfl ?_|refine is_app1N rfl rfl rfl (by first|rfl|(simp;done)|(simp;omega)) (by first|omega|(simp<;>omega)) (by decide) rfl rfl ?_|refine ru_skip ?_|refine ru_exit ?_|refine ru_block ?_|refine rk_seq_ex ?_|refine rk_blk ?_|refine rk_blk_eq rfl ?_|refine rk_inv ?_|refine rk_inv_ex ?_)
 ·rename_i k hk'
  have hk2:ks[i]?=some k:=hk'
  refine ⟨(i+1,G++[.arr 4 0 [k.av]]),⟨rfl,?_⟩,by simp only;omega,by simp only;omega⟩
  rw [take_succ_get hk2,List.map_append]
  rfl
 ·have hi':ks.take i=ks:=List.take_of_length_le (by omega)
  refine is_callE rfl rfl rfl (Add_c (ks.map Kid.m) (by simpa using hk) (by intro m hm;obtain ⟨k,hk1,rfl⟩:=List.mem_map.1 hm;exact hs k hk1) _ A.length 2 i i (by simp;omega) (by rw [St.get_cur,hi',List.map_map];rfl)) ?_
  rw [show (sumM (ks.map Kid.m)).av=.agg [.int .i64 (sumM (ks.map Kid.m)).b,.int .i64 (sumM (ks.map Kid.m)).r,.int .i64 (sumM (ks.map Kid.m)).l] from rfl]
  repeat' (first|refine is_nil rfl ?_|refine rk_seq ?_|refine is_stn rfl rfl rfl rfl rfl rfl ?_|refine ru_ret ?_|refine rk_nil ?_)
  refine end_c hA (by first|exact .inl rfl|exact .inr rfl) rfl rfl rfl rfl rfl ?_
  rfl
end Go.QZ
namespace Go.QZ
open Go Go.QAbs
set_option maxRecDepth 100000
structure LeafOk (x:Nd):Prop where
 h:x.h=0
 lo:1≤x.text.length
 hi:x.text.length≤16
 ks:x.ks=[]
structure InnerOk (x:Nd) (n:Nat) (ks:List Kid):Prop where
 eq:x=⟨n+1,[],some ks⟩
 n15:n≤15
 lo:2≤ks.length
 hi:ks.length≤4
 kid:∀ k∈ks,KidOk n k
 sum:(sumM (ks.map Kid.m)).b≤65536
def NdOk (x:Nd):Prop:=LeafOk x∨∃ n ks,InnerOk x n ks
def Nd.mea (x:Nd):Mea:=if x.h=0 then meaT x.text else sumM (x.ks.map Kid.m)
theorem nCheck_c (x:Nd) (hx:NdOk x) (st:St):S Tb F_node_Check [x.av] st=some (.int .i64 0,st):=by
 rcases hx with h|⟨n,ks,rfl,h1,h2,h3,h4,h5⟩
 ·have hf:=fun st=>formed_leaf x h.h ⟨h.lo,h.hi⟩ h.ks st
  have hS:=fun st=>sum_leaf x h.h h.hi st
  have hhi:=h.hi
  unfold Mea.av at hS
  have hm:(meaT x.text).b=x.text.length:=rfl
  obtain ⟨h,text,kids⟩:=x
  simp only [Nd.av] at *
  refine s_of rfl (fun A hA=>?_)
  cases kids
  all_goals simp only [slV] at *
  all_goals repeat' (first|refine ru_seq ?_|refine ru_reg ?_|refine is_mv rfl ?_|refine is_ldc rfl rfl rfl rfl ?_|refine is_nil rfl ?_|refine rk_seq ?_|refine is_fld (agg:=false) rfl rfl ?_|(refine is_gtr rfl rfl (fun _=>?_) (fun _=>?_)<;>try (exfalso;omega))|refine ru_iteF rfl ?_|refine is_not rfl rfl ?_|refine is_box rfl rfl rfl ?_|refine is_callE rfl rfl rfl (hf _) ?_|refine is_callE rfl rfl rfl (hS _) ?_|refine ru_skip ?_|refine ru_ret ?_|refine rk_nil ?_)
  all_goals refine end_st hA (by first|exact .inl rfl|exact .inr rfl) rfl rfl rfl rfl ?_
  all_goals rfl
 ·have hf:=fun st=>formed_in n h1 ks ⟨h2,h3⟩ h4 st
  have hS:=fun st=>sum_in n ks h3 (fun k hk=>(h4 k hk).fit) [] st
  unfold Mea.av at hS
  simp only [Nd.av,slV] at *
  refine s_of rfl (fun A hA=>?_)
  repeat' (first|refine ru_seq ?_|refine ru_reg ?_|refine is_mv rfl ?_|refine is_ldc rfl rfl rfl rfl ?_|refine is_nil rfl ?_|refine rk_seq ?_|refine is_fld (agg:=false) rfl rfl ?_|(refine is_gtr rfl rfl (fun _=>?_) (fun _=>?_)<;>try (exfalso;omega))|refine ru_iteF rfl ?_|refine is_not rfl rfl ?_|refine is_box rfl rfl rfl ?_|refine is_callE rfl rfl rfl (hf _) ?_|refine is_callE rfl rfl rfl (hS _) ?_|refine ru_skip ?_|refine ru_ret ?_|refine rk_nil ?_)
  refine end_st hA (by first|exact .inl rfl|exact .inr rfl) rfl rfl rfl rfl ?_
  rfl
theorem nMeasure_c (x:Nd) (hx:NdOk x) (st:St):S Tb F_node_Measure [x.av] st=some (.tup [x.mea.av,.int .i64 0],st):=by
 have hC:=fun st=>nCheck_c x hx st
 rcases hx with h|⟨n,ks,rfl,h1,h2,h3,h4,h5⟩
 ·have hS:=fun st=>sum_leaf x h.h h.hi st
  have he:x.mea=meaT x.text:=by unfold Nd.mea;rw [if_pos h.h]
  rw [he]
  unfold Mea.av at *
  obtain ⟨h,text,kids⟩:=x
  simp only [Nd.av] at *
  refine s_of rfl (fun A hA=>?_)
  cases kids
  all_goals simp only [slV] at *
  all_goals repeat' (first|refine ru_seq ?_|refine ru_reg ?_|refine is_mv rfl ?_|refine is_ldc rfl rfl rfl rfl ?_|refine is_nil rfl ?_|refine rk_seq ?_|(refine is_neq rfl rfl (fun _=>?_) (fun _=>?_)<;>try (exfalso;omega))|refine ru_iteF rfl ?_|refine is_box rfl rfl rfl ?_|refine is_stb rfl rfl rfl rfl rfl rfl ?_|refine is_callE rfl rfl rfl (hC _) ?_|refine is_callE rfl rfl rfl (hS _) ?_|refine ru_skip ?_|refine ru_ret ?_|refine rk_nil ?_)
  all_goals refine end_c hA (by first|exact .inl rfl|exact .inr rfl) rfl rfl rfl rfl rfl ?_
  all_goals rfl
 ·have hS:=fun st=>sum_in n ks h3 (fun k hk=>(h4 k hk).fit) [] st
  have he:Nd.mea ⟨n+1,[],some ks⟩=sumM (ks.map Kid.m):=rfl
  rw [he]
  unfold Mea.av at *
  simp only [Nd.av,slV] at *
  refine s_of rfl (fun A hA=>?_)
  repeat' (first|refine ru_seq ?_|refine ru_reg ?_|refine is_mv rfl ?_|refine is_ldc rfl rfl rfl rfl ?_|refine is_nil rfl ?_|refine rk_seq ?_|(refine is_neq rfl rfl (fun _=>?_) (fun _=>?_)<;>try (exfalso;omega))|refine ru_iteF rfl ?_|refine is_box rfl rfl rfl ?_|refine is_stb rfl rfl rfl rfl rfl rfl ?_|refine is_callE rfl rfl rfl (hC _) ?_|refine is_callE rfl rfl rfl (hS _) ?_|refine ru_skip ?_|refine ru_ret ?_|refine rk_nil ?_)
  refine end_c hA (by first|exact .inl rfl|exact .inr rfl) rfl rfl rfl rfl rfl ?_
  rfl
end Go.QZ
namespace Go.QAbs
def k_mv (x:Opd) (e:Env) (st:St):Option (AV × St):=some (x.get e,st)
def k_pick (c:Opd) (a:Opd) (b:Opd) (e:Env) (st:St):Option (AV × St):=(pickV (a.get e) (b.get e) (c.get e)).bind (ret1 st)
def k_onil (w:Nat) (e:Env) (st:St):Option (AV × St):=(st.new (.arr w 0 [])).bind (newRefK st.A.length 0)
def k_box (x:Opd) (e:Env) (st:St):Option (AV × St):=(x.get e).wide.bind fun w=>(st.new (.arr w 0 [x.get e])).bind (newPtrK st.A.length)
def k_boxnil (w:Nat) (e:Env) (st:St):Option (AV × St):=(st.new (.arr w 0 [])).bind (boxNilK st.A.length)
def k_build (z:List AV) (parts:List (Nat × Nat × Opd)) (e:Env) (st:St):Option (AV × St):=(fillV z (partsV e parts)).bind fun cs=>some (.agg cs,st)
def k_bslice (own:Bool) (w:Nat) (z:List AV) (parts:List (Nat × Opd)) (e:Env) (st:St):Option (AV × St):=(fillE w z (partsE e parts)).bind (bslK own w st)
def k_ld (agg:Bool) (n:Nat) (a:Opd) (e:Env) (st:St):Option (AV × St):=(loadP st agg n (a.get e)).bind (ret1 st)
def k_st (n:Nat) (a:Opd) (x:Opd) (e:Env) (st:St):Option (AV × St):=(storeP st n (x.get e) (a.get e)).bind retU
def k_nilck (x:Opd) (e:Env) (st:St):Option (AV × St):=(nilckV (x.get e)).bind (ret1 st)
def k_bin (op:BinOp) (x:Opd) (y:Opd) (e:Env) (st:St):Option (AV × St):=(binV op (x.get e) (y.get e)).bind (ret1 st)
def k_eqs (neg:Bool) (kind:Nat) (ks:List (Nat × Nat)) (x:Opd) (y:Opd) (e:Env) (st:St):Option (AV × St):=(eqV ks kind (x.get e) (y.get e)).bind fun b=>some (.bool (if neg=true then !b else b),st)
def k_un (op:UnOp) (x:Opd) (e:Env) (st:St):Option (AV × St):=(unV op (x.get e)).bind (ret1 st)
def k_cint (k:IntKind) (x:Opd) (e:Env) (st:St):Option (AV × St):=(cintV k (x.get e)).bind (ret1 st)
def k_cstr (x:Opd) (e:Env) (st:St):Option (AV × St):=(cstrV (x.get e)).bind (ret1 st)
def k_b2s (x:Opd) (e:Env) (st:St):Option (AV × St):=(b2sV st (x.get e)).bind (ret1 st)
def k_mkf (fn:Fn) (f:List Opd) (c:List Opd) (e:Env) (st:St):Option (AV × St):=some (.func fn (gets e f) (gets e c),st)
def k_mkmap  (e:Env) (st:St):Option (AV × St):=(st.new (.map [])).bind (newMapK st.A.length)
def k_mkslice (w:Nat) (bytes:Nat) (z:AV) (l:Opd) (c:Opd) (e:Env) (st:St):Option (AV × St):=mkslV st w bytes z (l.get e) (c.get e)
def k_slcS (x:Opd) (lo:Option Opd) (hi:Option Opd) (e:Env) (st:St):Option (AV × St):=(slcSV (oget e lo) (oget e hi) (x.get e)).bind (ret1 st)
def k_slc (w:Nat) (x:Opd) (lo:Option Opd) (hi:Option Opd) (e:Env) (st:St):Option (AV × St):=(slcV st w (oget e lo) (oget e hi) (x.get e)).bind (ret1 st)
def k_fadr (off:Nat) (x:Opd) (e:Env) (st:St):Option (AV × St):=(fadrV off (x.get e)).bind (ret1 st)
def k_fld (agg:Bool) (off:Nat) (n:Nat) (x:Opd) (e:Env) (st:St):Option (AV × St):=(fldV agg off n (x.get e)).bind (ret1 st)
def k_ixS (w:Nat) (x:Opd) (i:Opd) (e:Env) (st:St):Option (AV × St):=(ixSV st w (i.get e) (x.get e)).bind (ret1 st)
def k_ixA (len:Nat) (w:Nat) (x:Opd) (i:Opd) (e:Env) (st:St):Option (AV × St):=(ixAV len w (i.get e) (x.get e)).bind (ret1 st)
def k_ixStr (x:Opd) (i:Opd) (e:Env) (st:St):Option (AV × St):=(ixStrV (i.get e) (x.get e)).bind (ret1 st)
def k_ixArr (agg:Bool) (len:Nat) (w:Nat) (x:Opd) (i:Opd) (e:Env) (st:St):Option (AV × St):=(ixArrV agg len w (i.get e) (x.get e)).bind (ret1 st)
def k_look (kk:Nat) (z:AV) (ok:Bool) (x:Opd) (i:Opd) (e:Env) (st:St):Option (AV × St):=(lookV st kk z ok (i.get e) (x.get e)).bind (ret1 st)
def k_mupd (kk:Nat) (x:Opd) (k:Opd) (v:Opd) (e:Env) (st:St):Option (AV × St):=(mupdV st kk (k.get e) (v.get e) (x.get e)).bind retU
def k_mdel (kk:Nat) (x:Opd) (k:Opd) (e:Env) (st:St):Option (AV × St):=(mdelV st kk (k.get e) (x.get e)).bind retT
noncomputable def lenK (l:List UInt8):Nat→Nat:=List.rec (motive:=fun _=>Nat→Nat) (fun a=>a) (fun _ _ ih a=>Nat.rec (motive:=fun _=>Nat) 0 (fun k _=>ih (k+1)) (a+1)) l
theorem lenK_eq:∀ (l:List UInt8) (a:Nat),lenK l a=l.length+a
 | [],a=>by show a=_;simp
 | _::l,a=>by
  show lenK l (a+1)=_
  rw [lenK_eq l (a+1),List.length_cons];omega
noncomputable def k_lenS (st:St):AV→Option (AV × St)
 | .str l=>some (.int .i64 ((lenK l 0:Nat):Int),st)
 | _=>none
noncomputable def k_len (k:Nat) (x:Opd) (e:Env) (st:St):Option (AV × St) :=
 Nat.rec (motive:=fun _=>Option (AV × St)) (k_lenS st (x.get e)) (fun k _=>(lenOf st (k+1) (x.get e)).bind fun n=>some (.int .i64 n,st)) k
theorem k_len_eq (k:Nat) (x:Opd) (e:Env) (st:St):k_len k x e st=(lenOf st k (x.get e)).bind fun n=>some (.int .i64 n,st):=by
 cases k with
 | succ k=>rfl
 | zero =>
  show k_lenS st (x.get e)=_
  cases x.get e<;>first|rfl|(rename_i l;show some (AV.int .i64 ((lenK l 0:Nat):Int),st)=_;rw [lenK_eq];rfl)
def k_app (w:Nat) (bytes:Nat) (s:Opd) (x:Opd) (e:Env) (st:St):Option (AV × St):=(elems st (x.get e)).bind fun ys=>appendV st w bytes ys (s.get e)
def k_cpy (w:Nat) (d:Opd) (x:Opd) (e:Env) (st:St):Option (AV × St):=(elems st (x.get e)).bind fun ys=>cpyV st w ys (d.get e)
def k_mnx (mx:Bool) (x:Opd) (y:Opd) (e:Env) (st:St):Option (AV × St):=(mnxV mx (x.get e) (y.get e)).bind (ret1 st)
def k_ext (x:Opd) (i:Nat) (e:Env) (st:St):Option (AV × St):=(extV i (x.get e)).bind (ret1 st)
abbrev CV:=Orc→Env→St→Option (AV × St)
abbrev CMF:=Orc→FuncId→List AV→St→Option (AV × St)
def m_norm:CMF:=fun O f args st=>O f args st
def m_own:CMF:=fun O f args st=>(O f args ⟨st.A,true,st.L⟩).bind (ownK st)
def m_pure:CMF:=fun O f args st=>(O f args st.allRo).bind (pureK st)
def m_inner:CMF:=fun O f args st=>(O f args st.push).bind scopeK
def m_pin:CMF:=fun O f args st=>((O f args st.allRo.push).bind scopeK).bind (pureK st)
def m_move:CMF:=fun O f args st=>(O f args st.push).bind adoptK
noncomputable def kCallM (m:CM):CMF:=CM.rec (motive:=fun _=>CMF) m_norm m_own m_pure m_inner m_pin m_move m
theorem kCallM_eq (O:Orc) (m:CM) (f:FuncId) (args:List AV) (st:St):kCallM m O f args st=callM O m f args st:=by cases m<;>rfl
noncomputable def kCallV (O:Orc) (m:CM) (args:List AV) (st:St):AV→Option (AV × St)
 | .func (.func g) first cap=>kCallM m O g (weaks (first++args++cap)) st
 | .func (.yield lv) [] cs=>kCallM m O (yB+lv) (weaks (args++cs)) st
 | _=>none
theorem kCallV_eq (O:Orc) (m:CM) (args:List AV) (st:St) (v:AV):kCallV O m args st v=callV O m args st v:=by
 unfold kCallV callV
 split
 ·exact kCallM_eq ..
 ·exact kCallM_eq ..
 ·rename_i h1 h2
  split
  ·rename_i g first cap;exact absurd rfl (h1 g first cap)
  ·rename_i lv cs;exact absurd rfl (h2 lv cs)
  ·rfl
def i_mv (x:Opd):CV:=fun _ e st=>k_mv x e st
def i_pick (c:Opd) (a:Opd) (b:Opd):CV:=fun _ e st=>k_pick c a b e st
def i_onil (w:Nat):CV:=fun _ e st=>k_onil w e st
def i_box (x:Opd):CV:=fun _ e st=>k_box x e st
def i_boxnil (w:Nat):CV:=fun _ e st=>k_boxnil w e st
def i_build (z:List AV) (parts:List (Nat × Nat × Opd)):CV:=fun _ e st=>k_build z parts e st
def i_bslice (own:Bool) (w:Nat) (z:List AV) (parts:List (Nat × Opd)):CV:=fun _ e st=>k_bslice own w z parts e st
def i_ld (agg:Bool) (n:Nat) (a:Opd):CV:=fun _ e st=>k_ld agg n a e st
def i_st (n:Nat) (a:Opd) (x:Opd):CV:=fun _ e st=>k_st n a x e st
def i_nilck (x:Opd):CV:=fun _ e st=>k_nilck x e st
def i_bin (op:BinOp) (x:Opd) (y:Opd):CV:=fun _ e st=>k_bin op x y e st
def i_eqs (neg:Bool) (kind:Nat) (ks:List (Nat × Nat)) (x:Opd) (y:Opd):CV:=fun _ e st=>k_eqs neg kind ks x y e st
def i_un (op:UnOp) (x:Opd):CV:=fun _ e st=>k_un op x e st
def i_cint (k:IntKind) (x:Opd):CV:=fun _ e st=>k_cint k x e st
def i_cstr (x:Opd):CV:=fun _ e st=>k_cstr x e st
def i_b2s (x:Opd):CV:=fun _ e st=>k_b2s x e st
def i_mkf (fn:Fn) (f:List Opd) (c:List Opd):CV:=fun _ e st=>k_mkf fn f c e st
def i_mkmap  : CV:=fun _ e st=>k_mkmap  e st
def i_mkslice (w:Nat) (bytes:Nat) (z:AV) (l:Opd) (c:Opd):CV:=fun _ e st=>k_mkslice w bytes z l c e st
def i_slcS (x:Opd) (lo:Option Opd) (hi:Option Opd):CV:=fun _ e st=>k_slcS x lo hi e st
def i_slc (w:Nat) (x:Opd) (lo:Option Opd) (hi:Option Opd):CV:=fun _ e st=>k_slc w x lo hi e st
def i_fadr (off:Nat) (x:Opd):CV:=fun _ e st=>k_fadr off x e st
def i_fld (agg:Bool) (off:Nat) (n:Nat) (x:Opd):CV:=fun _ e st=>k_fld agg off n x e st
def i_ixS (w:Nat) (x:Opd) (i:Opd):CV:=fun _ e st=>k_ixS w x i e st
def i_ixA (len:Nat) (w:Nat) (x:Opd) (i:Opd):CV:=fun _ e st=>k_ixA len w x i e st
def i_ixStr (x:Opd) (i:Opd):CV:=fun _ e st=>k_ixStr x i e st
def i_ixArr (agg:Bool) (len:Nat) (w:Nat) (x:Opd) (i:Opd):CV:=fun _ e st=>k_ixArr agg len w x i e st
def i_look (kk:Nat) (z:AV) (ok:Bool) (x:Opd) (i:Opd):CV:=fun _ e st=>k_look kk z ok x i e st
def i_mupd (kk:Nat) (x:Opd) (k:Opd) (v:Opd):CV:=fun _ e st=>k_mupd kk x k v e st
def i_mdel (kk:Nat) (x:Opd) (k:Opd):CV:=fun _ e st=>k_mdel kk x k e st
noncomputable def i_len (k:Nat) (x:Opd):CV:=fun _ e st=>k_len k x e st
def i_app (w:Nat) (bytes:Nat) (s:Opd) (x:Opd):CV:=fun _ e st=>k_app w bytes s x e st
def i_cpy (w:Nat) (d:Opd) (x:Opd):CV:=fun _ e st=>k_cpy w d x e st
def i_mnx (mx:Bool) (x:Opd) (y:Opd):CV:=fun _ e st=>k_mnx mx x y e st
def i_ext (x:Opd) (i:Nat):CV:=fun _ e st=>k_ext x i e st
noncomputable def i_call (m:CM) (f:Opd) (args:List Opd):CV:=fun O e st=>kCallV O m (gets e args) st (f.get e)
def i_w (k:WK) (o:PO) (ih:CV):CV:=fun O e st=>evalW e st o k
noncomputable def kPI (o:PO):CV:=PO.rec (motive:=fun _=>CV) i_mv i_pick i_onil i_box i_boxnil i_build i_bslice i_ld i_st i_nilck i_bin i_eqs i_un i_cint i_cstr i_b2s i_mkf i_mkmap i_mkslice i_slcS i_slc i_fadr i_fld i_ixS i_ixA i_ixStr i_ixArr i_look i_mupd i_mdel i_len i_app i_cpy i_mnx i_ext i_call i_w o
theorem kPI_eq (O:Orc) (e:Env) (st:St) (o:PO):kPI o O e st=evalPI O e st o:=by
 cases o with
 | call m f args=>exact kCallV_eq ..
 | len k x=>exact k_len_eq k x e st
 | w k o=>rfl
 | _=>rfl
def kOwn (op:PO) (O:Orc) (e:Env) (st:St):Option (AV × St):=if op.reads=true then (evalPO e st.mask op).bind (pureK st) else none
noncomputable def kI (i:PI) (O:Orc) (e:Env) (st:St):Option (AV × St):=Bool.rec (motive:=fun _=>Orc→Env→St→Option (AV × St)) (kPI i.op) (kOwn i.op) i.own O e st
theorem kI_eq (O:Orc) (e:Env) (st:St) (i:PI):kI i O e st=evalI O e st i:=by
 obtain ⟨d,g,w,op⟩:=i
 cases w
 ·exact kPI_eq O e st op
 ·rfl
abbrev RunO:=Orc→RunI
def kNil:RunO:=fun _ e st=>some (e,st)
noncomputable def kW1 (i:PI) (K:RunO) (O:Orc) (e:Env) (st:St):Option (Env × St):=(kI i O e st).bind (runK (K O) e i.dst)
noncomputable def kW0 (i:PI) (K:RunO) (O:Orc) (e:Env) (st:St):Option (Env × St):=K O (setD e i.dst .undef) st
noncomputable def kCons (i:PI) (_:List PI) (K:RunO):RunO:=fun O e st=>(wantedV e i.guard).bind fun b=>Bool.rec (motive:=fun _=>PI→RunO→RunO) kW0 kW1 b i K O e st
noncomputable def kIs (is:List PI):RunO:=List.rec (motive:=fun _=>RunO) kNil kCons is
theorem kIs_eq (O:Orc):∀ is,kIs is O=runIs O is
 | []=>rfl
 | i::is=>by
  funext e st
  have ih:=kIs_eq O is
  show (wantedV e i.guard).bind (fun b=>Bool.rec (motive:=fun _=>PI→RunO→RunO) kW0 kW1 b i (kIs is) O e st)=(wantedV e i.guard).bind (runW O i (runIs O is) e st)
  congr 1
  funext b
  cases b
  ·show kIs is O (setD e i.dst .undef) st=_
   rw [ih];rfl
  ·show (kI i O e st).bind (runK (kIs is O) e i.dst)=_
   rw [ih,kI_eq];rfl
abbrev RunC:=Orc→(Run→Run)→Run
def c_skip:RunC:=fun _ _ e st=>some (.norm,e,st)
def c_ret:RunC:=fun _ _ e st=>some (.ret,e,st)
def c_exit (id:Nat):RunC:=fun _ _ e st=>some (.ex id,e,st)
def c_seq (_ _:PC) (F G:RunC):RunC:=fun O I e st=>(F O I e st).bind (seqK (G O I))
def c_ite (c:Opd) (_ _:PC) (F G:RunC):RunC:=fun O I e st=>iteV (F O I) (G O I) e st (c.get e)
def c_block (id:Nat) (_:PC) (F:RunC):RunC:=fun O I e st=>(F O I e st).bind (blockK id)
def c_loop (_:PC) (F:RunC):RunC:=fun O I e st=>I (F O I) e st
noncomputable def c_reg (keep:List Nat) (is:List PI):RunC:=fun O _ e st=>(kIs is O e st).bind (regK keep)
noncomputable def c_regH (js keep:List Nat) (is:List PI):RunC:=fun O _ e st=>(padH js st).bind fun st=>(kIs is O e st).bind (regK keep)
noncomputable def kExec (c:PC):RunC:=PC.rec (motive:=fun _=>RunC) c_skip c_ret c_exit c_seq c_ite c_block c_loop c_reg c_regH c
theorem kExec_eq (O:Orc) (I:Run→Run):∀ c,kExec c O I=exec O I c
 | .skip=>rfl
 | .ret=>rfl
 | .exit _=>rfl
 | .seq a b=>by
  funext e st
  show (kExec a O I e st).bind (seqK (kExec b O I))=_
  rw [kExec_eq O I a,kExec_eq O I b];rfl
 | .ite c a b=>by
  funext e st
  show iteV (kExec a O I) (kExec b O I) e st (c.get e)=_
  rw [kExec_eq O I a,kExec_eq O I b];rfl
 | .block id b=>by
  funext e st
  show (kExec b O I e st).bind (blockK id)=_
  rw [kExec_eq O I b];rfl
 | .loop b=>by
  funext e st
  show I (kExec b O I) e st=_
  rw [kExec_eq O I b];rfl
 | .reg keep is=>by
  funext e st
  show (kIs is O e st).bind (regK keep)=_
  rw [kIs_eq O is];rfl
 | .regH js keep is=>by
  funext e st
  show ((padH js st).bind fun st=>(kIs is O e st).bind (regK keep))=_
  rw [kIs_eq O is];rfl
noncomputable def kBody (pf:PF) (O:Orc) (I:Run→Run) (args:List AV) (st:St):Option (AV × St) :=
 (kExec pf.body O I (initEnv 0 args) (if pf.keep=true then st else st.push)).bind (endK pf.keep pf.res)
def kBase (o:List AV→St→Option (AV × St)) (O:Orc) (I:Run→Run) (args:List AV) (st:St):Option (AV × St):=o args st
noncomputable def kEnt (x:Ent):Orc→(Run→Run)→List AV→St→Option (AV × St):=Ent.rec (motive:=fun _=>Orc→(Run→Run)→List AV→St→Option (AV × St)) kBody kBase x
theorem kEnt_eq (O:Orc) (I:Run→Run) (args:List AV) (st:St) (x:Ent):kEnt x O I args st=entK O I args st x:=by
 cases x with
 | pf p=>show (kExec p.body O I _ _).bind _=_;rw [kExec_eq];rfl
 | base o=>rfl
noncomputable def fLook (l:List (FuncId × Ent)):FuncId→Option Ent:=List.rec (motive:=fun _=>FuncId→Option Ent) (fun _=>none) (fun p _ ih f=>Bool.rec (motive:=fun _=>Option Ent) (ih f) (some p.2) (Nat.beq p.1 f)) l
theorem fLook_eq:∀ l,fLook l=lookT l
 | []=>rfl
 | p::l=>by
  funext f
  show Bool.rec (motive:=fun _=>Option Ent) (fLook l f) (some p.2) (Nat.beq p.1 f)=if p.1=f then some p.2 else lookT l f
  rw [fLook_eq l]
  by_cases h:p.1=f
  ·rw [if_pos h,h];simp
  ·rw [if_neg h]
   have:Nat.beq p.1 f=false:=by
    cases q:Nat.beq p.1 f with
    | true=>exact absurd (Nat.eq_of_beq_eq_true q) h
    | false=>rfl
   rw [this]
end Go.QAbs
namespace Go.QAbs
end Go.QAbs
namespace Go.QAbs
abbrev Cut1:=FuncId→Option (List AV→St→Option (AV × St))
def ShOk (T:Tab) (sh:Cut1):Prop:=∀ f o args st r,sh f=some o→o args st=some r→S T f args st=some r
noncomputable def shLook (l:List (FuncId × (List AV→St→Option (AV × St)))):Cut1:=List.rec (motive:=fun _=>Cut1) (fun _=>none) (fun p _ ih f=>Bool.rec (motive:=fun _=>Option (List AV→St→Option (AV × St))) (ih f) (some p.2) (Nat.beq p.1 f)) l
def ShAll (T:Tab):List (FuncId × (List AV→St→Option (AV × St)))→Prop
 | []=>True
 | p::l=>(∀ args st r,p.2 args st=some r→S T p.1 args st=some r)∧ShAll T l
theorem shLook_ok {T:Tab}:∀ {l:List (FuncId × (List AV→St→Option (AV × St)))},ShAll T l→ShOk T (shLook l)
 | [],_=>fun f o args st r h=>by simp [shLook] at h
 | p::l,h=>fun f o args st r hf ho=>by
  have hf:Bool.rec (motive:=fun _=>Option (List AV→St→Option (AV × St))) (shLook l f) (some p.2) (Nat.beq p.1 f)=some o:=hf
  cases q:Nat.beq p.1 f with
  | true =>
   rw [q] at hf
   have hf:some p.2=some o:=hf
   simp only [oJ] at hf
   subst hf
   have:=Nat.eq_of_beq_eq_true q
   subst this
   exact h.1 args st r ho
  | false =>
   rw [q] at hf
   exact shLook_ok h.2 f o args st r hf ho
abbrev Rn:=(Unit→Option (AV × St))→Option (AV × St)
def shN:Rn:=fun k=>k ()
def shS (r:AV × St):Rn:=fun _=>some r
noncomputable def shK (r:Option (AV × St)):Rn:=Option.rec (motive:=fun _=>Rn) shN shS r
noncomputable def shO (o:Option (List AV→St→Option (AV × St))) (args:List AV) (st:St):Rn :=
 Option.rec (motive:=fun _=>List AV→St→Rn) (fun _ _=>shN) (fun o args st=>shK (o args st)) o args st
noncomputable def xRun (sh:Cut1) (T:Tab) (n:Nat):Orc:=Nat.rec (motive:=fun _=>Orc) (fun _ _ _=>none) (fun n ih f args st=>shO (sh f) args st fun _=>(T f).bind fun x=>kEnt x ih (fun F=>iter F n) args st) n
theorem xRun_ok {T:Tab} {sh:Cut1} (hs:ShOk T sh):∀ (n:Nat) (f:FuncId) (args:List AV) (st:St) (r:AV × St),xRun sh T n f args st=some r→S T f args st=some r
 | 0,f,args,st,r,h=>by
  have h:(none:Option (AV × St))=some r:=h
  simp at h
 | n+1,f,args,st,r,h=>by
  have h:shO (sh f) args st (fun _=>(T f).bind fun x=>kEnt x (xRun sh T n) (fun F=>iter F n) args st)=some r:=h
  have key:((T f).bind fun x=>kEnt x (xRun sh T n) (fun F=>iter F n) args st)=some r→S T f args st=some r:=by
   intro h
   simp only [oB] at h
   obtain ⟨x,hx,h⟩:=h
   rw [kEnt_eq] at h
   cases x with
   | base o=>exact S_base hx h
   | pf p =>
    refine S_of hx ?_
    have h:callBody (xRun sh T n) (itN n) p args st=some r:=h
    exact callBody_mono (O:=xRun sh T n) (O':=S T) (I:=itN n) (J:=itS) (fun f a st r q=>xRun_ok hs n f a st r q) (fun _ _ h _ _ _ q=>itS_iff.2 ⟨n,iter_mono h (Nat.le_refl n) q⟩) h
  cases hf:sh f with
  | none=>rw [hf] at h;exact key h
  | some o =>
   rw [hf] at h
   have h:shK (o args st) (fun _=>(T f).bind fun x=>kEnt x (xRun sh T n) (fun F=>iter F n) args st)=some r:=h
   cases ho:o args st with
   | none=>rw [ho] at h;exact key h
   | some q =>
    rw [ho] at h
    have h:some q=some r:=h
    simp only [oJ] at h
    subst h
    exact hs f o args st q hf ho
section
variable {l:List (FuncId × Ent)} {sh:Cut1} {k:List Fr} {Q:Post} {e e1:Env} {st st1:St}
theorem rx_true (hs:ShOk (lookT l) sh) {f:FuncId} {args:List AV} (n:Nat) (h:isTrue (xRun sh (fLook l) n f args st)=true):∃ st',S (lookT l) f args st=some (.bool true,st'):=by
 unfold isTrue at h
 split at h
 ·rename_i st' hq
  rw [fLook_eq] at hq
  exact ⟨st',xRun_ok hs n _ _ _ _ hq⟩
 ·simp at h
end
end Go.QAbs
namespace Go.QZ
open Go Go.QAbs
set_option maxRecDepth 100000
def kidO:AV→Option Kid
 | .agg [.int .u64 (.ofNat a),.int .i64 b,.int .i64 r,.int .i64 l]=>some ⟨a,⟨b,r,l⟩⟩
 | _=>none
theorem kidO_ok {v:AV} {k:Kid} (h:kidO v=some k):v=k.av:=by
 unfold kidO at h
 split at h
 ·simp only [oJ] at h;subst h;rfl
 ·simp at h
def kidsO:List AV→Option (List Kid)
 | []=>some []
 | v::vs=>(kidO v).bind fun k=>(kidsO vs).map (k::·)
theorem kidsO_ok:∀ {vs:List AV} {ks:List Kid},kidsO vs=some ks→vs=ks.map Kid.av
 | [],ks,h=>by simp only [kidsO,oJ] at h;subst h;rfl
 | v::vs,ks,h=>by
  simp only [kidsO,oB,oM] at h
  obtain ⟨k,hk,r,hr,rfl⟩:=h
  rw [kidO_ok hk,kidsO_ok hr];rfl
def ndK (h:Nat) (s:List UInt8) (ks:List Kid):Option Nd:=some ⟨h,s,some ks⟩
def ndO:AV→Option Nd
 | .agg [.int .i64 (.ofNat h),.str s,.nils]=>some ⟨h,s,none⟩
 | .agg [.int .i64 (.ofNat h),.str s,.lit es]=>(kidsO es).bind (ndK h s)
 | _=>none
theorem ndO_ok {v:AV} {x:Nd} (h:ndO v=some x):v=x.av:=by
 unfold ndO at h
 split at h
 ·simp only [oJ] at h;subst h;rfl
 ·simp only [oB,ndK,oJ] at h
  obtain ⟨ks,hk,rfl⟩:=h
  rw [kidsO_ok hk];rfl
 ·simp at h
def kidB (h:Nat) (k:Kid):Bool:=decide (k.at_ % 65536<16384) && decide (1≤k.at_ / 65536) && decide (k.at_ / 65536≤4294967295) && decide ((leastB h:Int)≤k.m.b) && decide (k.m.b≤mostB h) && decide (0≤k.m.r) && decide (k.m.r≤k.m.b) && decide (0≤k.m.l) && decide (k.m.l≤k.m.r)
theorem kidB_ok {h:Nat} {k:Kid} (q:kidB h k=true):KidOk h k:=by
 simp only [kidB,Bool.and_eq_true,decide_eq_true_eq] at q
 obtain ⟨⟨⟨⟨⟨⟨⟨⟨a,b⟩,c⟩,d⟩,e⟩,f⟩,g⟩,i⟩,j⟩:=q
 exact ⟨⟨a,b,c⟩,d,e,f,g,i,j⟩
def ndB:Nd→Bool
 | ⟨0,s,none⟩=>decide (1≤s.length) && decide (s.length≤16)
 | ⟨0,s,some []⟩=>decide (1≤s.length) && decide (s.length≤16)
 | ⟨n+1,[],some ks⟩=>decide (n≤15) && decide (2≤ks.length) && decide (ks.length≤4) && ks.all (kidB n) && decide ((sumM (ks.map Kid.m)).b≤65536)
 | _=>false
theorem ndB_ok {x:Nd} (h:ndB x=true):NdOk x:=by
 unfold ndB at h
 split at h
 ·simp only [Bool.and_eq_true,decide_eq_true_eq] at h
  exact .inl ⟨rfl,h.1,h.2,rfl⟩
 ·simp only [Bool.and_eq_true,decide_eq_true_eq] at h
  exact .inl ⟨rfl,h.1,h.2,rfl⟩
 ·simp only [Bool.and_eq_true,decide_eq_true_eq] at h
  obtain ⟨⟨⟨⟨a,b⟩,c⟩,d⟩,e⟩:=h
  exact .inr ⟨_,_,rfl,a,b,c,fun k hk=>kidB_ok (List.all_eq_true.1 d k hk),e⟩
 ·simp at h
def xOf:List AV→St→Option (AV × St)
 | [.str s],st=>bif decide (s.length<4294967296) then some ((meaT s).av,st) else none
 | _,_=>none
theorem xOf_ok (args:List AV) (st:St) (r:AV × St) (h:xOf args st=some r):S Tb F_measure_Of args st=some r:=by
 unfold xOf at h
 split at h
 ·rename_i st s
  cases hs:decide (s.length<4294967296) with
  | false=>rw [hs] at h;simp at h
  | true =>
   rw [hs] at h
   simp only [cond_true,oJ] at h;subst h
   exact Of_c s (of_decide_eq_true hs) _
 ·simp at h
def xHCheck:List AV→St→Option (AV × St)
 | [.int .u64 (.ofNat h)],st=>bif decide (handleP h) then some (.int .i64 0,st) else none
 | _,_=>none
theorem xHCheck_ok (args:List AV) (st:St) (r:AV × St) (h:xHCheck args st=some r):S Tb F_handle_Check args st=some r:=by
 unfold xHCheck at h
 split at h
 ·rename_i st a
  cases hs:decide (handleP a) with
  | false=>rw [hs] at h;simp at h
  | true =>
   rw [hs] at h
   simp only [cond_true,oJ] at h;subst h
   exact hCheck_ok a (of_decide_eq_true hs) _
 ·simp at h
def xNCheckK (st:St) (x:Nd):Option (AV × St):=bif ndB x then some (.int .i64 0,st) else none
def xNCheck:List AV→St→Option (AV × St)
 | [v],st=>(ndO v).bind (xNCheckK st)
 | _,_=>none
theorem xNCheck_ok (args:List AV) (st:St) (r:AV × St) (h:xNCheck args st=some r):S Tb F_node_Check args st=some r:=by
 unfold xNCheck at h
 split at h
 ·rename_i st v
  simp only [oB,xNCheckK] at h
  obtain ⟨x,hx,h⟩:=h
  cases hs:ndB x with
  | false=>rw [hs] at h;simp at h
  | true =>
   rw [hs] at h
   simp only [cond_true,oJ] at h;subst h
   rw [ndO_ok hx]
   exact nCheck_c x (ndB_ok hs) _
 ·simp at h
def xNMeasureK (st:St) (x:Nd):Option (AV × St):=bif ndB x then some (.tup [x.mea.av,.int .i64 0],st) else none
def xNMeasure:List AV→St→Option (AV × St)
 | [v],st=>(ndO v).bind (xNMeasureK st)
 | _,_=>none
theorem xNMeasure_ok (args:List AV) (st:St) (r:AV × St) (h:xNMeasure args st=some r):S Tb F_node_Measure args st=some r:=by
 unfold xNMeasure at h
 split at h
 ·rename_i st v
  simp only [oB,xNMeasureK] at h
  obtain ⟨x,hx,h⟩:=h
  cases hs:ndB x with
  | false=>rw [hs] at h;simp at h
  | true =>
   rw [hs] at h
   simp only [cond_true,oJ] at h;subst h
   rw [ndO_ok hx]
   exact nMeasure_c x (ndB_ok hs) _
 ·simp at h
def xBounds:List AV→St→Option (AV × St)
 | [.int .i64 (.ofNat n)],st=>bif decide (n≤16) then some (.tup [.int .i64 (leastB n),.int .i64 (mostB n)],st) else none
 | _,_=>none
theorem xBounds_ok (args:List AV) (st:St) (r:AV × St) (h:xBounds args st=some r):S Tb F_node_bounds args st=some r:=by
 unfold xBounds at h
 split at h
 ·rename_i st a
  cases hs:decide (a≤16) with
  | false=>rw [hs] at h;simp at h
  | true =>
   rw [hs] at h
   simp only [cond_true,oJ] at h;subst h
   exact bounds_c a _ rfl (of_decide_eq_true hs) _
 ·simp at h
def xCount:List AV→St→Option (AV × St)
 | [.str s,.func (.func f) [] []],st=>bif decide (s.length<4294967296) then (bif Nat.beq f F_measure_begins then some (.int .i64 (s.countP beginsB),st) else bif Nat.beq f F_measure_feeds then some (.int .i64 (s.countP feedsB),st) else none) else none
 | _,_=>none
theorem xCount_ok (args:List AV) (st:St) (r:AV × St) (h:xCount args st=some r):S Tb F_measure_count args st=some r:=by
 unfold xCount at h
 split at h
 ·rename_i st s f
  cases hs:decide (s.length<4294967296) with
  | false=>rw [hs] at h;simp at h
  | true =>
   rw [hs] at h
   simp only [cond_true] at h
   cases h1:Nat.beq f F_measure_begins with
   | true =>
    rw [h1] at h
    simp only [cond_true,oJ] at h;subst h
    rw [Nat.eq_of_beq_eq_true h1]
    exact count_c _ _ begins_c s (of_decide_eq_true hs) _
   | false =>
    rw [h1] at h
    simp only [cond_false] at h
    cases h2:Nat.beq f F_measure_feeds with
    | true =>
     rw [h2] at h
     simp only [cond_true,oJ] at h;subst h
     rw [Nat.eq_of_beq_eq_true h2]
     exact count_c _ _ feeds_c s (of_decide_eq_true hs) _
    | false=>rw [h2] at h;simp at h
 ·simp at h
def shL:List (FuncId × (List AV→St→Option (AV × St))):=[(F_measure_Of,xOf),(F_handle_Check,xHCheck),(F_node_Check,xNCheck),(F_node_Measure,xNMeasure),(F_node_bounds,xBounds),(F_measure_count,xCount)]
end Go.QZ
namespace Go.QZ
open Go Go.QAbs
set_option maxRecDepth 100000
abbrev Nodes:=List (Nat × Nd)
def nodeAV (p:Nat × Nd):AV × AV:=(.int .u64 p.1,p.2.av)
structure Rd (st:St) (lv ix:Nat) (N:Nodes):Prop where
 at_:∃ a0 a1 im a3 a4 a5,st.get lv ix=some (.arr 6 0 [.agg [a0,a1,.map lv im,a3,a4,a5]])∧st.get lv im=some (.map (N.map nodeAV))
theorem Rd.push {st:St} {A:List (Bool × List Blk)} {ro:Bool} {L:List Blk} {lv ix:Nat} {N:Nodes} (hA:A=st.A++[(st.ro,st.L)]) (h:Rd st lv ix N):Rd ⟨A,ro,L⟩ lv ix N:=by
 obtain ⟨a0,a1,im,a3,a4,a5,h1,h2⟩:=h
 exact ⟨a0,a1,im,a3,a4,a5,get_old hA h1,get_old hA h2⟩
def Nd.copy (x:Nd):Nd:=⟨x.h,x.text,some x.ks⟩
theorem NdOk.len {x:Nd} (h:NdOk x):x.ks.length≤4:=by
 rcases h with h|⟨n,ks,h⟩
 ·rw [h.ks];decide
 ·rw [h.eq];exact h.hi
end Go.QZ
namespace Go.QZ
open Go Go.QAbs
set_option maxRecDepth 100000
structure AR where
 blk:List Int
 n:Nat
 ver:Nat
 states:List Int
 gens:List Int
 most:Int
 nodes:Nodes
 slots:Int
 allocs:Int
 frees:Int
 stale:Int
namespace AR
def b0 (r:AR):Blk:=.arr 1 0 (r.states.map (.int .u8))
def b1 (r:AR):Blk:=.arr 1 r.ver (r.blk.map (.int .i64))
def b2 (r:AR):Blk:=.arr 1 0 (r.gens.map (.int .u64))
def b3 (r:AR) (lv b:Nat):Blk:=.arr 4 0 [.agg [.ref lv (b+1) r.ver 0 r.n,.ref lv b 0 0 r.states.length,.ref lv (b+2) 0 0 r.gens.length,.int .u64 r.most]]
def b4 (r:AR):Blk:=.map (r.nodes.map nodeAV)
def b5 (r:AR) (lv b:Nat):Blk:=.arr 6 0 [.agg [.int .i64 r.slots,.ptr lv (b+3) 0 0 0,.map lv (b+4),.int .i64 r.allocs,.int .i64 r.frees,.int .i64 r.stale]]
end AR
end Go.QZ
namespace Go.QZ
open Go Go.QAbs
set_option maxRecDepth 100000
set_option maxHeartbeats 8000000
theorem findH_app {j i:Nat}:∀ {L0 T:List Blk},findH j T=some i→findH j (L0++T)=some (L0.length+i)
 | [],T,h=>by simpa using h
 | b::L0,T,h=>by
  have:=findH_app (L0:=L0) h
  unfold findH
  rw [lC]
  simp only [this,List.length_cons]
  congr 1;omega
theorem set_app:∀ {L0 T:List Blk} {i:Nat} {b:Blk},(L0++T).set (L0.length+i) b=L0++T.set i b
 | [],T,i,b=>by simp
 | c::L0,T,i,b=>by
  rw [lC,List.length_cons,show L0.length+1+i=(L0.length+i)+1 by omega,List.set_cons_succ,set_app];rfl
theorem get_app:∀ {L0 T:List Blk} {i:Nat},(L0++T)[L0.length+i]?=T[i]?
 | [],T,i=>by simp
 | c::L0,T,i=>by
  rw [lC,List.length_cons,show L0.length+1+i=(L0.length+i)+1 by omega,List.getElem?_cons_succ,get_app]
section
variable {O:Orc} {k:List Fr} {Q:Post} {e:Env} {A:List (Bool × List Blk)} {L L0 T T':List Blk} {keep:List Nat} {is:List PI} {d:Nat}
theorem ru_regH {js:List Nat} (h:Is O is keep k Q e ⟨A,false,L++js.map Blk.hole⟩):Ru O (.regH js keep is) k Q e ⟨A,false,L⟩:=by
 obtain ⟨e',st',h1,h2⟩:=h.h
 refine ⟨⟨.norm,keepEnv keep e',st',?_,h2⟩⟩
 simp only [exec,padH,Bool.false_eq_true,if_false,oS,h1,regK]
theorem is_here {j i w bytes:Nat} {z:AV} {l c:Opd} {n:Int} (hl:opdO e l=some (.int .i64 n)) (hc:opdO e c=some (.int .i64 n)) (hn:0≤n∧n<4294967296) (hb:bytes≤4096) (hf:findH j T=some i)
 (hL:forceB (T.set i (Blk.arr w 0 (List.replicate n.toNat z)))=some T') (h:Is O is keep k Q ((d,.ref A.length (L0.length+i) 0 0 n.toNat)::e) ⟨A,false,L0++T'⟩):Is O (⟨some d,none,false,.w (.here j) (.mkslice w bytes z l c)⟩::is) keep k Q e ⟨A,false,L0++T⟩:=by
 rw [← forceB_some hL,← set_app] at h
 refine is_of (v:=.ref A.length (L0.length+i) 0 0 n.toNat) (st':=⟨A,false,(L0++T).set (L0.length+i) (Blk.arr w 0 (List.replicate n.toNat z))⟩) ?_ h
 simp only [evalPI,evalW,newOf,opdO_some hl,opdO_some hc,mkslB,if_pos (show 0≤n∧n≤n∧n<4294967296∧bytes≤4096 by omega),oS,hereV,immB,and_self,if_true,findH_app hf,fillK]
theorem is_mkmapA {m:Nat} (hm:lenO T=some m) (hL:forceB (T++[Blk.map []])=some T') (h:Is O is keep k Q ((d,.map A.length (L0.length+m))::e) ⟨A,false,L0++T'⟩):Is O (⟨some d,none,false,.mkmap⟩::is) keep k Q e ⟨A,false,L0++T⟩:=by
 rw [← forceB_some hL,← lenO_some hm,← List.append_assoc,← lL] at h
 exact is_of (v:=.map A.length (L0++T).length) (st':=⟨A,false,L0++T++[Blk.map []]⟩) (by simp only [evalPI,evalPO,oS,St.new_cur,newMapK]) h
theorem is_ldA {agg:Bool} {n:Nat} {a:Opd} {ix ver i o w:Nat} {es:List AV} {x v:AV} (ha:opdO e a=some (.ptr A.length (L0.length+ix) ver i o)) (hg:T[ix]?=some (Blk.arr w ver es)) (hx:es[i]?=some x) (hv:partOf x agg o n=some v)
 (h:Is O is keep k Q ((d,v)::e) ⟨A,false,L0++T⟩):Is O (⟨some d,none,false,.ld agg n a⟩::is) keep k Q e ⟨A,false,L0++T⟩ :=
 is_ldc ha (by rw [get_app];exact hg) hx hv h
theorem is_ixRA {w:Nat} {x i:Opd} {ix ver s m:Nat} {n:Int} {es:List AV} (hx:opdO e x=some (.ref A.length (L0.length+ix) ver s m)) (hi:opdO e i=some (.int .i64 n)) (hn:0≤n∧n<m) (hg:T[ix]?=some (Blk.arr w ver es)) (h:Is O is keep k Q ((d,.ptr A.length (L0.length+ix) ver (s+n.toNat) 0)::e) ⟨A,false,L0++T⟩):Is O (⟨some d,none,false,.ixS w x i⟩::is) keep k Q e ⟨A,false,L0++T⟩ :=
 is_ixRc hx hi hn (by rw [get_app];exact hg) h
theorem is_stA {n:Nat} {a x:Opd} {ix ver i o w:Nat} {es:List AV} {v v' y:AV} (ha:opdO e a=some (.ptr A.length (L0.length+ix) ver i o)) (hx:opdO e x=some v) (hg:T[ix]?=some (Blk.arr w ver es)) (hy:es[i]?=some y)
 (hs:sealV deep (A.length+1) ⟨A,false,L0++T⟩ v=some (v,⟨A,false,L0++T⟩)) (hv:(elemSet w y o n v).bind forceV=some v') (hL:forceB (T.set ix (Blk.arr w ver (es.set i v')))=some T') (h:Is O is keep k Q e ⟨A,false,L0++T'⟩):Is O (⟨none,none,false,.st n a x⟩::is) keep k Q e ⟨A,false,L0++T⟩:=by
 rw [← forceB_some hL,← set_app] at h
 exact is_stn (by rw [get_app];exact hg) ha hx hy hs hv h
end
def newAR (n g:Nat):AR:=⟨(List.range n).map fun (j:Nat)=>(n:Int)-1-j,n,0,List.replicate n 0,List.replicate n 1,g,[],n,0,0,0⟩
theorem map_range_set {n i:Nat} {k:IntKind} {f:Nat→Int} {z:Int} (hi:i<n):((List.range n).map fun j=>AV.int k (if j<i then f j else z)).set i (.int k (f i))=(List.range n).map fun j=>AV.int k (if j<i+1 then f j else z):=by
 apply List.ext_getElem
 ·simp
 ·intro j hj hj'
  simp only [List.getElem_set,List.getElem_map,List.getElem_range]
  by_cases q:i=j
  ·subst q;simp
  ·rw [if_neg q]
   have:j<i+1↔j<i:=by omega
   simp only [this]
theorem flNew_c (n g:Nat) (hn:1≤n∧n≤16384) (hg:1≤g∧g≤4294967295) (A:List (Bool × List Blk)) (L0:List Blk) :
 S Tb F_freelist_New [.int .i64 n,.int .u64 g] ⟨A,false,L0⟩=some (.tup [.ptr A.length (L0.length+3) 0 0 0,.int .i64 0],⟨A,false,L0++[(newAR n g).b0,(newAR n g).b1,(newAR n g).b2,(newAR n g).b3 A.length L0.length]⟩):=by
 refine s_keep rfl ?_
 have hmap:∀ (k:IntKind) (z:Int),List.replicate n (AV.int k z)=(List.range n).map fun (j:Nat)=>AV.int k (if j<0 then (fun (j:Nat)=>(n:Int)-1-j) j else z):=by
  intro k z;simp only [Nat.not_lt_zero,if_false,List.map_const',List.length_range]
 have hmap1:List.replicate n (AV.int .u64 0)=(List.range n).map fun j=>AV.int .u64 (if j<0 then (fun _=>(1:Int)) j else 0):=by
  simp only [Nat.not_lt_zero,if_false,List.map_const',List.length_range]
 repeat' (first|refine ru_seq ?_|refine ru_reg ?_|refine is_mv rfl ?_|refine is_gT rfl ?_|refine is_pick rfl rfl rfl rfl ?_|refine is_nil rfl ?_|refine rk_seq ?_|(refine is_lss rfl rfl (fun _=>?_) (fun _=>?_)<;>try (exfalso;omega))|(refine is_gtr rfl rfl (fun _=>?_) (fun _=>?_)<;>try (exfalso;omega))|refine ru_iteF rfl ?_|refine is_buildO rfl rfl rfl ?_|refine is_boxG rfl rfl rfl ?_|refine ru_regH ?_|refine is_here rfl rfl (by omega) (by decide) rfl rfl ?_|refine ru_skip ?_|refine ru_block ?_)
 simp only [lL,List.length_cons,List.length_nil,List.append_assoc,lC,lE,Int.toNat_natCast,Nat.zero_add]
 rw [hmap .i64 0,hmap1]
 refine ru_loopP (α:=Nat) (fun i=>[(0,.int .i64 n),(6,.ptr A.length (L0.length+3) 0 0 0),(31,.int .i64 n),(32,.int .i64 i)])
  (fun i=>⟨A,false,L0++[.arr 1 0 (List.replicate n (.int .u8 0)),.arr 1 0 ((List.range n).map fun (j:Nat)=>.int .i64 (if j<i then (fun (j:Nat)=>(n:Int)-1-j) j else 0)),.arr 1 0 ((List.range n).map fun (j:Nat)=>.int .u64 (if j<i then (fun _=>(1:Int)) j else 0)),.arr 4 0 [.agg [.ref A.length (L0.length+1) 0 0 n,.ref A.length (L0.length+0) 0 0 n,.ref A.length (L0.length+2) 0 0 n,.int .u64 g]]]⟩)
  (fun i=>i≤n) (fun i=>n-i) 0 rfl rfl (Nat.zero_le _) ?_
 intro i hi
 repeat' (first|refine ru_seq ?_|refine ru_reg ?_|refine is_mv rfl ?_|refine is_fadr rfl rfl ?_|refine is_nil rfl ?_|refine rk_seq ?_|refine is_nilck rfl rfl ?_|(refine is_lss rfl rfl (fun _=>?_) (fun _=>?_)<;>try (exfalso;omega))|refine ru_iteT rfl ?_|refine ru_iteF rfl ?_|refine is_subS rfl rfl (by omega) ?_|refine is_ldA rfl rfl rfl rfl ?_|refine is_ixRA rfl rfl (by omega) rfl ?_|refine ru_skip ?_|refine ru_ret ?_|refine ru_exit ?_|refine ru_block ?_|refine rk_nil ?_|refine rk_seq_ex ?_|refine rk_blk_eq rfl ?_|refine rk_inv_ex ?_)
 ·simp only [Nat.zero_add,Int.toNat_natCast]
  refine is_stA (y:=.int .i64 0) rfl rfl rfl ?_ rfl rfl rfl ?_
  ·rw [List.getElem?_map,List.getElem?_range (by omega)];simp
  rw [map_range_set (f:=fun (j:Nat)=>(n:Int)-1-j) (by omega)]
  repeat' (first|refine ru_reg ?_|refine is_mv rfl ?_|refine is_fadr rfl rfl ?_|refine is_nil rfl ?_|refine rk_seq ?_|refine is_nilck rfl rfl ?_|refine is_ldA rfl rfl rfl rfl ?_|refine is_ixRA rfl rfl (by omega) rfl ?_)
  simp only [Nat.zero_add,Int.toNat_natCast]
  refine is_stA (y:=.int .u64 0) rfl rfl rfl ?_ rfl rfl rfl ?_
  ·rw [List.getElem?_map,List.getElem?_range (by omega)];simp
  rw [map_range_set (f:=fun (j:Nat)=>(1:Int)) (by omega)]
  repeat' (first|refine ru_reg ?_|refine is_mv rfl ?_|refine is_nil rfl ?_|refine rk_seq ?_|refine is_addS rfl rfl (by omega) ?_|refine rk_blk ?_|refine rk_inv ?_)
  exact ⟨i+1,⟨rfl,rfl⟩,by omega,by omega⟩
 ·obtain rfl:i=n:=by omega
  have e1:∀ (k:IntKind) (f:Nat→Int),((List.range i).map fun (j:Nat)=>AV.int k (if j<i then f j else 0))=(List.range i).map fun j=>.int k (f j):=by
   intro k f
   apply List.map_congr_left
   intro j hj
   rw [List.mem_range] at hj
   rw [if_pos hj]
  simp only [e1,AR.b0,AR.b1,AR.b2,AR.b3,newAR,List.map_replicate,List.map_map,List.length_replicate]
  simp only [List.map_const',List.length_range]
  rfl
theorem arNew_c (n g:Nat) (hn:1≤n∧n≤16384) (hg:1≤g∧g≤4294967295) (A:List (Bool × List Blk)) (L0:List Blk) :
 S Tb F_arena_New [.int .i64 n,.int .u64 g] ⟨A,false,L0⟩=some (.tup [.ptr A.length (L0.length+5) 0 0 0,.int .i64 0],⟨A,false,L0++[(newAR n g).b0,(newAR n g).b1,(newAR n g).b2,(newAR n g).b3 A.length L0.length,(newAR n g).b4,(newAR n g).b5 A.length L0.length]⟩):=by
 refine s_keep rfl ?_
 repeat' (first|refine ru_seq ?_|refine ru_reg ?_|refine is_mv rfl ?_|refine is_ext rfl rfl ?_|refine is_nil rfl ?_|refine rk_seq ?_|(refine is_neq rfl rfl (fun _=>?_) (fun _=>?_)<;>try (exfalso;omega))|refine ru_iteF rfl ?_|refine is_buildO rfl rfl rfl ?_|refine is_boxG rfl rfl rfl ?_|refine is_callE rfl rfl rfl (flNew_c n g hn hg A L0) ?_|refine is_mkmapA rfl rfl ?_|refine ru_skip ?_|refine ru_ret ?_|refine rk_nil ?_)
 simp only [lL,List.append_assoc,lC,lE]
 rfl
end Go.QZ
namespace Go.QZ
open Go Go.QAbs
set_option maxRecDepth 100000
def xNew:List AV→St→Option (AV × St)
 | [.int .i64 (.ofNat n),.int .u64 (.ofNat g)],⟨A,false,L⟩=>bif decide ((1≤n∧n≤16384)∧1≤g∧g≤4294967295) then some (.tup [.ptr A.length (L.length+5) 0 0 0,.int .i64 0],⟨A,false,L++[(newAR n g).b0,(newAR n g).b1,(newAR n g).b2,(newAR n g).b3 A.length L.length,(newAR n g).b4,(newAR n g).b5 A.length L.length]⟩) else none
 | _,_=>none
theorem xNew_ok (args:List AV) (st:St) (r:AV × St) (h:xNew args st=some r):S Tb F_arena_New args st=some r:=by
 unfold xNew at h
 split at h
 ·rename_i n g A L
  cases hs:decide ((1≤n∧n≤16384)∧1≤g∧g≤4294967295) with
  | false=>rw [hs] at h;simp at h
  | true =>
   rw [hs] at h
   simp only [cond_true,oJ] at h;subst h
   have:=of_decide_eq_true hs
   exact arNew_c n g this.1 this.2 A L
 ·simp at h
noncomputable def shN2:List (FuncId × (List AV→St→Option (AV × St))):=(F_arena_New,xNew)::shL
end Go.QZ
namespace Go.Proofs
open Go.Shelf
def Tryz.lays156_ren:Go.Shelf.Ren:=⟨fun|156=>18|165=>32|166=>33|169=>34|240=>61|241=>62|276=>87|277=>88|n=>n,fun|31=>32|9=>9|3=>3|4=>4|0=>0|20=>20|72=>91|76=>95|70=>88|37=>89|75=>94|127=>135|164=>167|5=>5|80=>97|n=>n,fun|n=>n⟩
theorem Tryz.lays156:Go.Proofs.Lays.n156 Tryz.prog Tryz.lays156_ren:={
 mixed:=by kernel_rfl
 f156:=Tryz.func18.trans (congrArg some (by kernel_rfl))
 f165:=Tryz.func32.trans (congrArg some (by kernel_rfl))
 f166:=Tryz.func33.trans (congrArg some (by kernel_rfl))
 f169:=Tryz.func34.trans (congrArg some (by kernel_rfl))
 f240:=Tryz.func61.trans (congrArg some (by kernel_rfl))
 f241:=Tryz.func62.trans (congrArg some (by kernel_rfl))
 f276:=Tryz.func87.trans (congrArg some (by kernel_rfl))
 f277:=Tryz.func88.trans (congrArg some (by kernel_rfl))
 t0:=Tryz.underlying0
 a0:=Tryz.isAgg0
 z0:=Tryz.sizeOf0
 v0:=Tryz.zeroValue0
 t3:=Tryz.underlying3
 a3:=Tryz.isAgg3
 z3:=Tryz.sizeOf3
 v3:=Tryz.zeroValue3
 t4:=Tryz.underlying4
 a4:=Tryz.isAgg4
 z4:=Tryz.sizeOf4
 v4:=Tryz.zeroValue4
 t9:=Tryz.underlying9
 a9:=Tryz.isAgg9
 z9:=Tryz.sizeOf9
 v9:=Tryz.zeroValue9
 t20:=Tryz.underlying20
 a20:=Tryz.isAgg20
 z20:=Tryz.sizeOf20
 v20:=Tryz.zeroValue20
 t31:=Tryz.underlying32
 a31:=Tryz.isAgg32
 z31:=Tryz.sizeOf32
 v31:=Tryz.zeroValue32
 t37:=Tryz.underlying89
 a37:=Tryz.isAgg89
 z37:=Tryz.sizeOf89
 v37:=Tryz.zeroValue89
 t70:=Tryz.underlying88
 a70:=Tryz.isAgg88
 z70:=Tryz.sizeOf88
 v70:=Tryz.zeroValue88
 t72:=Tryz.underlying91
 a72:=Tryz.isAgg91
 z72:=Tryz.sizeOf91
 v72:=Tryz.zeroValue91
 t75:=Tryz.underlying94
 a75:=Tryz.isAgg94
 z75:=Tryz.sizeOf94
 v75:=Tryz.zeroValue94
 t76:=Tryz.underlying95
 a76:=Tryz.isAgg95
 z76:=Tryz.sizeOf95
 v76:=Tryz.zeroValue95
 t127:=Tryz.underlying135
 a127:=Tryz.isAgg135
 z127:=Tryz.sizeOf135
 v127:=Tryz.zeroValue135
 t164:=Tryz.underlying167
 a164:=Tryz.isAgg167
 z164:=Tryz.sizeOf167
 v164:=Tryz.zeroValue167 }
theorem Tryz.Builder_Extra_156:Builder.Extra Tryz.prog Tryz.lays156_ren:={
 sizeBuilder:=by kernel_rfl
 liesBuilder:=by kernel_rfl
 t5:=Tryz.underlying5
 a5:=Tryz.isAgg5
 z5:=Tryz.sizeOf5
 v5:=Tryz.zeroValue5
 infoByte:=by kernel_rfl
 cellsByte:=by kernel_rfl
 sizeByte:=by kernel_rfl
 neB5:=by decide }
open Go.RowKit in
theorem Tryz.strings_Join_none (a:Option Addr) (c:Nat) (sep:ByteArray) (w:World) :
 Calls Tryz.prog 18 #[.slice a 0 c,.string sep] w fun e w'=>e=.returned (.string ⟨#[]⟩)∧w'=w:=Any.strings_Join_none Tryz.lays156 Tryz.Builder_Extra_156 a c sep w
open Go.RowKit in
theorem Tryz.strings_Join (bk o c:Nat) (xs:List ByteArray) (sep:ByteArray) (w:World) (hcells:∀ (j:Nat) x,xs[j]?=some x→w.cell? ⟨bk,o+j,none⟩=some (.string x)) (hbk:bk<w.heap.size) (hN:xs.length≤140737488355328) (hcap:xs.length≤c) (hlen:(Lib.join (xs.map (·.data.toList)) sep.data.toList).length≤140737488355328) :
 Calls Tryz.prog 18 #[.slice (some ⟨bk,o,none⟩) xs.length c,.string sep] w fun e w'=>e=.returned (.string ⟨(Lib.join (xs.map (·.data.toList)) sep.data.toList).toArray⟩)∧Below w.heap.size w w':=Any.strings_Join Tryz.lays156 Tryz.Builder_Extra_156 bk o c xs sep w hcells hbk hN hcap hlen
def Tryz.lays213_ren:Go.Shelf.Ren:=⟨fun|213=>41|265=>69|n=>n,fun|9=>9|3=>3|n=>n,fun|n=>n⟩
theorem Tryz.lays213:Go.Proofs.Lays.n213 Tryz.prog Tryz.lays213_ren:={
 mixed:=by kernel_rfl
 f213:=Tryz.func41.trans (congrArg some (by kernel_rfl))
 f265:=Tryz.func69.trans (congrArg some (by kernel_rfl))
 t3:=Tryz.underlying3
 a3:=Tryz.isAgg3
 z3:=Tryz.sizeOf3
 v3:=Tryz.zeroValue3
 t9:=Tryz.underlying9
 a9:=Tryz.isAgg9
 z9:=Tryz.sizeOf9
 v9:=Tryz.zeroValue9 }
open Go.RowKit in
theorem Tryz.bytealg_CompareString (a b:ByteArray) (w:World) :
 Calls Tryz.prog 41 #[.string a,.string b] w fun e w'=>e=.returned (.int .i64 (Lib.compareBytes a.data.toList b.data.toList))∧w'=w:=Any.bytealg_CompareString Tryz.lays213 a b w
def Tryz.lays219_ren:Go.Shelf.Ren:=⟨fun|219=>42|217=>70|225=>71|224=>72|267=>73|266=>93|314=>94|n=>n,fun|9=>9|3=>3|4=>4|5=>5|46=>146|146=>177|51=>176|n=>n,fun|1=>0|n=>n⟩
theorem Tryz.lays219:Go.Proofs.Lays.n219 Tryz.prog Tryz.lays219_ren:={
 mixed:=by kernel_rfl
 f217:=Tryz.func70.trans (congrArg some (by kernel_rfl))
 f219:=Tryz.func42.trans (congrArg some (by kernel_rfl))
 f224:=Tryz.func72.trans (congrArg some (by kernel_rfl))
 f225:=Tryz.func71.trans (congrArg some (by kernel_rfl))
 f266:=Tryz.func93.trans (congrArg some (by kernel_rfl))
 f267:=Tryz.func73.trans (congrArg some (by kernel_rfl))
 f314:=Tryz.func94.trans (congrArg some (by kernel_rfl))
 t3:=Tryz.underlying3
 a3:=Tryz.isAgg3
 z3:=Tryz.sizeOf3
 v3:=Tryz.zeroValue3
 t4:=Tryz.underlying4
 a4:=Tryz.isAgg4
 z4:=Tryz.sizeOf4
 v4:=Tryz.zeroValue4
 t5:=Tryz.underlying5
 a5:=Tryz.isAgg5
 z5:=Tryz.sizeOf5
 v5:=Tryz.zeroValue5
 t9:=Tryz.underlying9
 a9:=Tryz.isAgg9
 z9:=Tryz.sizeOf9
 v9:=Tryz.zeroValue9
 t46:=Tryz.underlying146
 a46:=Tryz.isAgg146
 z46:=Tryz.sizeOf146
 v46:=Tryz.zeroValue146
 t51:=Tryz.underlying176
 a51:=Tryz.isAgg176
 z51:=Tryz.sizeOf176
 v51:=Tryz.zeroValue176
 t146:=Tryz.underlying177
 a146:=Tryz.isAgg177
 z146:=Tryz.sizeOf177
 v146:=Tryz.zeroValue177
 g1:=by kernel_rfl }
open Go.RowKit Go.Lib in
theorem Tryz.stringslite_Index_one (s:ByteArray) (c:UInt8) (w:World) :
 Calls Tryz.prog 42 #[.string s,.string ⟨#[c]⟩] w fun e w'=>e=.returned (.int .i64 (Lib.indexByte s.data.toList c))∧w'=w:=Any.stringslite_Index_one Tryz.lays219 s c w
open Go.RowKit Go.Lib in
theorem Tryz.stringslite_Index (s sub:ByteArray) (m:Int) (w:World) (hs:s.size<4294967281) (hm:w.cell? ⟨0,0,none⟩=some (.int .i64 m)) :
 Calls Tryz.prog 42 #[.string s,.string sub] w fun e w'=>e=.returned (.int .i64 (Lib.index s.data.toList sub.data.toList))∧w'=w:=Any.stringslite_Index Tryz.lays219 s sub m w hs hm
end Go.Proofs
namespace Go.QAbs
open Go.RowKit (Below)
section
variable {P:Program} {W0:World} {B0:Bse} {st:St} {ρ:Rho} {W W':World}
def strO2 (f:List UInt8→List UInt8→Option AV):List AV→St→Option (AV × St)
 | [.str s,.str t],st=>(f s t).map fun v=>(v,st)
 | _,_=>none
theorem strO2_frame (f:List UInt8→List UInt8→Option AV) (args:List AV):(∃ v,∀ st,strO2 f args st=some (v,st))∨∀ st,strO2 f args st=none:=by
 by_cases h:∃ s t,args=[.str s,.str t]
 ·obtain ⟨s,t,rfl⟩:=h
  cases hq:f s t with
  | none=>exact .inr fun st=>by simp [strO2,hq]
  | some v=>exact .inl ⟨v,fun st=>by simp [strO2,hq]⟩
 ·refine .inr fun st=>?_
  unfold strO2
  split
  ·exact absurd ⟨_,_,rfl⟩ h
  ·rfl
def indexO:List AV→St→Option (AV × St):=strO2 fun s t=>if s.length<4294967281 then some (.int .i64 (Lib.index s t)) else none
def cmpO:List AV→St→Option (AV × St):=strO2 fun s t=>some (.int .i64 (Lib.compareBytes s t))
theorem index_ok {f : FuncId} {g : Nat} (hg : P.globalNamed "internal/bytealg.MaxLen" = some g)
 (h1:∀ (s sub:ByteArray) (m:Int) (w:World),s.size<4294967281→w.cell? ⟨g,0,none⟩=some (.int .i64 m)→Calls P f #[.string s,.string sub] w fun e w'=>e=.returned (.int .i64 (Lib.index s.data.toList sub.data.toList))∧w'=w) :
 EntOk P f (.base indexO):=by
 refine ⟨fun args=>?_,?_⟩
 ·rcases strO2_frame (fun s t=>if s.length<4294967281 then some (.int .i64 (Lib.index s t)) else none) args with ⟨v,hv⟩|hv
  ·exact (FrP.ret v).congr hv
  ·exact FrP.nope.congr hv
 intro args st v st' h W0 B0 ρ W xs hk hr hx
 unfold indexO strO2 at h
 split at h
 ·rename_i s t
  simp only at h
  split at h
  ·rename_i hb
   simp only [Option.map_some,oJ,Prod.mk.injEq] at h
   obtain ⟨rfl,rfl⟩:=h
   obtain ⟨x,ys,rfl,hx1,hx2⟩:=hx.cons_inv
   obtain ⟨y,zs,rfl,hy1,hy2⟩:=hx2.cons_inv
   obtain rfl:=hy2.nil_inv
   have hxs:=getStr hx1;subst hxs
   have hy:=getStr hy1;subst hy
   obtain ⟨m,hm,_⟩:=(hk.rel hr) g hg
   refine (h1 ⟨s.toArray⟩ ⟨t.toArray⟩ m W (by simpa [ByteArray.size] using hb) hm).mono ?_
   rintro e' W' ⟨rfl,rfl⟩
   exact ⟨_,ρ,rfl,quiet hr (.refl _ _),.int _ _⟩
  ·simp at h
 ·simp at h
theorem cmp_ok {f:FuncId}
 (h1:∀ (s t:ByteArray) (w:World),Calls P f #[.string s,.string t] w fun e w'=>e=.returned (.int .i64 (Lib.compareBytes s.data.toList t.data.toList))∧w'=w) :
 EntOk P f (.base cmpO):=by
 refine ⟨fun args=>?_,?_⟩
 ·rcases strO2_frame (fun s t=>some (.int .i64 (Lib.compareBytes s t))) args with ⟨v,hv⟩|hv
  ·exact (FrP.ret v).congr hv
  ·exact FrP.nope.congr hv
 intro args st v st' h W0 B0 ρ W xs hk hr hx
 unfold cmpO strO2 at h
 split at h
 ·rename_i s t
  simp only [Option.map_some,oJ,Prod.mk.injEq] at h
  obtain ⟨rfl,rfl⟩:=h
  obtain ⟨x,ys,rfl,hx1,hx2⟩:=hx.cons_inv
  obtain ⟨y,zs,rfl,hy1,hy2⟩:=hx2.cons_inv
  obtain rfl:=hy2.nil_inv
  have hxs:=getStr hx1;subst hxs
  have hy:=getStr hy1;subst hy
  refine (h1 ⟨s.toArray⟩ ⟨t.toArray⟩ W).mono ?_
  rintro e' W' ⟨rfl,rfl⟩
  exact ⟨_,ρ,rfl,quiet hr (.refl _ _),.int _ _⟩
 ·simp at h
end
end Go.QAbs
namespace Go.QAbs
def TLe (T T':Tab):Prop:=∀ f x,T f=some x→T' f=some x
theorem callN_tab {T T':Tab} (h:TLe T T'):∀ n,Le (callN T n) (callN T' n)
 | 0=>fun _ _ _ _ q=>by simp [callN] at q
 | n+1=>fun f _ _ _ q=>bind_mono (fun x q=>h f x q) (fun x _ q=>by
  cases x with
  | pf pf=>exact callBody_mono (callN_tab h n) (itN_le (Nat.le_refl n)) q
  | base o=>exact q) q
theorem S_tab {T T':Tab} (h:TLe T T'):Le (S T) (S T'):=fun f a st r q=>by
 obtain ⟨n,hn⟩:=S_iff.1 q
 exact S_iff.2 ⟨n,callN_tab h n _ _ _ _ hn⟩
theorem xRun_okT {T T':Tab} {sh:Cut1} (hTT:TLe T T') (hs:ShOk T' sh):∀ (n:Nat) (f:FuncId) (args:List AV) (st:St) (r:AV × St),xRun sh T n f args st=some r→S T' f args st=some r
 | 0,f,args,st,r,h=>by
  have h:(none:Option (AV × St))=some r:=h
  simp at h
 | n+1,f,args,st,r,h=>by
  have h:shO (sh f) args st (fun _=>(T f).bind fun x=>kEnt x (xRun sh T n) (fun F=>iter F n) args st)=some r:=h
  have key:((T f).bind fun x=>kEnt x (xRun sh T n) (fun F=>iter F n) args st)=some r→S T' f args st=some r:=by
   intro h
   simp only [oB] at h
   obtain ⟨x,hx,h⟩:=h
   rw [kEnt_eq] at h
   cases x with
   | base o=>exact S_base (hTT _ _ hx) h
   | pf p =>
    refine S_of (hTT _ _ hx) ?_
    have h:callBody (xRun sh T n) (itN n) p args st=some r:=h
    exact callBody_mono (O:=xRun sh T n) (O':=S T') (I:=itN n) (J:=itS) (fun f a st r q=>xRun_okT hTT hs n f a st r q) (fun _ _ h _ _ _ q=>itS_iff.2 ⟨n,iter_mono h (Nat.le_refl n) q⟩) h
  cases hf:sh f with
  | none=>rw [hf] at h;exact key h
  | some o =>
   rw [hf] at h
   have h:shK (o args st) (fun _=>(T f).bind fun x=>kEnt x (xRun sh T n) (fun F=>iter F n) args st)=some r:=h
   cases ho:o args st with
   | none=>rw [ho] at h;exact key h
   | some q =>
    rw [ho] at h
    have h:some q=some r:=h
    simp only [oJ] at h
    subst h
    exact hs f o args st q hf ho
noncomputable def kRound (O:Orc) (I:Run→Run) (nt:Nat) (rg:Rng) (args:List AV) (st:St):Option (AV × St) :=
 Bool.rec (motive:=fun _=>Option (AV × St)) none ((kExec rg.assign O I (setPs rg.ps args (initEnv 0 (args.drop rg.ps.length))) st.push).bind (roundK (kExec rg.body O I))) (Nat.beq args.length (rg.ps.length+nt))
theorem kRound_eq (O:Orc) (I:Run→Run) (nt:Nat) (rg:Rng) (args:List AV) (st:St) {r:AV × St} (h:kRound O I nt rg args st=some r):roundG O I nt rg args st=some r:=by
 unfold kRound at h
 unfold roundG
 cases hb:Nat.beq args.length (rg.ps.length+nt) with
 | false =>
  rw [hb] at h
  have h:(none:Option (AV × St))=some r:=h
  simp at h
 | true =>
  rw [hb] at h
  rw [if_pos (Nat.eq_of_beq_eq_true hb)]
  rw [← kExec_eq,← kExec_eq]
  exact h
noncomputable def shY (g:FuncId) (o:List AV→St→Option (AV × St)) (sh:Cut1):Cut1:=fun f=>Bool.rec (motive:=fun _=>Option (List AV→St→Option (AV × St))) (sh f) (some o) (Nat.beq g f)
noncomputable def kExecR (O:Orc) (I:Run→Run) (OT:Nat→Orc) (nt:Nat) (pre:PC) (rg:Rng) (post:PC):Run :=
 fun e st=>(kExec pre O I e st).bind (seqK fun e st=>(rngG OT nt rg e st).bind (seqK (kExec post O I)))
noncomputable def xRf (sh:Cut1) (T:Tab) (n:Nat) (rf:RF) (args:List AV) (st:St):Option (AV × St) :=
 (kExecR (xRun sh T n) (itN n) (fun lv=>xRun (shY (yB+lv) (kRound (xRun sh T n) (itN n) rf.nt rf.rng) sh) T n) rf.nt rf.pre rf.rng rf.post (initEnv 0 args) st.push).bind (endK false rf.res)
theorem roundG_mono {O O':Orc} {I J:Run→Run} (h:Le O O') (hi:ILe I J) {nt:Nat} {rg:Rng} {args:List AV} {st:St} {r:AV × St} (q:roundG O I nt rg args st=some r):roundG O' J nt rg args st=some r:=by
 unfold roundG at q ⊢
 split at q
 ·rename_i hc
  rw [if_pos hc]
  refine bind_mono (fun _ q=>exec_mono h hi q) (fun x r q=>?_) q
  obtain ⟨x,e,s⟩:=x
  cases x with
  | norm=>exact bind_mono (fun _ q=>exec_mono h hi q) (fun _ _ q=>q) q
  | ex id=>exact q
  | ret=>exact q
 ·simp at q
theorem rngG_mono {OT OT':Nat→Orc} (h:∀ lv,Le (OT lv) (OT' lv)) {nt:Nat} {rg:Rng} {e:Env} {st:St} {r:Ex × Env × St} (q:rngG OT nt rg e st=some r):rngG OT' nt rg e st=some r:=by
 unfold rngG at q ⊢
 split at q
 ·split at q
  ·rename_i hf
   rw [if_pos hf]
   exact bind_mono (fun _ q=>h _ _ _ _ _ q) (fun _ _ q=>q) q
  ·simp at q
 ·simp at q
theorem execR_mono {O O':Orc} {I J:Run→Run} {OT OT':Nat→Orc} (h:Le O O') (hi:ILe I J) (hO:∀ lv,Le (OT lv) (OT' lv)) {nt:Nat} {p1:PC} {rg:Rng} {p2:PC} {e:Env} {st:St} {r:Ex × Env × St}
 (q:execR O I OT nt p1 rg p2 e st=some r):execR O' J OT' nt p1 rg p2 e st=some r :=
 bind_mono (fun _ q=>exec_mono h hi q) (fun _ _ q=>seqK_mono (fun _ _ _ q=>bind_mono (fun _ q=>rngG_mono hO q) (fun _ _ q=>seqK_mono (fun _ _ _ q=>exec_mono h hi q) q) q) q) q
theorem kExecR_eq {O:Orc} {I:Run→Run} {OT:Nat→Orc} {nt:Nat} {p1:PC} {rg:Rng} {p2:PC}:kExecR O I OT nt p1 rg p2=execR O I OT nt p1 rg p2:=by
 funext e st
 unfold kExecR execR
 rw [kExec_eq,kExec_eq]
theorem xRf_ok {T:Tab} {sh:Cut1} (hT:∀ f x,T f=some x→f<yB) (hs:ShOk T sh) {n:Nat} {rf:RF} {args:List AV} {st:St} {r:AV × St} (h:xRf sh T n rf args st=some r):rfO T rf args st=some r:=by
 unfold xRf at h
 rw [kExecR_eq] at h
 have h1:Le (xRun sh T n) (S T):=fun f a st r q=>xRun_ok hs n f a st r q
 have h2:ILe (itN n) itS:=fun _ _ h _ _ _ q=>itS_iff.2 ⟨n,iter_mono h (Nat.le_refl n) q⟩
 refine bind_mono (fun _ q=>execR_mono h1 h2 (fun lv=>?_) q) (fun _ _ q=>q) h
 intro f a st r q
 have hTT:TLe T (tabY T lv (roundG (S T) itS rf.nt rf.rng)):=fun f x hx=>by
  unfold tabY
  rw [if_neg]
  ·exact hx
  ·intro q;exact yB_abs (hT f x hx) q
 refine xRun_okT hTT ?_ n f a st r q
 intro f o args st r hf ho
 have hf:Bool.rec (motive:=fun _=>Option (List AV→St→Option (AV × St))) (sh f) (some (kRound (xRun sh T n) (itN n) rf.nt rf.rng)) (Nat.beq (yB+lv) f)=some o:=hf
 cases hb:Nat.beq (yB+lv) f with
 | true =>
  rw [hb] at hf
  have hf:some (kRound (xRun sh T n) (itN n) rf.nt rf.rng)=some o:=hf
  simp only [oJ] at hf
  subst hf
  have e:=Nat.eq_of_beq_eq_true hb
  subst e
  exact S_base (o:=roundG (S T) itS rf.nt rf.rng) (by unfold tabY;rw [if_pos rfl]) (roundG_mono h1 h2 (kRound_eq _ _ _ _ _ _ ho))
 | false =>
  rw [hb] at hf
  exact S_tab hTT _ _ _ _ (hs f o args st r hf ho)
end Go.QAbs
namespace Go.QZ
open Go Go.QAbs
set_option maxRecDepth 100000
open Go.Shelf in
def cloneRen:Ren:=⟨fun|41=>90|n=>n,fun|22=>138|23=>156|n=>n,fun n=>n⟩
theorem cloneL:Go.Proofs.SlLaysE0.n41 Go.Proofs.Tryz.prog cloneRen:={
 mixed:=by kernel_rfl
 f41 := ⟨"slices.Clone[[]quarto/api.Kid,quarto/api.Kid]", by decide, Go.Proofs.Tryz.func90.trans (congrArg some (by kernel_rfl))⟩
 t4:=Go.Proofs.Tryz.underlying4
 a4:=Go.Proofs.Tryz.isAgg4
 z4:=Go.Proofs.Tryz.sizeOf4
 v4:=Go.Proofs.Tryz.zeroValue4
 t22:=Go.Proofs.Tryz.underlying138
 a22:=Go.Proofs.Tryz.isAgg138
 z22:=Go.Proofs.Tryz.sizeOf138
 v22:=Go.Proofs.Tryz.zeroValue138 }
theorem kid_info:∃ i z,Go.Proofs.Tryz.prog.info? 156=some i∧i.zero=some z∧i.size=4∧i.bytes=32∧z.cells.size=4:=⟨_,_,rfl,rfl,rfl,rfl,rfl⟩
theorem clone_c0:EntOk Go.Proofs.Tryz.prog F_slices_Clone_api_Kid_api_Kid (.base (cloneO 4)):=by
 obtain ⟨i,z,h1,h2,h3,h4,h5⟩:=kid_info
 refine clone_ok (T:=156) (fun n c W=>Go.Proofs.AnyE.slices_Clone_nil cloneL n c W) fun ad n c news W hl hn hc ho=>?_
 exact clone_any cloneL i z 4 32 h1 h2 h3 h4 h5 (by decide) Go.Proofs.Tryz.sizeOf156 ad n c news W hl (by unfold maxLen;omega) (by omega) hc ho
theorem mixedZ:Go.Proofs.Tryz.prog.follows .mixedOrders=true:=by kernel_rfl
noncomputable def tJ:List (FuncId × Ent):=(F_strings_Join,.base joinO)::(F_internal_stringslite_Index,.base indexO)::(F_internal_bytealg_CompareString,.base cmpO)::tl
noncomputable def tP:List (FuncId × Ent):=(F_slice_Pieces,.base (rfO (lookT tl) p_slice_Pieces))::tJ
theorem tl_all:AllOk Go.Proofs.Tryz.prog tl:=⟨⟨Go.Proofs.Tryz.call90,clone_c0⟩,tab_all⟩
theorem Tb_ok:TabOk Go.Proofs.Tryz.prog Tb:=tabOk_of tl_all
theorem max0 : Go.Proofs.Tryz.prog.globalNamed "internal/bytealg.MaxLen" = some 0 := by kernel_rfl
theorem tP_all:AllOk Go.Proofs.Tryz.prog tP:=⟨⟨Go.Proofs.Tryz.call6,rf_ok mixedZ Tb_ok Go.Proofs.Tryz.func6 c_slice_Pieces⟩,⟨Go.Proofs.Tryz.call18,join_ok Go.Proofs.Tryz.strings_Join_none Go.Proofs.Tryz.strings_Join⟩,⟨Go.Proofs.Tryz.call42,index_ok max0 Go.Proofs.Tryz.stringslite_Index⟩,⟨Go.Proofs.Tryz.call41,cmp_ok Go.Proofs.Tryz.bytealg_CompareString⟩,tl_all⟩
theorem tP_ok:TabOk Go.Proofs.Tryz.prog (lookT tP):=tabOk_of tP_all
def TLeD (T T':Tab):Prop:=∀ f x,T f=some x→T' f=some x∨∀ n args st,callN T n f args st=none
theorem callN_tabD {T T':Tab} (h:TLeD T T'):∀ n,Le (callN T n) (callN T' n)
 | 0=>fun _ _ _ _ q=>by simp [callN] at q
 | n+1=>fun f args st r q=>by
  have q0:=q
  obtain ⟨x,hx,hq⟩:=Option.bind_eq_some_iff.1 (show ((T f).bind _)=some r from q)
  rcases h f x hx with h1|h1
  ·refine Option.bind_eq_some_iff.2 ⟨x,h1,?_⟩
   cases x with
   | pf pf=>exact callBody_mono (callN_tabD h n) (itN_le (Nat.le_refl n)) hq
   | base o=>exact hq
  ·rw [h1 (n+1) args st] at q0;exact absurd q0 (by simp)
theorem S_tabD {T T':Tab} (h:TLeD T T'):Le (S T) (S T'):=fun f a st r q=>by
 obtain ⟨n,hn⟩:=S_iff.1 q
 exact S_iff.2 ⟨n,callN_tabD h n _ _ _ _ hn⟩
theorem noCs (n:Nat) (args:List AV) (st:St):callN (lookT tl) n F_internal_bytealg_abigen_runtime_cmpstring args st=none:=by
 cases n with
 | zero=>rfl
 | succ n =>
  show (((lookT tl) F_internal_bytealg_abigen_runtime_cmpstring).bind _)=none
  rw [show lookT tl F_internal_bytealg_abigen_runtime_cmpstring=none from rfl];rfl
theorem noCp (n:Nat) (args:List AV) (st:St):callN (lookT tl) n F_internal_bytealg_CompareString args st=none:=by
 cases n with
 | zero=>rfl
 | succ n =>
  show (((lookT tl) F_internal_bytealg_CompareString).bind _)=none
  rw [show (lookT tl) F_internal_bytealg_CompareString=some (.pf p_internal_bytealg_CompareString) from rfl]
  simp only [oS,entK,callBody,p_internal_bytealg_CompareString,p_internal_bytealg_CompareString_0,p_internal_bytealg_CompareString_1,Bool.false_eq_true,if_false,exec,runIs,wantedV,runW,evalI,evalPI,evalPO,runK,callV,oS,seqK,regK,Opd.get,callM,noCs,Option.bind_none]
theorem shAll_mono {T T':Tab} (h:Le (S T) (S T')):∀ {l:List (FuncId × (List AV→St→Option (AV × St)))},ShAll T l→ShAll T' l
 | [],_=>trivial
 | _::_,q=>⟨fun args st r hq=>h _ _ _ _ (q.1 args st r hq),shAll_mono h q.2⟩
theorem tle_cons {l:List (FuncId × Ent)} {f:FuncId} {x:Ent} (h:lookT l f=none):TLe (lookT l) (lookT ((f,x)::l)):=fun g y hg=>by
 simp only [lookT]
 rw [if_neg]
 ·exact hg
 ·intro e;subst e;rw [h] at hg;simp at hg
noncomputable def tC:List (FuncId × Ent):=(F_internal_bytealg_CompareString,.base cmpO)::tl
theorem leC:TLeD (lookT tl) (lookT tC):=fun f x hx=>by
 by_cases hf:f=F_internal_bytealg_CompareString
 ·subst hf;exact .inr noCp
 ·refine .inl ?_
  show (if F_internal_bytealg_CompareString=f then _ else lookT tl f)=_
  rw [if_neg (fun q=>hf q.symm)];exact hx
theorem leP:Le (S (lookT tl)) (S (lookT tP)):=fun f a st r h=>by
 have h1:=S_tabD leC _ _ _ _ h
 have h2:=S_tab (tle_cons (f:=F_internal_stringslite_Index) (x:=.base indexO) (l:=tC) (by kernel_rfl)) _ _ _ _ h1
 have h3:=S_tab (tle_cons (f:=F_strings_Join) (x:=.base joinO) (by kernel_rfl)) _ _ _ _ h2
 exact S_tab (tle_cons (f:=F_slice_Pieces) (x:=.base (rfO (lookT tl) p_slice_Pieces)) (by kernel_rfl)) _ _ _ _ h3
theorem shN2_all:ShAll Tb shN2:=⟨xNew_ok,xOf_ok,xHCheck_ok,xNCheck_ok,xNMeasure_ok,xBounds_ok,xCount_ok,trivial⟩
noncomputable def xPieces:List AV→St→Option (AV × St):=xRf (shLook shN2) (fLook tl) 60 p_slice_Pieces
noncomputable def shP:List (FuncId × (List AV→St→Option (AV × St))):=(F_slice_Pieces,xPieces)::shN2
theorem shP_all:ShAll (lookT tP) shP:=⟨fun args st r h=>S_base (o:=rfO (lookT tl) p_slice_Pieces) rfl (by
 unfold xPieces at h;rw [fLook_eq] at h
 exact xRf_ok (T:=lookT tl) (fun f x h=>(Tb_ok f x h).1) (shLook_ok shN2_all) h),shAll_mono leP shN2_all⟩
end Go.QZ
namespace Go.QZ
open Go Go.QAbs
set_option maxRecDepth 100000
theorem sliceNames_run:∃ st',S (lookT tP) F_quartolaw18_SliceNames [] .empty=some (.bool true,st'):=rx_true (l:=tP) (shLook_ok shP_all) 60 (by kernel_rfl)
end Go.QZ
