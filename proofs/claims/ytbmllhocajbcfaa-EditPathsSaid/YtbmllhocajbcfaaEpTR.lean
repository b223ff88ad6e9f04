/- A part of the proof: SSg, SSh, STb, SSi, SSj, SSk, STd, SPb, SPc, SPd, SQa, SQb, SQc, SQd, SQe, SSl, SQf, SQg, SQh, SSm, SSn, SM, STe, FYs, TYw. No condition. -/
import Derived.Test.YtbmllhocajbcfaaEpT7
set_option linter.unusedVariables false
set_option linter.unusedSimpArgs false
namespace Go.Q15
open Go Go.QAbs
set_option maxRecDepth 100000
set_option maxHeartbeats 16000000
theorem change_full {st:St} {la b:Nat} {r:AR} (hA:Has st la b r) (ho:AROk r) (hg:GoodN r.nodes) {rs:List Ro} (hrs:∀ r'∈rs,RtOk r.nodes r') (hl:rs.length≤3) {t:Tr} (hv:VE r.nodes t) (hb:t.bytes≤65536) {mk:FuncId} {caps:List AV}
 (hmk:∀ A L,A=st.ps→S Tb mk caps ⟨A,false,L⟩=some (.tup [t.av,.int .i64 0],⟨A,false,L⟩)) (hwk:forceL (weaks ([]++[]++caps))=some caps) (hn:r.n<nw t) :
 S Tb F_edit_change [.ptr la (b+5) 0 0 0,.func (.func mk) [] caps,.lit (rs.map Ro.av)] st=some (.tup [chZ,.int .i64 6],st):=by
 refine s_of rfl (fun A hA'=>?_)
 have hM:=fun L=>hmk A L hA'
 have hlp:=fun k Q hQ=>change_loop (A:=A) hg ho.lv ho.nz (fun L=>(hA.r.push hA' (ro:=false) (L:=L)).rd) hrs hl hv hb (b6:=.arr 7 0 [chZ]) (k:=k) (Q:=Q) hQ
 have hWr:=fun L=>Write_full (hA.push hA' (ro:=false) (L:=L)) ho hg hv hb hn
 unfold chL at hlp
 unfold chZ at *
 repeat' (first|refine is_callE rfl rfl hwk (hM _) ?_|refine hlp _ _ (fun G dv hD=>?_)|refine len1L rfl ?_|refine ru_seq ?_|refine ru_reg ?_|refine is_mv rfl ?_|refine is_ext rfl rfl ?_|refine is_nil rfl ?_|refine rk_seq ?_|(refine is_neq rfl rfl (fun _=>?_) (fun _=>?_)<;>try (exfalso;omega))|refine ru_iteF rfl ?_|refine is_buildO rfl rfl rfl ?_|refine is_box rfl rfl rfl ?_|refine is_stb rfl rfl rfl rfl rfl rfl ?_|refine is_mkmap rfl ?_|refine is_ldc rfl rfl rfl (tr_part _) ?_|refine is_stb rfl rfl rfl (tr_seal _ _ _) (tr_put _ _) rfl ?_|refine ru_skip ?_|refine ru_block ?_)
 all_goals try contradiction
 rcases hD with ⟨_,rfl⟩|⟨j,ver,rfl,_,_⟩
 ·repeat' (first|refine ru_seq ?_|refine ru_reg ?_|refine is_mv rfl ?_|refine is_fadr rfl rfl ?_|refine is_ext rfl rfl ?_|refine is_nil rfl ?_|refine rk_seq ?_|(refine is_neq rfl rfl (fun _=>?_) (fun _=>?_)<;>try (exfalso;omega))|refine ru_iteT rfl ?_|refine is_buildO rfl rfl rfl ?_|refine is_stn rfl rfl rfl rfl rfl rfl ?_|refine is_callE rfl rfl (by first|rfl|(simp only [lE,lN,lC,weaks,tr_weak,forceL];first|done|rfl)) (hWr _) ?_|refine ru_ret ?_|refine rk_nil ?_|refine rk_seq_ret ?_)
  all_goals try contradiction
  exact end_ch hA' (.inr rfl) rfl rfl rfl rfl rfl rfl
 ·repeat' (first|refine ru_seq ?_|refine ru_reg ?_|refine is_mv rfl ?_|refine is_fadr rfl rfl ?_|refine is_ext rfl rfl ?_|refine is_nil rfl ?_|refine rk_seq ?_|(refine is_neq rfl rfl (fun _=>?_) (fun _=>?_)<;>try (exfalso;omega))|refine ru_iteT rfl ?_|refine is_buildO rfl rfl rfl ?_|refine is_stn rfl rfl rfl rfl rfl rfl ?_|refine is_callE rfl rfl (by first|rfl|(simp only [lE,lN,lC,weaks,tr_weak,forceL];first|done|rfl)) (hWr _) ?_|refine ru_ret ?_|refine rk_nil ?_|refine rk_seq_ret ?_)
  all_goals try contradiction
  exact end_ch hA' (.inr rfl) rfl rfl rfl rfl rfl rfl
theorem change_c {st:St} {la b:Nat} {r:AR} (hA:Has st la b r) (ho:AROk r) (hg:GoodN r.nodes) {rs:List Ro} (hrs:∀ r'∈rs,RtOk r.nodes r') (hl:rs.length≤3) {t:Tr} (hv:VE r.nodes t) (hb:t.bytes≤65536) {mk:FuncId} {caps:List AV}
 (hmk:∀ A L,A=st.ps→S Tb mk caps ⟨A,false,L⟩=some (.tup [t.av,.int .i64 0],⟨A,false,L⟩)) (hwk:forceL (weaks ([]++[]++caps))=some caps) (hn:nw t≤r.n) :
 S Tb F_edit_change [.ptr la (b+5) 0 0 0,.func (.func mk) [] caps,.lit (rs.map Ro.av)] st=some (.tup [chAV (wrV t r).2.1 (wrV t r).2.2 (slH (drAll r.nodes rs t)),.int .i64 0],arSt st la b (wrV t r).1):=by
 refine s_ofW rfl (fun A hA'=>?_)
 have hM:=fun L=>hmk A L hA'
 have hlp:=fun k Q hQ=>change_loop (A:=A) hg ho.lv ho.nz (fun L=>(hA.r.push hA' (ro:=false) (L:=L)).rd) hrs hl hv hb (b6:=.arr 7 0 [chZ]) (k:=k) (Q:=Q) hQ
 have hle:=hA.le
 have hWr:=fun L=>Write_c (hA.push hA' (ro:=false) (L:=L)) ho hg hv hb hn
 simp only [arSt_push hA' hle] at hWr
 have hAl:A.length=((arSt st la b (wrV t r).1).ps).length:=by rw [hA'];simp [arSt_A]
 generalize (wrV t r).2.1=ro at *
 generalize (wrV t r).2.2=fr at *
 obtain ⟨A2,hA2⟩:∃ A2,A2=(arSt st la b (wrV t r).1).ps:=⟨_,rfl⟩
 rw [← hA2] at hWr hAl
 unfold chL at hlp
 unfold chZ at *
 repeat' (first|refine is_callE rfl rfl hwk (hM _) ?_|refine hlp _ _ (fun G dv hD=>?_)|refine len1L rfl ?_|refine ru_seq ?_|refine ru_reg ?_|refine is_mv rfl ?_|refine is_ext rfl rfl ?_|refine is_nil rfl ?_|refine rk_seq ?_|(refine is_neq rfl rfl (fun _=>?_) (fun _=>?_)<;>try (exfalso;omega))|refine ru_iteF rfl ?_|refine is_buildO rfl rfl rfl ?_|refine is_box rfl rfl rfl ?_|refine is_stb rfl rfl rfl rfl rfl rfl ?_|refine is_mkmap rfl ?_|refine is_ldc rfl rfl rfl (tr_part _) ?_|refine is_stb rfl rfl rfl (tr_seal _ _ _) (tr_put _ _) rfl ?_|refine ru_skip ?_|refine ru_block ?_)
 all_goals try contradiction
 obtain ⟨ra,rh,rm⟩:=ro
 unfold Ro.av at hWr
 rcases hD with ⟨e,rfl⟩|⟨j,ver,rfl,hne,hgd⟩
 ·rw [e]
  repeat' (first|refine is_mv rfl ?_|refine is_fadr rfl rfl ?_|refine is_ext rfl rfl ?_|refine is_callE rfl rfl (by first|rfl|(simp only [lE,lN,lC,weaks,tr_weak,forceL];first|done|rfl)) (hWr _) ?_)
  rw [hAl]
  repeat' (first|refine ru_seq ?_|refine ru_reg ?_|refine is_mv rfl ?_|refine is_fadr rfl rfl ?_|refine is_ldc rfl rfl rfl rfl ?_|refine is_nil rfl ?_|refine rk_seq ?_|(refine is_neq rfl rfl (fun _=>?_) (fun _=>?_)<;>try (exfalso;omega))|refine ru_iteF rfl ?_|refine is_stn rfl rfl rfl rfl rfl rfl ?_|refine ru_skip ?_|refine ru_ret ?_|refine rk_nil ?_)
  all_goals try contradiction
  exact end_ch (w:=chAV ⟨ra,rh,rm⟩ fr .nils) hA2 (.inr rfl) rfl rfl rfl rfl rfl rfl
 ·have hg3:∀ b0 b1 b2 b3:Blk,(b0::b1::b2::b3::G)[j+4]?=some (.arr 1 ver ((drAll r.nodes rs t).map hnAV)):=fun _ _ _ _=>hgd
  unfold slH
  rw [if_neg hne]
  generalize drAll r.nodes rs t=dd at *
  repeat' (first|refine is_mv rfl ?_|refine is_fadr rfl rfl ?_|refine is_ext rfl rfl ?_|refine is_callE rfl rfl (by first|rfl|(simp only [lE,lN,lC,weaks,tr_weak,forceL];first|done|rfl)) (hWr _) ?_)
  rw [hAl]
  repeat' (first|refine is_stn rfl rfl rfl rfl (seal_chR (ro:=⟨ra,rh,rm⟩) (fr:=fr) _ (Nat.lt_succ_self _)) rfl ?_|refine ru_seq ?_|refine ru_reg ?_|refine is_mv rfl ?_|refine is_fadr rfl rfl ?_|refine is_ldc rfl rfl rfl rfl ?_|refine is_nil rfl ?_|refine rk_seq ?_|(refine is_neq rfl rfl (fun _=>?_) (fun _=>?_)<;>try (exfalso;omega))|refine ru_iteF rfl ?_|refine is_stn rfl rfl rfl rfl rfl rfl ?_|refine ru_skip ?_|refine ru_ret ?_|refine rk_nil ?_)
  all_goals try contradiction
  exact end_ch (v:=chAV ⟨ra,rh,rm⟩ fr (.ref A2.length (j+4) ver 0 dd.length)) (w:=chAV ⟨ra,rh,rm⟩ fr (.lit (dd.map hnAV))) hA2 (.inr rfl) rfl rfl rfl rfl rfl (seal_chE (hg3 _ _ _ _) rfl)
end Go.Q15
namespace Go.Q15
open Go Go.QAbs
set_option maxRecDepth 100000
set_option maxHeartbeats 16000000
noncomputable def edV (N:Nodes) (ro:Ro) (a n:Int) (s:List UInt8):Tr:=(replM N (keepT ro) a n s).own
structure EdOk (N:Nodes) (ro:Ro) (s0:List UInt8) (a n:Int) (s:List UInt8):Prop where
 rt:Rt N ro s0
 a0:0≤a
 n0:0≤n
 le:a+n≤s0.length
 b1:s0.length≤60000
 b2:s.length≤2000
theorem EdOk.ok {N:Nodes} (hN:GoodN N) {ro:Ro} {s0:List UInt8} {a n:Int} {s:List UInt8} (h:EdOk N ro s0 a n s) :
 VE N (edV N ro a n s)∧(edV N ro a n s).bytes=s0.length-n+s.length∧(edV N ro a n s).txt N=s0.take a.toNat++s++s0.drop (a+n).toNat:=by
 obtain ⟨hk,htx⟩:=h.rt.keep
 have hb:=(h.rt.b hN).1
 have h1:=h.a0
 have h2:=h.n0
 have h3:=h.le
 have h4:=h.b1
 have h5:=h.b2
 have:=replM_ok hN (s:=s) hk h1 h2 (by omega) (by omega) (by omega)
 refine ⟨own_ve this.ve,?_,?_⟩
 ·show (Tr.own _).bytes=_;rw [own_bytes,this.bytes,hb]
 ·show (Tr.own _).txt N=_;rw [own_txt,this.txt,htx]
theorem edPlan_c {st:St} {la b:Nat} {N:Nodes} (hN:GoodN N) (hR:Rd st la (b+5) N) {ro:Ro} {s0:List UInt8} {a n:Int} {s:List UInt8} (h:EdOk N ro s0 a n s) :
 S Tb F_edit_Plan [.ptr la (b+5) 0 0 0,ro.av,.int .i64 a,.int .i64 n,.str s] st=some (.tup [(edV N ro a n s).av,.int .i64 0],st):=by
 refine s_of rfl (fun A hA=>?_)
 have hRA:=fun L=>hR.push hA (ro:=false) (L:=L)
 have hKp:=fun L=>Keep_rt (hRA L) h.rt.rt
 obtain ⟨hk,htx⟩:=h.rt.keep
 have hb:=(h.rt.b hN).1
 have h1:=h.a0
 have h2:=h.n0
 have h3:=h.le
 have h4:=h.b1
 have h5:=h.b2
 have hRp:=fun L=>Replace_c hN (hRA L) hk (a:=a) (n:=n) (s:=s) h1 h2 (by omega) (by omega) (by omega)
 unfold edV
 generalize (replM N (keepT ro) a n s).own=t at *
 generalize keepT ro=kt at *
 obtain ⟨ra,rh,rm⟩:=ro
 unfold Ro.av at *
 repeat' (first|refine is_callE rfl rfl wkPTIIS (hRp _) ?_|refine ru_seq ?_|refine ru_reg ?_|refine is_mv rfl ?_|refine is_ldc rfl rfl rfl rfl ?_|refine is_ext rfl rfl ?_|refine is_nil rfl ?_|refine rk_seq ?_|(refine is_neq rfl rfl (fun _=>?_) (fun _=>?_)<;>try (exfalso;omega))|refine ru_iteF rfl ?_|refine is_box rfl rfl rfl ?_|refine is_callE rfl rfl (by first|rfl|(simp only [lE,lN,lC,weaks,tr_weak,forceL];first|done|rfl)) (hKp _) ?_|refine is_ldc rfl rfl rfl (tr_part _) ?_|refine is_stb rfl rfl rfl (tr_seal _ _ _) (tr_put _ _) rfl ?_|refine ru_skip ?_|refine ru_ret ?_|refine rk_nil ?_)
 all_goals try contradiction
 all_goals try (exfalso;omega)
 exact end_tr1 hA (.inr rfl) rfl rfl rfl rfl
theorem Needs_c {st:St} {la b:Nat} {N:Nodes} (hN:GoodN N) (hR:Rd st la (b+5) N) {ro:Ro} {s0:List UInt8} {a n:Int} {s:List UInt8} (h:EdOk N ro s0 a n s) :
 S Tb F_edit_Needs [.ptr la (b+5) 0 0 0,ro.av,.int .i64 a,.int .i64 n,.str s] st=some (.tup [.int .i64 (nw (edV N ro a n s)),.int .i64 0],st):=by
 refine s_of rfl (fun A hA=>?_)
 have hPl:=fun L=>edPlan_c hN (hR.push hA (ro:=false) (L:=L)) h
 obtain ⟨hv,hvb,_⟩:=h.ok hN
 have h2:=h.n0
 have h4:=h.b1
 have h5:=h.b2
 have hNw:=fun st=>New_ve hN hv (by omega) st
 generalize edV N ro a n s=t at *
 obtain ⟨ra,rh,rm⟩:=ro
 unfold Ro.av at *
 repeat' (first|refine is_callE rfl rfl (wk1 _) (hNw _) ?_|refine ru_seq ?_|refine ru_reg ?_|refine is_mv rfl ?_|refine is_ldc rfl rfl rfl rfl ?_|refine is_ext rfl rfl ?_|refine is_nil rfl ?_|refine rk_seq ?_|(refine is_neq rfl rfl (fun _=>?_) (fun _=>?_)<;>try (exfalso;omega))|refine ru_iteF rfl ?_|refine is_box rfl rfl rfl ?_|refine is_callE rfl rfl (by first|rfl|(simp only [lE,lN,lC,weaks,tr_weak,forceL];first|done|rfl)) (hPl _) ?_|refine is_ldc rfl rfl rfl (tr_part _) ?_|refine is_stb rfl rfl rfl (tr_seal _ _ _) (tr_put _ _) rfl ?_|refine ru_skip ?_|refine ru_ret ?_|refine rk_nil ?_)
 all_goals try contradiction
 all_goals try (exfalso;omega)
 refine end_st hA (by first|exact .inl rfl|exact .inr rfl) rfl rfl rfl rfl ?_
 rfl
theorem replC1_c {st:St} {la b lv:Nat} {N:Nodes} (hN:GoodN N) (hR:Rd st la (b+5) N) {ro:Ro} {s0:List UInt8} {a n:Int} {s:List UInt8} (h:EdOk N ro s0 a n s)
 (g0:st.get lv 0=some (.arr 1 0 [.ptr la (b+5) 0 0 0])) (g1:st.get lv 1=some (.arr 5 0 [ro.av])) (g2:st.get lv 2=some (.arr 1 0 [.int .i64 a])) (g3:st.get lv 3=some (.arr 1 0 [.int .i64 n])) (g4:st.get lv 4=some (.arr 1 0 [.str s])) :
 S Tb F_edit_ReplaceC1 [.ptr lv 0 0 0 0,.ptr lv 1 0 0 0,.ptr lv 2 0 0 0,.ptr lv 3 0 0 0,.ptr lv 4 0 0 0] st=some (.tup [(edV N ro a n s).av,.int .i64 0],st):=by
 refine s_of rfl (fun A hA=>?_)
 have hPl:=fun L=>edPlan_c hN (hR.push hA (ro:=false) (L:=L)) h
 have k0:=fun L=>get_old hA (ro:=false) (L:=L) g0
 have k1:=fun L=>get_old hA (ro:=false) (L:=L) g1
 have k2:=fun L=>get_old hA (ro:=false) (L:=L) g2
 have k3:=fun L=>get_old hA (ro:=false) (L:=L) g3
 have k4:=fun L=>get_old hA (ro:=false) (L:=L) g4
 generalize edV N ro a n s=t at *
 repeat' (first|refine is_ld rfl (k0 _) rfl rfl ?_|refine is_ld rfl (k1 _) rfl (ro_part _) ?_|refine is_ld rfl (k2 _) rfl rfl ?_|refine is_ld rfl (k3 _) rfl rfl ?_|refine is_ld rfl (k4 _) rfl rfl ?_|refine ru_seq ?_|refine ru_reg ?_|refine is_mv rfl ?_|refine is_ext rfl rfl ?_|refine is_nil rfl ?_|refine rk_seq ?_|refine is_box rfl rfl rfl ?_|refine is_callE rfl rfl (by first|rfl|(simp only [lE,lN,lC,weaks,tr_weak,forceL];first|done|rfl)) (hPl _) ?_|refine is_stb rfl rfl rfl (tr_seal _ _ _) (tr_put _ _) rfl ?_|refine ru_ret ?_|refine rk_nil ?_)
 all_goals try contradiction
 exact end_tr1 hA (.inr rfl) rfl rfl rfl rfl
theorem eReplace_c {st:St} {la b:Nat} {r:AR} (hA:Has st la b r) (ho:AROk r) (hg:GoodN r.nodes) {ro:Ro} {s0:List UInt8} {a n:Int} {s:List UInt8} (h:EdOk r.nodes ro s0 a n s) (hn:nw (edV r.nodes ro a n s)≤r.n) :
 S Tb F_edit_Replace [.ptr la (b+5) 0 0 0,ro.av,.int .i64 a,.int .i64 n,.str s] st=some (.tup [chAV (wrV (edV r.nodes ro a n s) r).2.1 (wrV (edV r.nodes ro a n s) r).2.2 (slH (drAll r.nodes [ro] (edV r.nodes ro a n s))),.int .i64 0],arSt st la b (wrV (edV r.nodes ro a n s) r).1):=by
 refine s_ofW rfl (fun A hA'=>?_)
 have hle:=hA.le
 obtain ⟨hv,hvb,_⟩:=h.ok hg
 have h1:=h.n0
 have h4:=h.b1
 have h5:=h.b2
 have hCh:=change_c (st:=⟨A,false,[.arr 1 0 [.ptr la (b+5) 0 0 0],.arr 5 0 [ro.av],.arr 1 0 [.int .i64 a],.arr 1 0 [.int .i64 n],.arr 1 0 [.str s],.arr 7 0 [chZ]]⟩) (hA.push hA') ho hg (rs:=[ro]) (fun z hz=>by rw [List.mem_singleton] at hz;rw [hz];exact h.rt.rt) (by simp) hv (by omega) (mk:=F_edit_ReplaceC1) (caps:=[.ptr A.length 0 0 0 0,.ptr A.length 1 0 0 0,.ptr A.length 2 0 0 0,.ptr A.length 3 0 0 0,.ptr A.length 4 0 0 0])
  (fun A2 L h2=>replC1_c hg ((hA.push hA').r.rd.push h2) h (get_old h2 (St.get_cur ..)) (get_old h2 (St.get_cur ..)) (get_old h2 (St.get_cur ..)) (get_old h2 (St.get_cur ..)) (get_old h2 (St.get_cur ..))) rfl hn
 rw [arSt_push hA' hle] at hCh
 have hAl:A.length=((arSt st la b (wrV (edV r.nodes ro a n s) r).1).ps).length:=by rw [hA'];simp [arSt_A]
 generalize (wrV (edV r.nodes ro a n s) r).2.1=r2 at *
 generalize (wrV (edV r.nodes ro a n s) r).2.2=fr at *
 generalize drAll r.nodes [ro] (edV r.nodes ro a n s)=dd at *
 obtain ⟨A2,hA2⟩:∃ A2,A2=(arSt st la b (wrV (edV r.nodes ro a n s) r).1).ps:=⟨_,rfl⟩
 rw [← hA2] at hCh hAl
 simp only [List.map_cons,List.map_nil] at hCh
 obtain ⟨x1,x2,x3⟩:=r2
 unfold chZ at hCh
 unfold Ro.av at hCh ⊢
 by_cases hd:dd=[]
 ·subst hd
  rw [show slH []=.nils from rfl] at hCh ⊢
  unfold chAV at hCh
  repeat' (first|refine ru_seq ?_|refine ru_reg ?_|refine is_mv rfl ?_|refine is_ldc rfl rfl rfl rfl ?_|refine is_ext rfl rfl ?_|refine is_nil rfl ?_|refine rk_seq ?_|refine is_mkf rfl rfl ?_|refine is_box rfl rfl rfl ?_|refine is_bslFO rfl rfl rfl rfl ?_|refine is_callE rfl rfl rfl (hCh) ?_)
  rw [hAl]
  repeat' (first|refine is_mv rfl ?_|refine is_nil rfl ?_|refine rk_seq ?_|refine is_stb rfl rfl rfl rfl rfl rfl ?_|refine ru_ret ?_|refine rk_nil ?_)
  all_goals try contradiction
  exact end_ch (w:=chAV ⟨x1,x2,x3⟩ fr .nils) hA2 (.inr rfl) rfl rfl rfl rfl rfl rfl
 ·rw [show slH dd=.lit (dd.map hnAV) from if_neg hd] at hCh ⊢
  unfold chAV at hCh
  repeat' (first|refine ru_seq ?_|refine ru_reg ?_|refine is_mv rfl ?_|refine is_ldc rfl rfl rfl rfl ?_|refine is_ext rfl rfl ?_|refine is_nil rfl ?_|refine rk_seq ?_|refine is_mkf rfl rfl ?_|refine is_box rfl rfl rfl ?_|refine is_bslFO rfl rfl rfl rfl ?_|refine is_callE rfl rfl rfl (hCh) ?_)
  rw [hAl]
  repeat' (first|refine is_mv rfl ?_|refine is_nil rfl ?_|refine rk_seq ?_|refine is_stb rfl rfl rfl rfl rfl rfl ?_|refine ru_ret ?_|refine rk_nil ?_)
  all_goals try contradiction
  exact end_ch (w:=chAV ⟨x1,x2,x3⟩ fr (.lit (dd.map hnAV))) hA2 (.inr rfl) rfl rfl rfl rfl rfl rfl
end Go.Q15
namespace Go.Q15
open Go Go.QAbs
set_option maxRecDepth 100000
set_option maxHeartbeats 1000000
def sumW:Nat→(Nat→Nat)→Nat
 | 0,_=>0
 | n+1,f=>sumW n f+f n
theorem sumW_le {f g:Nat→Nat}:∀ K,(∀ j,j<K→f j≤g j)→sumW K f≤sumW K g
 | 0,_=>Nat.le_refl _
 | K+1,h=>by
  have h1:=sumW_le K (fun j hj=>h j (by omega))
  have h2:=h K (by omega)
  rw [sumW,sumW];omega
theorem sumW_add (f g:Nat→Nat):∀ K,sumW K (fun j=>f j+g j)=sumW K f+sumW K g
 | 0=>rfl
 | K+1=>by rw [sumW,sumW,sumW,sumW_add f g K];omega
theorem sumW_zero:∀ K,sumW K (fun _=>0)=0
 | 0=>rfl
 | K+1=>by rw [sumW,sumW_zero K]
theorem sumW_congr {f g:Nat→Nat} (h:∀ j,f j=g j) (K:Nat):sumW K f=sumW K g:=by
 rw [show f=g from funext h]
theorem sumW_off {f:Nat→Nat} {i:Nat} (hf:∀ j,j≠i→f j=0):∀ K,K≤i→sumW K f=0
 | 0,_=>rfl
 | K+1,h=>by rw [sumW,sumW_off hf K (by omega),hf K (by omega)]
theorem sumW_pt {f:Nat→Nat} {i:Nat} (hf:∀ j,j≠i→f j=0):∀ K,i<K→sumW K f=f i
 | 0,h=>by omega
 | K+1,h=>by
  rw [sumW]
  rcases Nat.eq_or_lt_of_le (Nat.lt_succ_iff.1 h) with q|q
  ·rw [← q,sumW_off hf i (Nat.le_refl _)];omega
  ·rw [sumW_pt hf K q,hf K (by omega)];omega
theorem cnt_sum {N:Nodes} {t:Tr} (hv:Val N t):∀ K,t.h<K→t.cnt=sumW K (fun j=>t.wat j):=by
 induction hv with
 | @kept o h m k x h0 hx hok hh hm hk =>
  intro K _
  rw [Tr.cnt,Tr.cntO_getD,hk,if_neg h0,sumW_congr (g:=fun _=>0) (fun j=>by rw [Tr.wat,Tr.watO_getD,hk,hdW_kept h0];rfl),sumW_zero];rfl
 | @leaf s k h1 h2 hk =>
  intro K hK
  simp only [Tr.h] at hK
  rw [Tr.cnt,Tr.cntO_getD,hk,sumW_congr (g:=hdW 0 0 s) (fun j=>by rw [Tr.wat,Tr.watO_getD,hk];simp only [Tr.watL,Nat.add_zero]),sumW_pt (i:=0) (fun j hj=>(hdW_le _ _ _ _).2 (by omega)) K hK]
  have hs:s≠[]:=by rintro rfl;simp at h1
  simp [hdW,Tr.cntL,hs]
 | @inner h l hh h2 h4 hl hb hv ih =>
  intro K hK
  simp only [Tr.h] at hK
  have hL:∀ l':List Tr,(∀ t∈l',t∈l)→Tr.cntL l'=sumW K (fun j=>Tr.watL j l'):=by
   intro l'
   induction l' with
   | nil=>intro _;rw [Tr.cntL];simp only [Tr.watL];rw [sumW_zero]
   | cons a r ih2 =>
    intro hm
    rw [Tr.cntL,ih a (hm a (by simp)) K (by rw [hl a (hm a (by simp))];omega),ih2 (fun t ht=>hm t (by simp [ht]))]
    simp only [Tr.watL]
    rw [sumW_add]
  rw [Tr.cnt,Tr.cntO,hL l (fun t ht=>ht)]
  simp only [Tr.wat,Tr.watO]
  rw [sumW_add,sumW_pt (f:=fun j=>hdW 0 (h+1) [] j) (i:=h+1) (fun j hj=>(hdW_le _ _ _ _).2 (by omega)) K hK]
  simp [hdW]
theorem nw_sum {N:Nodes} {t:Tr} (hv:VE N t) {K:Nat} (hK:t.h<K):nw t=sumW K (fun j=>t.wat j):=by
 rcases hv with h|h
 ·rw [nw_empty h,sumW_congr (g:=fun _=>0) (fun j=>wat_empty h j),sumW_zero]
 ·rw [nw_val h,cnt_sum h K hK]
mutual
theorem wat_own (j:Nat):∀ t:Tr,t.own.wat j=t.wat j
 | .mk o h m s k=>by rw [Tr.own,Tr.wat,Tr.wat,watO_own j k]
theorem watO_own (j:Nat):∀ k,Tr.watO j (Tr.ownO k)=Tr.watO j k
 | none=>by rw [Tr.ownO,Tr.watO,Tr.watO,Tr.watL]
 | some l=>by rw [Tr.ownO,Tr.watO,Tr.watO,watL_own j l]
theorem watL_own (j:Nat):∀ l,Tr.watL j (Tr.ownL l)=Tr.watL j l
 | []=>by rw [Tr.ownL]
 | t::l=>by rw [Tr.ownL,Tr.watL,Tr.watL,wat_own j t,watL_own j l]
end
theorem gW_sum:∀ h<17,∀ b<4,sumW (max h b+3) (gW h b)≤12*(h+2):=by decide
theorem rowUp_len {row:List Tr} (h:1≤row.length):(rowUp row).length=(row.length-1) / 4+1:=by
 have hlen:(rowUp row).length=(groupsI row.length 4).toNat:=by unfold rowUp;simp
 have hg4:groupsI row.length 4=((row.length:Int)-1) / 4+1:=rfl
 omega
theorem buildR_h {N:Nodes} (hN:GoodN N):∀ (n:Nat) (row:List Tr) (h:Nat) (s:List UInt8) (k:Nat),Row N row h s→row.length≤n+1→s.length≤65536→row.length≤4 ^ k→(grp (buildR n row)).h≤h+k
 | 0,row,h,s,k,hr,hl,hs,hk=>by
  rw [buildR]
  match row,hl,hr with
  | [],_,_=>simp [grp,Tr.zero,Tr.h]
  | [t],_,hr=>have:=(hr.val t (by simp)).2;simp only [grp];omega
 | n+1,row,h,s,k,hr,hl,hs,hk=>by
  rw [buildR]
  split
  ·rename_i h1
   match row,h1,hr with
   | [],_,_=>simp [grp,Tr.zero,Tr.h]
   | [t],_,hr=>have:=(hr.val t (by simp)).2;simp only [grp];omega
  ·rename_i h2
   have hh:h+1≤16:=by
    match row,h2,hr with
    | t::r,h2,hr =>
     have h1:=(hr.val t (by simp))
     have h3:=txt_len hN h1.1
     have h4:(t.txt N).length≤s.length:=by rw [← hr.txt,Tr.txtL,lL];omega
     have:=h1.1.height hN (by omega)
     omega
    | [],h2,_=>simp at h2
   obtain ⟨a,b,c⟩:=rowUp_ok hr (by omega) hh
   cases k with
   | zero=>simp at hk;omega
   | succ k =>
    have hlen:=rowUp_len (row:=row) (by omega)
    rw [Nat.pow_succ] at hk
    have:=buildR_h hN n (rowUp row) (h+1) s k a (by omega) hs (by omega)
    omega
theorem buildM_h {N:Nodes} (hN:GoodN N) {s:List UInt8} (hs:s.length≤1024):(buildM s).h≤3:=by
 obtain ⟨a,b,c⟩:=leafRow_ok (N:=N) s
 have hl:((chunksL s).map leafT).length≤64:=by
  unfold chunksL
  split
  ·simp
  ·have hg:groupsI s.length 16=((s.length:Int)-1) / 16+1:=rfl
   simp only [List.length_map,List.length_range]
   omega
 have:=buildR_h hN s.length _ 0 s 3 a (by omega) (by omega) (by omega)
 unfold buildM;omega
theorem keepT_wat {N:Nodes} {ro:Ro} (h:RtOk N ro) (j:Nat):(keepT ro).wat j=0∧(keepT ro).h=ro.h:=by
 unfold keepT
 rcases h with rfl|⟨h0,x,h1,h2,h3,h4⟩
 ·rw [if_pos (by rfl)];exact ⟨wat_zero j,rfl⟩
 ·rw [if_neg h0]
  exact ⟨by rw [Tr.keep,Tr.wat,hdW_kept h0];rfl,rfl⟩
theorem own_hh (t:Tr):t.own.h=t.h:=by obtain ⟨o,h,m,s,k⟩:=t;rfl
theorem edV_nw {N:Nodes} (hN:GoodN N) {ro:Ro} {s0:List UInt8} {a n:Int} {s:List UInt8} (h:EdOk N ro s0 a n s) (hs:s.length≤1024):nw (edV N ro a n s)≤12*(ro.h+2)+nw (buildM s):=by
 obtain ⟨hv,_,_⟩:=h.ok hN
 obtain ⟨hk,htx⟩:=h.rt.keep
 have hb:=(h.rt.b hN).1
 have h1:=h.a0
 have h2:=h.n0
 have h3:=h.le
 have h4:=h.b1
 have h5:=h.b2
 have h13:=h.rt.rt.h13 hN
 have hw:=fun j=>(keepT_wat h.rt.rt j).1
 have he:(keepT ro).h=ro.h:=(keepT_wat h.rt.rt 0).2
 have hR:=fun j=>replM_wat hN j (s:=s) hk hw h1 h2 (by omega) (by omega) (by omega)
 have hB:=(buildM_ok hN (s:=s) (by omega)).1
 have hBh:=buildM_h hN hs
 have hE:(edV N ro a n s).h<max ro.h (buildM s).h+3:=by
  unfold edV
  rw [own_hh]
  have:=(hR 0).2
  rw [he] at this;omega
 rw [nw_sum hv hE,nw_sum hB (K:=max ro.h (buildM s).h+3) (by omega)]
 have hg:=gW_sum ro.h (by omega) (buildM s).h (by omega)
 have hle:=sumW_le (f:=fun j=>(edV N ro a n s).wat j) (g:=fun j=>(buildM s).wat j+gW ro.h (buildM s).h j) (max ro.h (buildM s).h+3) (fun j _=>by
  unfold edV
  rw [wat_own]
  have:=(hR j).1
  rw [he] at this;exact this)
 rw [sumW_add] at hle
 omega
end Go.Q15
namespace Go.Q15
open Go Go.QAbs
set_option maxRecDepth 100000
set_option maxHeartbeats 16000000
end Go.Q15
namespace Go.Q15
open Go Go.QAbs
set_option maxRecDepth 100000
set_option maxHeartbeats 16000000
theorem eReplace_full {st:St} {la b:Nat} {r:AR} (hA:Has st la b r) (ho:AROk r) (hg:GoodN r.nodes) {ro:Ro} {s0:List UInt8} {a n:Int} {s:List UInt8} (h:EdOk r.nodes ro s0 a n s) (hn:r.n<nw (edV r.nodes ro a n s)) :
 S Tb F_edit_Replace [.ptr la (b+5) 0 0 0,ro.av,.int .i64 a,.int .i64 n,.str s] st=some (.tup [chZ,.int .i64 6],st):=by
 refine s_of rfl (fun A hA'=>?_)
 have hle:=hA.le
 obtain ⟨hv,hvb,_⟩:=h.ok hg
 have h1:=h.n0
 have h4:=h.b1
 have h5:=h.b2
 have hCh:=change_full (st:=⟨A,false,[.arr 1 0 [.ptr la (b+5) 0 0 0],.arr 5 0 [ro.av],.arr 1 0 [.int .i64 a],.arr 1 0 [.int .i64 n],.arr 1 0 [.str s],.arr 7 0 [chZ]]⟩) (hA.push hA') ho hg (rs:=[ro]) (fun z hz=>by rw [List.mem_singleton] at hz;rw [hz];exact h.rt.rt) (by simp) hv (by omega) (mk:=F_edit_ReplaceC1) (caps:=[.ptr A.length 0 0 0 0,.ptr A.length 1 0 0 0,.ptr A.length 2 0 0 0,.ptr A.length 3 0 0 0,.ptr A.length 4 0 0 0])
  (fun A2 L h2=>replC1_c hg ((hA.push hA').r.rd.push h2) h (get_old h2 (St.get_cur ..)) (get_old h2 (St.get_cur ..)) (get_old h2 (St.get_cur ..)) (get_old h2 (St.get_cur ..)) (get_old h2 (St.get_cur ..))) rfl hn
 simp only [List.map_cons,List.map_nil] at hCh
 unfold chZ at hCh ⊢
 unfold Ro.av at hCh ⊢
 repeat' (first|refine ru_seq ?_|refine ru_reg ?_|refine is_mv rfl ?_|refine is_ldc rfl rfl rfl rfl ?_|refine is_ext rfl rfl ?_|refine is_nil rfl ?_|refine rk_seq ?_|refine is_mkf rfl rfl ?_|refine is_box rfl rfl rfl ?_|refine is_stb rfl rfl rfl rfl rfl rfl ?_|refine is_bslFO rfl rfl rfl rfl ?_|refine is_callE rfl rfl rfl (hCh) ?_|refine ru_ret ?_|refine rk_nil ?_)
 all_goals try contradiction
 exact end_ch (w:=chZ) hA' (.inr rfl) rfl rfl rfl rfl rfl rfl
end Go.Q15
namespace Go.Q15
open Go Go.QAbs
set_option maxRecDepth 100000
set_option maxHeartbeats 16000000
theorem EqualHandles_c (w:List Nat) (hl:w.length<9223372036854775808) (st:St):S Tb F_quartokit_EqualHandles [.lit (w.map hnAV),.lit (w.map hnAV)] st=some (.bool true,st):=by
 refine s_of rfl (fun A hA=>?_)
 repeat' (first|refine len1L rfl ?_|refine ru_seq ?_|refine ru_reg ?_|refine is_mv rfl ?_|refine is_nil rfl ?_|refine rk_seq ?_|(refine is_neq rfl rfl (fun _=>?_) (fun _=>?_)<;>try (exfalso;omega))|refine ru_iteF rfl ?_|refine ru_skip ?_|refine ru_block ?_)
 all_goals try contradiction
 refine ru_loopP (α:=Nat) (fun i=>[(0,.lit (w.map hnAV)),(1,.lit (w.map hnAV)),(5,.int .i64 i)]) (fun i=>⟨A,false,[]⟩) (fun i=>i≤w.length) (fun i=>w.length-i) 0 rfl rfl (Nat.zero_le _) ?_
 intro i hi
 replace hi:i≤w.length:=hi
 rcases Nat.lt_or_ge i w.length with hlt|hge
 ·obtain ⟨k,hk⟩:∃ k,w[i]?=some k:=⟨w[i]'hlt,List.getElem?_eq_getElem _⟩
  have q:0≤((i:Nat):Int)∧w[((i:Nat):Int).toNat]?=some k:=⟨by omega,by rw [show ((i:Nat):Int).toNat=i by omega];exact hk⟩
  repeat' (first|refine len1L rfl ?_|refine is_ixKn (f:=hnAV) rfl rfl q (fun _=>rfl) ?_|refine ru_seq ?_|refine ru_reg ?_|refine is_mv rfl ?_|refine is_nil rfl ?_|refine rk_seq ?_|refine is_ldl rfl rfl ?_|(refine is_lss rfl rfl (fun _=>?_) (fun _=>?_)<;>try (exfalso;omega))|(refine is_neq rfl rfl (fun _=>?_) (fun _=>?_)<;>try (exfalso;omega))|refine ru_iteT rfl ?_|refine ru_iteF rfl ?_|refine is_addS rfl rfl (by omega) ?_|refine ru_skip ?_|refine ru_block ?_|refine rk_blk ?_|refine rk_inv ?_)
  all_goals try contradiction
  all_goals try (exfalso;omega)
  all_goals first|exact absurd rfl ‹_›|exact ⟨i+1,⟨rfl,rfl⟩,by omega,by omega⟩
 ·obtain rfl:i=w.length:=by omega
  repeat' (first|refine len1L rfl ?_|refine ru_seq ?_|refine ru_reg ?_|refine is_mv rfl ?_|refine is_nil rfl ?_|refine rk_seq ?_|(refine is_lss rfl rfl (fun _=>?_) (fun _=>?_)<;>try (exfalso;omega))|refine ru_iteF rfl ?_|refine ru_ret ?_|refine ru_exit ?_|refine rk_nil ?_|refine rk_seq_ex ?_|refine rk_blk_eq rfl ?_|refine rk_inv_ex ?_)
  all_goals try (exfalso;omega)
  refine end_st hA (by first|exact .inl rfl|exact .inr rfl) rfl rfl rfl rfl ?_
  rfl
structure Op where
 at_:Int
 num:Int
 text:List UInt8
def Op.av (y:Op):AV:=.agg [.int .i64 y.at_,.int .i64 y.num,.str y.text]
def wideP (l:List Op):Prop:=∃ s∈l,300<s.text.length
noncomputable instance (l:List Op):Decidable (wideP l):=Classical.propDecidable _
end Go.Q15
namespace Go.Q15
open Go Go.QAbs
set_option maxRecDepth 100000
set_option maxHeartbeats 16000000
def hOf (r:AR) (s:Nat):Nat:=((r.gens[s]?).getD 0).toNat*65536+s
def handlesL (r:AR):List Nat:=(slotsL r.states 1).map (hOf r)
theorem slotsL_mem {l:List Int} {z:Int} {s:Nat} (h:s∈slotsL l z):s<l.length∧l[s]?=some z:=by
 unfold slotsL slotsTo at h
 rw [List.mem_filter,List.mem_range] at h
 exact ⟨h.1,by simpa using h.2⟩
theorem fHandles_c {st:St} {lv b:Nat} {r:AR} (h:HasR st lv b r) (ho:AROk r):S Tb F_freelist_List_Handles [.ptr lv (b+3) 0 0 0] st=some (.lit ((handlesL r).map hnAV),st):=by
 refine s_of rfl (fun A hA=>?_)
 have g3:=fun L=>get_old hA (ro:=false) (L:=L) h.h3
 have g2:=fun L=>get_old hA (ro:=false) (L:=L) h.h2
 unfold AR.b3 at g3
 unfold AR.b2 at g2
 have hw2:∀ L,wIs 1 0 (St.get ⟨A,false,L⟩ lv (b+2))=true:=fun L=>by rw [g2];rfl
 have hsl:=fun L=>slots_c (h.push hA (ro:=false) (L:=L)) ho.n16 1
 have hmem:=fun s hs=>slotsL_mem (l:=r.states) (z:=1) (s:=s) hs
 have hlen:(slotsL r.states 1).length≤16384:=by have:=slotsTo_len r.states 1 r.states.length;have:=ho.n16;unfold slotsL;omega
 have hn16:=ho.n16
 have hgl:=ho.gl
 unfold handlesL
 generalize slotsL r.states 1=l at *
 repeat' (first|refine len1L rfl ?_|refine ru_seq ?_|refine ru_reg ?_|refine is_mv rfl ?_|refine is_nil rfl ?_|refine rk_seq ?_|refine is_onil rfl ?_|refine is_callE rfl rfl rfl (hsl _) ?_|refine ru_block ?_)
 refine ru_loopP (α:=Nat) (fun i=>[(0,.ptr lv (b+3) 0 0 0),(3,.ref A.length 0 i 0 i),(9,.lit (l.map natAV)),(10,.int .i64 l.length),(11,.int .i64 i)]) (fun i=>⟨A,false,[.arr 1 i (((l.take i).map (hOf r)).map hnAV)]⟩) (fun i=>i≤l.length) (fun i=>l.length-i) 0 rfl rfl (Nat.zero_le _) ?_
 intro i hi
 replace hi:i≤l.length:=hi
 rcases Nat.lt_or_ge i l.length with hlt|hge
 ·obtain ⟨s,hs⟩:∃ x,l[i]?=some x:=⟨l[i]'hlt,by simp [hlt]⟩
  obtain ⟨m1,m2⟩:=hmem s (List.mem_of_getElem? hs)
  obtain ⟨g,g1',g2',g3'⟩:=ho.gen s m1
  have q:0≤((i:Nat):Int)∧l[((i:Nat):Int).toNat]?=some s:=⟨by omega,by rw [show ((i:Nat):Int).toNat=i by omega];exact hs⟩
  have q1:(r.gens.map (.int .u64))[0+((s:Nat):Int).toNat]?=some (AV.int .u64 g):=by
   rw [show 0+((s:Nat):Int).toNat=s by omega,List.getElem?_map,g1'];rfl
  have hMk:=fun st=>Make_ok s g (by omega) ⟨by omega,by have:=ho.most;omega⟩ st
  have hl2:(((l.take i).map (hOf r)).map hnAV).length+[AV.int .u64 ((g*65536+s:Nat):Int)].length<4294967296:=by simp;omega
  have hl3:i=(((l.take i).map (hOf r)).map hnAV).length:=by simp;omega
  have hlt2:((s:Nat):Int)<r.gens.length:=by omega
  repeat' (first|refine is_ixKn (f:=natAV) rfl rfl q (fun _=>rfl) ?_|refine is_ld rfl (g3 _) rfl rfl ?_|refine is_ixR rfl rfl (by omega) (hw2 _) ?_|refine is_ld rfl (g2 _) q1 rfl ?_|refine is_appG rfl rfl rfl hl3 rfl rfl hl2 (by decide) ?_|refine ru_seq ?_|refine ru_reg ?_|refine is_mv rfl ?_|refine is_fadr rfl rfl ?_|refine is_ext rfl rfl ?_|refine is_nil rfl ?_|refine rk_seq ?_|refine is_nilck rfl rfl ?_|refine is_ldl rfl rfl ?_|(refine is_lss rfl rfl (fun _=>?_) (fun _=>?_)<;>try (exfalso;omega))|refine ru_iteT rfl ?_|refine is_addS rfl rfl (by omega) ?_|refine is_bslFO rfl rfl rfl rfl ?_|refine is_callE rfl rfl rfl (hMk _) ?_|refine ru_skip ?_|refine ru_block ?_|refine rk_blk ?_|refine rk_inv ?_)
  all_goals try contradiction
  all_goals try (exfalso;omega)
  refine ⟨i+1,⟨?_,?_⟩,by omega,by omega⟩
  ·rfl
  ·have e:hOf r s=g*65536+s:=by unfold hOf;rw [g1'];simp
   rw [List.take_add_one,hs,List.map_append,List.map_append,← e]
   rfl
 ·obtain rfl:i=l.length:=by omega
  repeat' (first|refine ru_seq ?_|refine ru_reg ?_|refine is_mv rfl ?_|refine is_nil rfl ?_|refine rk_seq ?_|(refine is_lss rfl rfl (fun _=>?_) (fun _=>?_)<;>try (exfalso;omega))|refine ru_iteF rfl ?_|refine ru_ret ?_|refine ru_exit ?_|refine rk_nil ?_|refine rk_seq_ex ?_|refine rk_blk_eq rfl ?_|refine rk_inv_ex ?_)
  all_goals try (exfalso;omega)
  refine end_ref (es:=(l.map (hOf r)).map hnAV) hA (.inr rfl) rfl (by rw [List.take_length];rfl) (by simp) (by intro v hv;obtain ⟨x,_,rfl⟩:=List.mem_map.1 hv;rfl) ?_
  rfl
theorem aHandles_c {st:St} {lv b:Nat} {r:AR} (h:HasR st lv b r) (ho:AROk r):S Tb F_arena_Arena_Handles [.ptr lv (b+5) 0 0 0] st=some (.lit ((handlesL r).map hnAV),st):=by
 refine s_of rfl (fun A hA=>?_)
 have g5:=fun L=>get_old hA (ro:=false) (L:=L) h.h5
 unfold AR.b5 at g5
 have hF:=fun L=>fHandles_c (h.push hA (ro:=false) (L:=L)) ho
 repeat' (first|refine is_ld rfl (g5 _) rfl rfl ?_|refine ru_seq ?_|refine ru_reg ?_|refine is_mv rfl ?_|refine is_fadr rfl rfl ?_|refine is_nil rfl ?_|refine rk_seq ?_|refine is_nilck rfl rfl ?_|refine ru_iteF rfl ?_|refine is_eqs rfl rfl rfl rfl ?_|refine is_callE rfl rfl rfl (hF _) ?_|refine ru_skip ?_|refine ru_ret ?_|refine rk_nil ?_)
 all_goals try contradiction
 refine end_st hA (by first|exact .inl rfl|exact .inr rfl) rfl rfl rfl rfl ?_
 rfl
theorem rtNew_full {st:St} {la b:Nat} {r:AR} (hA:Has st la b r) (ho:AROk r) (hg:GoodN r.nodes) (s:List UInt8) (hs:s.length≤65536) (hn:r.n<nw (buildM s)) :
 S Tb F_rope_New [.ptr la (b+5) 0 0 0,.str s] st=some (.tup [Ro.zero.av,.int .i64 6],st):=by
 obtain ⟨b1,b2,b3⟩:=buildM_ok hg hs
 refine s_ofW rfl (fun A hA'=>?_)
 have hB:=fun L=>Build_c hg s hs ⟨A,false,L⟩
 have hle:=hA.le
 have hW:=fun L=>Write_full (st:=⟨A,false,L⟩) (hA.push hA') ho hg b1 (by rw [b3];omega) hn
 repeat' (first|refine is_callE rfl rfl (wkPT0 rfl _) (hW _) ?_|refine is_stn rfl rfl rfl rfl rfl rfl ?_|refine is_ldc rfl rfl rfl rfl ?_|refine ru_seq ?_|refine ru_reg ?_|refine is_mv rfl ?_|refine is_ext rfl rfl ?_|refine is_nil rfl ?_|refine rk_seq ?_|(refine is_neq rfl rfl (fun _=>?_) (fun _=>?_)<;>try (exfalso;omega))|refine ru_iteF rfl ?_|refine is_eqs rfl rfl rfl rfl ?_|refine is_box rfl rfl rfl ?_|refine is_ldc rfl rfl rfl (tr_part _) ?_|refine is_stb rfl rfl rfl (tr_seal _ _ _) (tr_put _ _) rfl ?_|refine is_callE rfl rfl (by first|rfl|(simp only [lE,lN,lC,weaks,tr_weak,forceL];first|done|rfl)) (hB _) ?_|refine ru_skip ?_|refine ru_ret ?_|refine rk_nil ?_)
 all_goals try contradiction
 all_goals try (exfalso;omega)
 exact end_ro (ro:=.zero) hA' (.inr rfl) rfl rfl rfl
end Go.Q15
namespace Go.Q15
open Go Go.QAbs
set_option maxRecDepth 100000
set_option maxHeartbeats 8000000
end Go.Q15
namespace Go.Q15
open Go Go.QAbs
set_option maxRecDepth 100000
set_option maxHeartbeats 8000000
end Go.Q15
namespace Go.Q15
open Go Go.QAbs
set_option maxRecDepth 100000
set_option maxHeartbeats 8000000
end Go.Q15
namespace Go.Q15
open Go Go.QAbs
set_option maxRecDepth 100000
set_option maxHeartbeats 8000000
end Go.Q15
namespace Go.Q15
open Go Go.QAbs
set_option maxRecDepth 100000
set_option maxHeartbeats 8000000
theorem RtOk.nz {N:Nodes} {r:Ro} (h:RtOk N r) (hb:0<r.m.b):r.at_≠0∧∃ x,lk N r.at_=some x∧NdOk x∧x.h=r.h∧x.mea=r.m:=by
 rcases h with rfl|w
 ·simp [Ro.zero,Mea.zero] at hb
 ·exact w
theorem RtOk.mb {N:Nodes} (hN:GoodN N) {r:Ro} (h:RtOk N r):0≤r.m.b:=by
 rcases h with rfl|⟨h0,x,h1,h2,h3,h4⟩
 ·simp [Ro.zero,Mea.zero]
 ·rw [← h4,← textH_mea hN _ _ x h1 rfl];simp [meaT]
end Go.Q15
namespace Go.Q15
open Go Go.QAbs
set_option maxRecDepth 100000
set_option maxHeartbeats 8000000
theorem count_le_take {p:UInt8→Bool} {s:List UInt8} {i j:Nat} (h:i≤j):(s.take i).countP p≤(s.take j).countP p:=by
 have:s.take i=(s.take j).take i:=by rw [List.take_take,Nat.min_eq_left h]
 rw [this]
 exact List.Sublist.countP_le (List.take_sublist ..)
theorem count_take_succ {p:UInt8→Bool} {s:List UInt8} {i:Nat} {c:UInt8} (h:s[i]?=some c):(s.take (i+1)).countP p=(s.take i).countP p+if p c=true then 1 else 0:=by
 rw [take_succ_get h,List.countP_append,List.countP_singleton]
structure NthB (p:UInt8→Bool) (s:List UInt8) (n:Nat) (i:Nat) (c:UInt8):Prop where
 get:s[i]?=some c
 is:p c=true
 cnt:(s.take i).countP p=n
theorem NthB.inner {p:UInt8→Bool} {pre leaf post:List UInt8} {n i:Nat} {c:UInt8} (h:NthB p (pre++leaf++post) n i c) (h1:pre.countP p≤n) (h2:n<(pre++leaf).countP p) :
 ∃ i',i=pre.length+i'∧NthB p leaf (n-pre.countP p) i' c:=by
 obtain ⟨g,g2,g3⟩:=h
 have hs:=count_take_succ (p:=p) g
 rw [if_pos g2,g3] at hs
 have a1:pre.length≤i:=by
  rcases Nat.lt_or_ge i pre.length with q|q
  ·have:=count_le_take (p:=p) (s:=pre++leaf++post) (i:=i+1) (j:=pre.length) (by omega)
   rw [hs,List.append_assoc,List.take_left] at this
   omega
  ·exact q
 have a2:i<pre.length+leaf.length:=by
  rcases Nat.lt_or_ge i (pre.length+leaf.length) with q|q
  ·exact q
  ·have:=count_le_take (p:=p) (s:=pre++leaf++post) (i:=(pre++leaf).length) (j:=i) (by rw [lL];omega)
   rw [g3,List.take_left] at this
   omega
 obtain ⟨i',rfl⟩:∃ i',i=pre.length+i':=⟨i-pre.length,by omega⟩
 have e:(pre++leaf++post).take (pre.length+i')=pre++leaf.take i':=by
  rw [List.append_assoc,List.take_length_add_append,List.take_append_of_le_length (by omega)]
 refine ⟨i',rfl,?_,g2,?_⟩
 ·rw [List.append_assoc,List.getElem?_append_right (by omega),List.getElem?_append_left (by omega)] at g
  rw [show pre.length+i'-pre.length=i' by omega] at g
  exact g
 ·rw [e,List.countP_append] at g3;omega
end Go.Q15
namespace Go.Q15
open Go Go.QAbs
set_option maxRecDepth 100000
set_option maxHeartbeats 8000000
end Go.Q15
namespace Go.Q15
open Go Go.QAbs
set_option maxRecDepth 100000
set_option maxHeartbeats 8000000
end Go.Q15
namespace Go.Q15
open Go Go.QAbs
set_option maxRecDepth 100000
set_option maxHeartbeats 16000000
def exU:List UInt8:=[97,98,99,100,101,102,103,104,105,106,107,108,109,110,111,112,113]
theorem exU_build:buildM exU=.mk 0 1 .zero [] (some [leafT [97,98,99,100,101,102,103,104,105],leafT [106,107,108,109,110,111,112,113]]):=by
 rfl
noncomputable def exUR:AR:=(wrV (buildM exU) (newAR 8 4)).1
theorem exU_ro:(wrV (buildM exU) (newAR 8 4)).2.1=⟨65538,1,⟨17,17,0⟩⟩:=by
 rw [exU_build];rfl
theorem exU_nw:nw (buildM exU)=3:=by rw [exU_build];rfl
theorem exU_n:exUR.n=5:=by unfold exUR;rw [exU_build];rfl
theorem exU_ed:nw (edV exUR.nodes ⟨65538,1,⟨17,17,0⟩⟩ 9 0 [120,121,122])≤5:=by
 unfold exUR;rw [exU_build]
 decide +kernel
def exURo:Ro:=⟨65538,1,⟨17,17,0⟩⟩
theorem small19_c (A:List (Bool × List Blk)):S Tb F_quartolaw19_small [] ⟨A,false,[]⟩=some (.tup [.ptr A.length 6 0 0 0,exURo.av,.bool true],⟨A,false,[.arr 5 0 [exURo.av]]++(arB A.length 1 exUR++[.arr 5 0 [exURo.av]])⟩):=by
 have hN:=arNew_c 8 4 (by omega) (by omega) A [.arr 5 0 [Ro.zero.av]]
 have h1:=rtNew_c (has_cur A [.arr 5 0 [Ro.zero.av]] [] (newAR 8 4)) (newAR_ok 8 4 (by omega) (by omega)) good_nil exU (by decide) (by rw [exU_nw];decide)
 rw [arSt_cur,exU_ro] at h1
 change S Tb F_rope_New [.ptr A.length 6 0 0 0,.str exU] ⟨A,false,_⟩=some (_,⟨A,false,[.arr 5 0 [Ro.zero.av]]++(arB A.length 1 exUR++[])⟩) at h1
 refine s_keep rfl ?_
 repeat' (first|refine ru_seq ?_|refine ru_reg ?_|refine is_mv rfl ?_|refine is_gT rfl ?_|refine is_pick rfl rfl rfl rfl ?_|refine is_ext rfl rfl ?_|refine is_nil rfl ?_|refine rk_seq ?_|(refine is_neq rfl rfl (fun _=>?_) (fun _=>?_)<;>try (exfalso;omega))|refine ru_iteF rfl ?_|refine is_eqs rfl rfl rfl rfl ?_|refine is_box rfl rfl rfl ?_|refine is_callE rfl rfl rfl (hN) ?_|refine ru_skip ?_)
 all_goals try contradiction
 all_goals try (exfalso;omega)
 unfold exU at h1
 refine is_callE rfl rfl rfl h1 ?_
 change Is _ _ _ _ _ _ ⟨A,false,[.arr 5 0 [Ro.zero.av],exUR.b0,exUR.b1,exUR.b2,exUR.b3 A.length 1,exUR.b4,exUR.b5 A.length 1]⟩
 generalize hb0:exUR.b0=b0 at *
 generalize hb1:exUR.b1=b1 at *
 generalize hb2:exUR.b2=b2 at *
 generalize hb3:exUR.b3 A.length 1=b3 at *
 generalize hb4:exUR.b4=b4 at *
 generalize hb5:exUR.b5 A.length 1=b5 at *
 repeat' (first|refine is_hideLd rfl rfl rfl rfl rfl rfl ?_|refine is_plainSt rfl rfl rfl rfl rfl rfl rfl ?_|refine ru_seq ?_|refine ru_reg ?_|refine is_mv rfl ?_|refine is_fadr rfl rfl ?_|refine is_ldc rfl rfl rfl rfl ?_|refine is_gT rfl ?_|refine is_pick rfl rfl rfl rfl ?_|refine is_ext rfl rfl ?_|refine is_nil rfl ?_|refine rk_seq ?_|(refine is_eql rfl rfl (fun _=>?_) (fun _=>?_)<;>try (exfalso;omega))|refine is_box rfl rfl rfl ?_|refine is_stb rfl rfl rfl rfl rfl rfl ?_|refine ru_ret ?_|refine rk_nil ?_)
 all_goals first|exact absurd rfl ‹_›|(refine (end_kc (.inr rfl) rfl rfl rfl rfl rfl).trans ?_;subst hb0 hb1 hb2 hb3 hb4 hb5;rfl)
theorem exU_ok:AROk exUR∧GoodN exUR.nodes∧Rt exUR.nodes exURo exU:=by
 obtain ⟨b1,b2,b3⟩:=buildM_ok good_nil (s:=exU) (by decide)
 have ho:=newAR_ok 8 4 (by omega) (by omega)
 obtain ⟨w1,w2⟩:=wr_rt (r:=newAR 8 4) (has_cur [] [] [] _) ho good_nil b1 (by rw [b3];decide) (by rw [exU_nw];decide)
 rw [show (newAR 8 4).nodes=[] from rfl,b2,exU_ro] at w2
 exact ⟨w1.ok,w1.good,w2⟩
theorem exU_edOk:EdOk exUR.nodes exURo exU 9 0 [120,121,122]:=⟨exU_ok.2.2,by decide,by decide,by decide,by decide,by decide⟩
theorem exU_ed5:nw (edV exUR.nodes exURo 9 0 [120,121,122])≤exUR.n:=by rw [exU_n];exact exU_ed
theorem Insert_c {st:St} {la b:Nat} {r:AR} (hA:Has st la b r) (ho:AROk r) (hg:GoodN r.nodes) {ro:Ro} {s0:List UInt8} {a:Int} {s:List UInt8} (h:EdOk r.nodes ro s0 a 0 s) (hn:nw (edV r.nodes ro a 0 s)≤r.n) :
 S Tb F_edit_Insert [.ptr la (b+5) 0 0 0,ro.av,.int .i64 a,.str s] st=some (.tup [chAV (wrV (edV r.nodes ro a 0 s) r).2.1 (wrV (edV r.nodes ro a 0 s) r).2.2 (slH (drAll r.nodes [ro] (edV r.nodes ro a 0 s))),.int .i64 0],arSt st la b (wrV (edV r.nodes ro a 0 s) r).1):=by
 refine s_ofW rfl (fun A hA'=>?_)
 have hle:=hA.le
 have hCh:=fun L=>eReplace_c (hA.push hA' (ro:=false) (L:=L)) ho hg h hn
 simp only [arSt_push hA' hle] at hCh
 have hAl:A.length=((arSt st la b (wrV (edV r.nodes ro a 0 s) r).1).ps).length:=by rw [hA'];simp [arSt_A]
 generalize (wrV (edV r.nodes ro a 0 s) r).2.1=r2 at *
 generalize (wrV (edV r.nodes ro a 0 s) r).2.2=fr at *
 generalize drAll r.nodes [ro] (edV r.nodes ro a 0 s)=dd at *
 obtain ⟨A2,hA2⟩:∃ A2,A2=(arSt st la b (wrV (edV r.nodes ro a 0 s) r).1).ps:=⟨_,rfl⟩
 rw [← hA2] at hCh hAl
 obtain ⟨x1,x2,x3⟩:=r2
 unfold Ro.av at hCh ⊢
 by_cases hd:dd=[]
 ·subst hd
  rw [show slH []=.nils from rfl] at hCh ⊢
  unfold chAV at hCh
  repeat' (first|refine ru_seq ?_|refine ru_reg ?_|refine is_mv rfl ?_|refine is_ldc rfl rfl rfl rfl ?_|refine is_ext rfl rfl ?_|refine is_nil rfl ?_|refine rk_seq ?_|refine is_box rfl rfl rfl ?_|refine is_callE rfl rfl rfl (hCh _) ?_)
  rw [hAl]
  repeat' (first|refine is_mv rfl ?_|refine is_nil rfl ?_|refine rk_seq ?_|refine is_stb rfl rfl rfl rfl rfl rfl ?_|refine ru_ret ?_|refine rk_nil ?_)
  all_goals try contradiction
  exact end_ch (w:=chAV ⟨x1,x2,x3⟩ fr .nils) hA2 (.inr rfl) rfl rfl rfl rfl rfl rfl
 ·rw [show slH dd=.lit (dd.map hnAV) from if_neg hd] at hCh ⊢
  unfold chAV at hCh
  repeat' (first|refine ru_seq ?_|refine ru_reg ?_|refine is_mv rfl ?_|refine is_ldc rfl rfl rfl rfl ?_|refine is_ext rfl rfl ?_|refine is_nil rfl ?_|refine rk_seq ?_|refine is_box rfl rfl rfl ?_|refine is_callE rfl rfl rfl (hCh _) ?_)
  rw [hAl]
  repeat' (first|refine is_mv rfl ?_|refine is_nil rfl ?_|refine rk_seq ?_|refine is_stb rfl rfl rfl rfl rfl rfl ?_|refine ru_ret ?_|refine rk_nil ?_)
  all_goals try contradiction
  exact end_ch (w:=chAV ⟨x1,x2,x3⟩ fr (.lit (dd.map hnAV))) hA2 (.inr rfl) rfl rfl rfl rfl rfl rfl
theorem works19_c (st:St):S T3 F_quartolaw19_works [] st=some (.bool true,st):=by
 refine s_of (le3 F_quartolaw19_works (.pf p_quartolaw19_works) rfl) (fun A hA=>?_)
 obtain ⟨o1,o2,o3⟩:=exU_ok
 have hS:=up3 (small19_c A)
 obtain ⟨v1,v2,v3⟩:=exU_edOk.ok o2
 obtain ⟨w1,w2⟩:=wr_rt (r:=exUR) (has_cur [] [] [] _) o1 o2 v1 (by rw [v2];decide) exU_ed5
 rw [v3] at w2
 have hI:=fun T=>up3 (Insert_c (has_cur A [.arr 5 0 [exURo.av]] T exUR) o1 o2 exU_edOk exU_ed5)
 simp only [arSt_cur] at hI
 generalize edV exUR.nodes exURo 9 0 [120,121,122]=t at *
 generalize drAll exUR.nodes [exURo] t=dd at *
 have hT:=fun T=>rtText_c w1.good (has_cur A [.arr 5 0 [exURo.av]] T (wrV t exUR).1).r.rd w2.rt (by rw [w2.leaves w1.good];decide)
 rw [w2.leaves w1.good] at hT
 generalize (wrV t exUR).2.2=fr at *
 generalize (wrV t exUR).2.1=r2 at *
 generalize (wrV t exUR).1=R2 at *
 change ∀ T,S T3 F_rope_Text [.ptr A.length 6 0 0 0,r2.av] ⟨A,false,.arr 5 0 [exURo.av]::R2.b0::R2.b1::R2.b2::R2.b3 A.length 1::R2.b4::R2.b5 A.length 1::T⟩=some (_,⟨A,false,.arr 5 0 [exURo.av]::R2.b0::R2.b1::R2.b2::R2.b3 A.length 1::R2.b4::R2.b5 A.length 1::T⟩) at hT
 change ∀ T,S T3 F_edit_Insert [.ptr A.length 6 0 0 0,exURo.av,.int .i64 9,.str [120,121,122]] ⟨A,false,.arr 5 0 [exURo.av]::exUR.b0::exUR.b1::exUR.b2::exUR.b3 A.length 1::exUR.b4::exUR.b5 A.length 1::T⟩=some (_,⟨A,false,.arr 5 0 [exURo.av]::R2.b0::R2.b1::R2.b2::R2.b3 A.length 1::R2.b4::R2.b5 A.length 1::T⟩) at hI
 change S T3 F_quartolaw19_small [] ⟨A,false,[]⟩=some (_,⟨A,false,.arr 5 0 [exURo.av]::exUR.b0::exUR.b1::exUR.b2::exUR.b3 A.length 1::exUR.b4::exUR.b5 A.length 1::[.arr 5 0 [exURo.av]]⟩) at hS
 generalize exUR.b0=b0 at *
 generalize exUR.b1=b1 at *
 generalize exUR.b2=b2 at *
 generalize exUR.b3 A.length 1=b3 at *
 generalize exUR.b4=b4 at *
 generalize exUR.b5 A.length 1=b5 at *
 generalize R2.b0=c0 at *
 generalize R2.b1=c1 at *
 generalize R2.b2=c2 at *
 generalize R2.b3 A.length 1=c3 at *
 generalize R2.b4=c4 at *
 generalize R2.b5 A.length 1=c5 at *
 obtain ⟨x1,x2,x3⟩:=r2
 unfold chAV at hI
 unfold exURo Ro.av at *
 unfold exU at hT
 by_cases hd:dd=[]
 ·subst hd
  rw [show slH []=.nils from rfl] at hI
  repeat' (first|refine ru_seq ?_|refine ru_reg ?_|refine is_mv rfl ?_|refine is_fadr rfl rfl ?_|refine is_ldc rfl rfl rfl rfl ?_|refine is_gT rfl ?_|refine is_pick rfl rfl rfl rfl ?_|refine is_ext rfl rfl ?_|refine is_nil rfl ?_|refine rk_seq ?_|(refine is_eql rfl rfl (fun _=>?_) (fun _=>?_)<;>try (exfalso;omega))|(refine is_eqlS rfl rfl (fun _=>?_) (fun _=>?_)<;>try contradiction)|refine ru_iteF rfl ?_|refine is_not rfl rfl ?_|refine is_box rfl rfl rfl ?_|refine is_stb rfl rfl rfl rfl rfl rfl ?_|refine is_callE rfl rfl rfl (hS) ?_|refine is_callE rfl rfl rfl (hI _) ?_|refine is_callE rfl rfl rfl (hT _) ?_|refine ru_skip ?_|refine ru_ret ?_|refine rk_nil ?_)
  all_goals try contradiction
  all_goals try (exfalso;omega)
  all_goals try exact absurd rfl ‹_›
  refine end_st hA (by first|exact .inl rfl|exact .inr rfl) rfl rfl rfl rfl ?_
  rfl
 ·rw [show slH dd=.lit (dd.map hnAV) from if_neg hd] at hI
  repeat' (first|refine ru_seq ?_|refine ru_reg ?_|refine is_mv rfl ?_|refine is_fadr rfl rfl ?_|refine is_ldc rfl rfl rfl rfl ?_|refine is_gT rfl ?_|refine is_pick rfl rfl rfl rfl ?_|refine is_ext rfl rfl ?_|refine is_nil rfl ?_|refine rk_seq ?_|(refine is_eql rfl rfl (fun _=>?_) (fun _=>?_)<;>try (exfalso;omega))|(refine is_eqlS rfl rfl (fun _=>?_) (fun _=>?_)<;>try contradiction)|refine ru_iteF rfl ?_|refine is_not rfl rfl ?_|refine is_box rfl rfl rfl ?_|refine is_stb rfl rfl rfl rfl rfl rfl ?_|refine is_callE rfl rfl rfl (hS) ?_|refine is_callE rfl rfl rfl (hI _) ?_|refine is_callE rfl rfl rfl (hT _) ?_|refine ru_skip ?_|refine ru_ret ?_|refine rk_nil ?_)
  all_goals try contradiction
  all_goals try (exfalso;omega)
  all_goals try exact absurd rfl ‹_›
  refine end_st hA (by first|exact .inl rfl|exact .inr rfl) rfl rfl rfl rfl ?_
  rfl
end Go.Q15
namespace Go.Q15
open Go Go.QAbs
set_option maxRecDepth 100000
set_option maxHeartbeats 16000000
def beyondP (texts:List (List UInt8)) (ys:List Ed):Prop:=longP texts∨manyQ ys∨12<ys.length
noncomputable instance (texts:List (List UInt8)) (ys:List Ed):Decidable (beyondP texts ys):=Classical.propDecidable _
theorem Pick_c (x n:Int) (h0:0≤n) (h1:n<4611686018427387904) (st:St):S Tb F_quartolaw16_Pick [.int .i64 x,.int .i64 n] st=some (.int .i64 (pickM x n),st):=by
 refine s_of rfl (fun A hA=>?_)
 have hP:=fun st=>pick_c x n h0 h1 st
 repeat' (first|refine ru_seq ?_|refine ru_reg ?_|refine is_mv rfl ?_|refine is_nil rfl ?_|refine rk_seq ?_|refine is_callE rfl rfl rfl (hP _) ?_|refine ru_ret ?_|refine rk_nil ?_)
 refine end_st hA (by first|exact .inl rfl|exact .inr rfl) rfl rfl rfl rfl ?_
 rfl
end Go.Q15
namespace Go.Q15
open Go Go.QAbs
set_option maxRecDepth 100000
set_option maxHeartbeats 16000000
end Go.Q15
namespace Go.Q15
open Go Go.QAbs
set_option maxRecDepth 100000
set_option maxHeartbeats 16000000
end Go.Q15
namespace Go.Q15
open Go Go.QAbs
set_option maxRecDepth 100000
set_option maxHeartbeats 16000000
end Go.Q15
namespace Go.Q15
open Go Go.QAbs
set_option maxRecDepth 100000
set_option maxHeartbeats 16000000
end Go.Q15
namespace Go.Q15
open Go Go.QAbs
set_option maxRecDepth 100000
set_option maxHeartbeats 16000000
end Go.Q15
namespace Go.Q15
open Go Go.QAbs
set_option maxRecDepth 100000
set_option maxHeartbeats 32000000
def uL (op:Blk) (n:Nat) (r:AR) (T:List Blk):List Blk:=op::r.b0::r.b1::r.b2::r.b3 n 1::r.b4::r.b5 n 1::T
theorem u_has {A:List (Bool × List Blk)} (op:Blk) (r:AR) (T:List Blk):Has ⟨A,false,uL op A.length r T⟩ A.length 1 r:=has_cur A [op] T r
theorem u_set {A:List (Bool × List Blk)} (op:Blk) (r r':AR) (T:List Blk):arSt ⟨A,false,uL op A.length r T⟩ A.length 1 r'=⟨A,false,uL op A.length r' T⟩:=arSt_cur A [op] T r r'
theorem EqualChZ_c (st:St):S Tb F_quartokit_EqualChange [chZ,chZ] st=some (.bool true,st):=by
 refine s_of rfl (fun A hA=>?_)
 have hN:=fun st=>EqualHandles_c [] (by decide) st
 simp only [List.map_nil] at hN
 have hq:eqV [(0,0),(1,0),(2,0),(3,0),(4,0)] 0 (.agg [.int .u64 0,.int .i64 0,.int .i64 0,.int .i64 0,.int .i64 0]) (.agg [.int .u64 0,.int .i64 0,.int .i64 0,.int .i64 0,.int .i64 0])=some true:=rfl
 unfold chZ
 repeat' (first|refine is_eqs rfl rfl hq rfl ?_|refine ru_seq ?_|refine ru_reg ?_|refine is_mv rfl ?_|refine is_fadr rfl rfl ?_|refine is_ldc rfl rfl rfl rfl ?_|refine is_gT rfl ?_|refine is_pick rfl rfl rfl rfl ?_|refine is_nil rfl ?_|refine rk_seq ?_|refine is_box rfl rfl rfl ?_|refine is_callE rfl rfl rfl (hN _) ?_|refine ru_ret ?_|refine rk_nil ?_)
 all_goals try contradiction
 all_goals refine end_st hA (by first|exact .inl rfl|exact .inr rfl) rfl rfl rfl rfl ?_
 all_goals rfl
theorem nw_le_bytes {N:Nodes} (hN:GoodN N) {t:Tr} (hv:VE N t):(nw t:Int)≤t.bytes:=by
 rcases hv with h|h
 ·rw [nw_empty h,h.bytes];omega
 ·rw [nw_val h];exact (cnt_le hN h).1
theorem EditPaths_c (slots:Int) (text:List UInt8) (y:Op) (ht:text.length<9223372036854775808) (hy:y.text.length<9223372036854775808) (st:St) :
 S T3 F_quartolaw19_EditPaths [.int .i64 slots,.str text,y.av] st=some (.bool true,st):=by
 refine s_of (le3 F_quartolaw19_EditPaths (.pf p_quartolaw19_EditPaths) rfl) (fun A hA=>?_)
 have hWk:=fun st=>works19_c st
 by_cases hg:slots<1∨300<slots∨600<text.length∨300<y.text.length
 ·unfold Op.av
  repeat' (first|refine ru_seq ?_|refine ru_reg ?_|refine is_mv rfl ?_|refine is_fadr rfl rfl ?_|refine is_ldc rfl rfl rfl rfl ?_|refine is_gT rfl ?_|refine is_gF rfl rfl ?_|refine is_pick rfl rfl rfl rfl ?_|refine is_nil rfl ?_|refine rk_seq ?_|refine is_lenS rfl ?_|(refine is_lss rfl rfl (fun _=>?_) (fun _=>?_)<;>try (exfalso;omega))|(refine is_gtr rfl rfl (fun _=>?_) (fun _=>?_)<;>try (exfalso;omega))|refine ru_iteT rfl ?_|refine is_box rfl rfl rfl ?_|refine is_callE rfl rfl rfl (hWk _) ?_|refine ru_ret ?_|refine rk_nil ?_|refine rk_seq_ret ?_)
  all_goals try contradiction
  all_goals try (exfalso;omega)
  all_goals refine end_st hA (by first|exact .inl rfl|exact .inr rfl) rfl rfl rfl rfl ?_
  all_goals rfl
 obtain ⟨g1,g2,g3,g4⟩:1≤slots∧slots≤300∧text.length≤600∧y.text.length≤300:=by omega
 clear hg
 obtain ⟨n,rfl⟩:∃ n:Nat,slots=n:=⟨slots.toNat,by omega⟩
 unfold Op.av
 have ho:=newAR_ok n 2 (by omega) (by omega)
 have hNew:S T3 F_arena_New [.int .i64 n,.int .u64 2] ⟨A,false,[.arr 3 0 [.agg [.int .i64 y.at_,.int .i64 y.num,.str y.text]]]⟩=some (.tup [.ptr A.length 6 0 0 0,.int .i64 0],⟨A,false,uL (.arr 3 0 [.agg [.int .i64 y.at_,.int .i64 y.num,.str y.text]]) A.length (newAR n 2) []⟩):=up3 (arNew_c n 2 (by omega) (by omega) A [.arr 3 0 [.agg [.int .i64 y.at_,.int .i64 y.num,.str y.text]]])
 obtain ⟨b1,b2,b3⟩:=buildM_ok good_nil (s:=text) (by omega)
 rcases Nat.lt_or_ge (newAR n 2).n (nw (buildM text)) with hfull|hroom
 ·have hF:=up3 (rtNew_full (u_has (A:=A) (.arr 3 0 [.agg [.int .i64 y.at_,.int .i64 y.num,.str y.text]]) (newAR n 2) []) ho good_nil text (by omega) hfull)
  clear hfull ho b1 b2 b3
  generalize newAR n 2=r at *
  repeat' (first|refine ru_seq ?_|refine ru_reg ?_|refine is_mv rfl ?_|refine is_fadr rfl rfl ?_|refine is_ldc rfl rfl rfl rfl ?_|refine is_gT rfl ?_|refine is_pick rfl rfl rfl rfl ?_|refine is_ext rfl rfl ?_|refine is_nil rfl ?_|refine rk_seq ?_|refine is_lenS rfl ?_|(refine is_lss rfl rfl (fun _=>?_) (fun _=>?_)<;>try (exfalso;omega))|(refine is_gtr rfl rfl (fun _=>?_) (fun _=>?_)<;>try (exfalso;omega))|(refine is_eql rfl rfl (fun _=>?_) (fun _=>?_)<;>try (exfalso;omega))|(refine is_neq rfl rfl (fun _=>?_) (fun _=>?_)<;>try (exfalso;omega))|refine ru_iteT rfl ?_|refine ru_iteF rfl ?_|refine is_eqs rfl rfl rfl rfl ?_|refine is_box rfl rfl rfl ?_|refine is_stb rfl rfl rfl rfl rfl rfl ?_|refine is_callE rfl rfl rfl (hNew) ?_|refine is_callE rfl rfl rfl (hF) ?_|refine is_callE rfl rfl rfl (hWk _) ?_|refine ru_skip ?_|refine ru_ret ?_|refine rk_nil ?_|refine rk_seq_ret ?_)
  all_goals try contradiction
  all_goals try (exfalso;omega)
  all_goals refine end_st hA (by first|exact .inl rfl|exact .inr rfl) rfl rfl rfl rfl ?_
  all_goals rfl
 have hNR:=up3 (rtNew_c (u_has (A:=A) (.arr 3 0 [.agg [.int .i64 y.at_,.int .i64 y.num,.str y.text]]) (newAR n 2) []) ho good_nil text (by omega) hroom)
 rw [u_set] at hNR
 obtain ⟨w1,w2⟩:=wr_rt (r:=newAR n 2) (has_cur [] [] [] _) ho good_nil b1 (by rw [b3];omega) hroom
 have b2':Tr.txt (newAR n 2).nodes (buildM text)=text:=b2
 rw [b2'] at w2
 clear b2'
 have o1:=w1.ok
 have o2:=w1.good
 clear w1 hroom ho b1 b2 b3
 generalize (wrV (buildM text) (newAR n 2)).1=r1 at *
 generalize (wrV (buildM text) (newAR n 2)).2.1=ro at *
 generalize newAR n 2=r0 at *
 have p1:=pickM_bounds (x:=y.at_) (n:=(text.length:Int)) (by omega)
 have hPa:=fun st=>up3 (Pick_c y.at_ text.length (by omega) (by omega) st)
 generalize pickM y.at_ text.length=a at *
 have p2:=pickM_bounds (x:=y.num) (n:=(text.length:Int)-a) (by omega)
 have hPm:=fun st=>up3 (Pick_c y.num ((text.length:Int)-a) (by omega) (by omega) st)
 generalize pickM y.num ((text.length:Int)-a)=m at *
 have hE:EdOk r1.nodes ro text a m y.text:=⟨w2,p1.1,p2.1,by omega,by omega,by omega⟩
 have hcl:=edV_nw o2 hE (by omega)
 have h13:=w2.rt.h13 o2
 have hBv:=buildM_ok o2 (s:=y.text) (by omega)
 have hnb:=nw_le_bytes o2 hBv.1
 rw [hBv.2.2] at hnb
 obtain ⟨v1,v2,v3⟩:=hE.ok o2
 have hnv:=nw_le_bytes o2 v1
 have n16:=o1.n16
 have nn:=o1.nn
 have nn0:=o1.nb
 have hSt1:=up3 (Stats_c (u_has (A:=A) (.arr 3 0 [.agg [.int .i64 y.at_,.int .i64 y.num,.str y.text]]) r1 [.arr 5 0 [ro.av]]).r nn0 n16 (by omega))
 have hHd1:=up3 (aHandles_c (u_has (A:=A) (.arr 3 0 [.agg [.int .i64 y.at_,.int .i64 y.num,.str y.text]]) r1 [.arr 5 0 [ro.av]]).r o1)
 have hNe:=up3 (Needs_c o2 (u_has (A:=A) (.arr 3 0 [.agg [.int .i64 y.at_,.int .i64 y.num,.str y.text]]) r1 [.arr 5 0 [ro.av],.arr 7 0 [r1.statsAV]]).r.rd hE)
 have hBu:=fun st=>up3 (Build_c o2 y.text (by omega) st)
 have hBn:=fun st=>up3 (New_ve o2 hBv.1 (by rw [hBv.2.2];omega) st)
 have hSt2:=up3 (Stats_c (u_has (A:=A) (.arr 3 0 [.agg [.int .i64 y.at_,.int .i64 y.num,.str y.text]]) r1 [.arr 5 0 [ro.av],.arr 7 0 [r1.statsAV],.arr 7 0 [(buildM y.text).av]]).r.allRo nn0 n16 (by omega))
 have hEq:=eqStats r1
 have hlh:(handlesL r1).length<9223372036854775808:=by
  have:=slotsTo_len r1.states 1 r1.states.length
  unfold handlesL slotsL;rw [List.length_map];omega
 have hEH:=fun st=>up3 (EqualHandles_c (handlesL r1) hlh st)
 have hEC:=fun st=>up3 (EqualChZ_c st)
 rcases Nat.lt_or_ge r1.n (nw (edV r1.nodes ro a m y.text)) with hfull|hroom
 ·have hRe:=up3 (eReplace_full (b:=1) (u_has (A:=A) (.arr 3 0 [.agg [.int .i64 y.at_,.int .i64 y.num,.str y.text]]) r1 [.arr 5 0 [ro.av],.arr 7 0 [r1.statsAV],.arr 7 0 [(buildM y.text).av]]) o1 o2 hE hfull)
  have hSt3:=up3 (Stats_c (u_has (A:=A) (.arr 3 0 [.agg [.int .i64 y.at_,.int .i64 y.num,.str y.text]]) r1 [.arr 5 0 [ro.av],.arr 7 0 [r1.statsAV],.arr 7 0 [(buildM y.text).av],.arr 7 0 [chZ]]).r.allRo nn0 n16 (by omega))
  have hHd2:=up3 (aHandles_c (u_has (A:=A) (.arr 3 0 [.agg [.int .i64 y.at_,.int .i64 y.num,.str y.text]]) r1 [.arr 5 0 [ro.av],.arr 7 0 [r1.statsAV],.arr 7 0 [(buildM y.text).av],.arr 7 0 [chZ]]).r o1)
  generalize handlesL r1=hs at *
  generalize nw (edV r1.nodes ro a m y.text)=nd at *
  generalize nw (buildM y.text)=nb at *
  generalize buildM y.text=tb at *
  clear hE v1 v2 v3 hnv hBv o1 o2 w2
  unfold Ro.av AR.statsAV chZ at *
  repeat' (first|refine is_callP rfl rfl (wk1 _) (hBn _) ?_|refine is_callP rfl rfl rfl hSt2 ?_|refine is_eqs rfl rfl hEq rfl ?_|refine is_callP rfl rfl rfl hSt3 ?_|refine ru_seq ?_|refine ru_reg ?_|refine is_mv rfl ?_|refine is_fadr rfl rfl ?_|refine is_ldc rfl rfl rfl rfl ?_|refine is_gT rfl ?_|refine is_pick rfl rfl rfl rfl ?_|refine is_ext rfl rfl ?_|refine is_nil rfl ?_|refine rk_seq ?_|refine is_lenS rfl ?_|(refine is_lss rfl rfl (fun _=>?_) (fun _=>?_)<;>try (exfalso;omega))|(refine is_gtr rfl rfl (fun _=>?_) (fun _=>?_)<;>try (exfalso;omega))|(refine is_eql rfl rfl (fun _=>?_) (fun _=>?_)<;>try (exfalso;omega))|(refine is_neq rfl rfl (fun _=>?_) (fun _=>?_)<;>try (exfalso;omega))|refine ru_iteT rfl ?_|refine ru_iteF rfl ?_|refine is_addS rfl rfl (by omega) ?_|refine is_subS rfl rfl (by omega) ?_|refine is_mulS rfl rfl (by omega) ?_|refine is_buildO rfl rfl rfl ?_|refine is_eqs rfl rfl rfl rfl ?_|refine is_box rfl rfl rfl ?_|refine is_stb rfl rfl rfl rfl rfl rfl ?_|refine is_ldc rfl rfl rfl (tr_part _) ?_|refine is_stb rfl rfl rfl (tr_seal _ _ _) (tr_put _ _) rfl ?_|refine is_callE rfl rfl (by first|rfl|(simp only [lE,lN,lC,weaks,tr_weak,forceL];first|done|rfl)) (hNew) ?_|refine is_callE rfl rfl (by first|rfl|(simp only [lE,lN,lC,weaks,tr_weak,forceL];first|done|rfl)) (hNR) ?_|refine is_callE rfl rfl (by first|rfl|(simp only [lE,lN,lC,weaks,tr_weak,forceL];first|done|rfl)) (hPa _) ?_|refine is_callE rfl rfl (by first|rfl|(simp only [lE,lN,lC,weaks,tr_weak,forceL];first|done|rfl)) (hPm _) ?_|refine is_callE rfl rfl (by first|rfl|(simp only [lE,lN,lC,weaks,tr_weak,forceL];first|done|rfl)) (hSt1) ?_|refine is_callE rfl rfl (by first|rfl|(simp only [lE,lN,lC,weaks,tr_weak,forceL];first|done|rfl)) (hHd1) ?_|refine is_callE rfl rfl (by first|rfl|(simp only [lE,lN,lC,weaks,tr_weak,forceL];first|done|rfl)) (hNe) ?_|refine is_callE rfl rfl (by first|rfl|(simp only [lE,lN,lC,weaks,tr_weak,forceL];first|done|rfl)) (hBu _) ?_|refine is_callE rfl rfl (by first|rfl|(simp only [lE,lN,lC,weaks,tr_weak,forceL];first|done|rfl)) (hRe) ?_|refine is_callE rfl rfl (by first|rfl|(simp only [lE,lN,lC,weaks,tr_weak,forceL];first|done|rfl)) (hHd2) ?_|refine is_callE rfl rfl (by first|rfl|(simp only [lE,lN,lC,weaks,tr_weak,forceL];first|done|rfl)) (hEC _) ?_|refine is_callE rfl rfl (by first|rfl|(simp only [lE,lN,lC,weaks,tr_weak,forceL];first|done|rfl)) (hEH _) ?_|refine is_callE rfl rfl (by first|rfl|(simp only [lE,lN,lC,weaks,tr_weak,forceL];first|done|rfl)) (hWk _) ?_|refine ru_skip ?_|refine ru_ret ?_|refine rk_nil ?_|refine rk_seq_ret ?_)
  all_goals try contradiction
  all_goals try (exfalso;omega)
  all_goals refine end_st hA (by first|exact .inl rfl|exact .inr rfl) rfl rfl rfl rfl ?_
  all_goals rfl
 have hRe:=up3 (eReplace_c (b:=1) (u_has (A:=A) (.arr 3 0 [.agg [.int .i64 y.at_,.int .i64 y.num,.str y.text]]) r1 [.arr 5 0 [ro.av],.arr 7 0 [r1.statsAV],.arr 7 0 [(buildM y.text).av]]) o1 o2 hE hroom)
 rw [u_set] at hRe
 obtain ⟨w3,w4⟩:=wr_rt (r:=r1) (has_cur [] [] [] _) o1 o2 v1 (by omega) hroom
 have n1:=w3.n
 have n2:=w3.len
 have n3:=w3.ok.n16
 have n4:=w3.ok.nn
 have n5:=w3.ok.nb
 generalize drAll r1.nodes [ro] (edV r1.nodes ro a m y.text)=dd at *
 clear w4
 have hSt3:=fun T=>up3 (Stats_c (u_has (A:=A) (.arr 3 0 [.agg [.int .i64 y.at_,.int .i64 y.num,.str y.text]]) (wrV (edV r1.nodes ro a m y.text) r1).1 T).r.allRo n5 n3 (by omega))
 clear w3
 generalize (wrV (edV r1.nodes ro a m y.text) r1).2.1=ro2 at *
 generalize (wrV (edV r1.nodes ro a m y.text) r1).2.2=fr at *
 generalize (wrV (edV r1.nodes ro a m y.text) r1).1=r2 at *
 have hSt4:=hSt3 [.arr 5 0 [ro.av],.arr 7 0 [r1.statsAV],.arr 7 0 [(buildM y.text).av],.arr 7 0 [chAV ro2 fr (slH dd)]]
 clear hSt3
 generalize handlesL r1=hs at *
 generalize nw (edV r1.nodes ro a m y.text)=nd at *
 generalize nw (buildM y.text)=nb at *
 generalize buildM y.text=tb at *
 clear hE v1 v2 v3 hnv hBv o1 o2 w2
 unfold Ro.av AR.statsAV at *
 obtain ⟨ds,hds,hd2⟩:∃ ds,slH dd=ds∧(ds=.nils∨ds=.lit (dd.map hnAV)):=by
  unfold slH
  split
  ·exact ⟨_,rfl,.inl rfl⟩
  ·exact ⟨_,rfl,.inr rfl⟩
 rw [hds] at hRe hSt4
 unfold chAV at *
 rcases hd2 with rfl|rfl
 ·repeat' (first|refine is_callP rfl rfl (wk1 _) (hBn _) ?_|refine is_callP rfl rfl rfl hSt2 ?_|refine is_eqs rfl rfl hEq rfl ?_|refine is_callP rfl rfl rfl hSt4 ?_|refine len1L rfl ?_|refine ru_seq ?_|refine ru_reg ?_|refine is_mv rfl ?_|refine is_fadr rfl rfl ?_|refine is_ldc rfl rfl rfl rfl ?_|refine is_gT rfl ?_|refine is_pick rfl rfl rfl rfl ?_|refine is_ext rfl rfl ?_|refine is_nil rfl ?_|refine rk_seq ?_|refine is_fld (agg:=false) rfl rfl ?_|refine is_lenS rfl ?_|(refine is_lss rfl rfl (fun _=>?_) (fun _=>?_)<;>try (exfalso;omega))|(refine is_gtr rfl rfl (fun _=>?_) (fun _=>?_)<;>try (exfalso;omega))|(refine is_eql rfl rfl (fun _=>?_) (fun _=>?_)<;>try (exfalso;omega))|(refine is_neq rfl rfl (fun _=>?_) (fun _=>?_)<;>try (exfalso;omega))|refine ru_iteF rfl ?_|refine is_addS rfl rfl (by omega) ?_|refine is_subS rfl rfl (by omega) ?_|refine is_mulS rfl rfl (by omega) ?_|refine is_eqs rfl rfl rfl rfl ?_|refine is_box rfl rfl rfl ?_|refine is_stb rfl rfl rfl rfl rfl rfl ?_|refine is_ldc rfl rfl rfl (tr_part _) ?_|refine is_stb rfl rfl rfl (tr_seal _ _ _) (tr_put _ _) rfl ?_|refine is_callE rfl rfl (by first|rfl|(simp only [lE,lN,lC,weaks,tr_weak,forceL];first|done|rfl)) (hNew) ?_|refine is_callE rfl rfl (by first|rfl|(simp only [lE,lN,lC,weaks,tr_weak,forceL];first|done|rfl)) (hNR) ?_|refine is_callE rfl rfl (by first|rfl|(simp only [lE,lN,lC,weaks,tr_weak,forceL];first|done|rfl)) (hPa _) ?_|refine is_callE rfl rfl (by first|rfl|(simp only [lE,lN,lC,weaks,tr_weak,forceL];first|done|rfl)) (hPm _) ?_|refine is_callE rfl rfl (by first|rfl|(simp only [lE,lN,lC,weaks,tr_weak,forceL];first|done|rfl)) (hSt1) ?_|refine is_callE rfl rfl (by first|rfl|(simp only [lE,lN,lC,weaks,tr_weak,forceL];first|done|rfl)) (hHd1) ?_|refine is_callE rfl rfl (by first|rfl|(simp only [lE,lN,lC,weaks,tr_weak,forceL];first|done|rfl)) (hNe) ?_|refine is_callE rfl rfl (by first|rfl|(simp only [lE,lN,lC,weaks,tr_weak,forceL];first|done|rfl)) (hBu _) ?_|refine is_callE rfl rfl (by first|rfl|(simp only [lE,lN,lC,weaks,tr_weak,forceL];first|done|rfl)) (hRe) ?_|refine is_callE rfl rfl (by first|rfl|(simp only [lE,lN,lC,weaks,tr_weak,forceL];first|done|rfl)) (hWk _) ?_|refine ru_skip ?_|refine ru_ret ?_|refine rk_nil ?_)
  all_goals try contradiction
  all_goals try (exfalso;omega)
  all_goals refine end_st hA (by first|exact .inl rfl|exact .inr rfl) rfl rfl rfl rfl ?_
  all_goals rfl
 ·repeat' (first|refine is_callP rfl rfl (wk1 _) (hBn _) ?_|refine is_callP rfl rfl rfl hSt2 ?_|refine is_eqs rfl rfl hEq rfl ?_|refine is_callP rfl rfl rfl hSt4 ?_|refine len1L rfl ?_|refine ru_seq ?_|refine ru_reg ?_|refine is_mv rfl ?_|refine is_fadr rfl rfl ?_|refine is_ldc rfl rfl rfl rfl ?_|refine is_gT rfl ?_|refine is_pick rfl rfl rfl rfl ?_|refine is_ext rfl rfl ?_|refine is_nil rfl ?_|refine rk_seq ?_|refine is_fld (agg:=false) rfl rfl ?_|refine is_lenS rfl ?_|(refine is_lss rfl rfl (fun _=>?_) (fun _=>?_)<;>try (exfalso;omega))|(refine is_gtr rfl rfl (fun _=>?_) (fun _=>?_)<;>try (exfalso;omega))|(refine is_eql rfl rfl (fun _=>?_) (fun _=>?_)<;>try (exfalso;omega))|(refine is_neq rfl rfl (fun _=>?_) (fun _=>?_)<;>try (exfalso;omega))|refine ru_iteF rfl ?_|refine is_addS rfl rfl (by omega) ?_|refine is_subS rfl rfl (by omega) ?_|refine is_mulS rfl rfl (by omega) ?_|refine is_eqs rfl rfl rfl rfl ?_|refine is_box rfl rfl rfl ?_|refine is_stb rfl rfl rfl rfl rfl rfl ?_|refine is_ldc rfl rfl rfl (tr_part _) ?_|refine is_stb rfl rfl rfl (tr_seal _ _ _) (tr_put _ _) rfl ?_|refine is_callE rfl rfl (by first|rfl|(simp only [lE,lN,lC,weaks,tr_weak,forceL];first|done|rfl)) (hNew) ?_|refine is_callE rfl rfl (by first|rfl|(simp only [lE,lN,lC,weaks,tr_weak,forceL];first|done|rfl)) (hNR) ?_|refine is_callE rfl rfl (by first|rfl|(simp only [lE,lN,lC,weaks,tr_weak,forceL];first|done|rfl)) (hPa _) ?_|refine is_callE rfl rfl (by first|rfl|(simp only [lE,lN,lC,weaks,tr_weak,forceL];first|done|rfl)) (hPm _) ?_|refine is_callE rfl rfl (by first|rfl|(simp only [lE,lN,lC,weaks,tr_weak,forceL];first|done|rfl)) (hSt1) ?_|refine is_callE rfl rfl (by first|rfl|(simp only [lE,lN,lC,weaks,tr_weak,forceL];first|done|rfl)) (hHd1) ?_|refine is_callE rfl rfl (by first|rfl|(simp only [lE,lN,lC,weaks,tr_weak,forceL];first|done|rfl)) (hNe) ?_|refine is_callE rfl rfl (by first|rfl|(simp only [lE,lN,lC,weaks,tr_weak,forceL];first|done|rfl)) (hBu _) ?_|refine is_callE rfl rfl (by first|rfl|(simp only [lE,lN,lC,weaks,tr_weak,forceL];first|done|rfl)) (hRe) ?_|refine is_callE rfl rfl (by first|rfl|(simp only [lE,lN,lC,weaks,tr_weak,forceL];first|done|rfl)) (hWk _) ?_|refine ru_skip ?_|refine ru_ret ?_|refine rk_nil ?_)
  all_goals try contradiction
  all_goals try (exfalso;omega)
  all_goals refine end_st hA (by first|exact .inl rfl|exact .inr rfl) rfl rfl rfl rfl ?_
  all_goals rfl
end Go.Q15
namespace Go.QAbs
open Go.ChangeShapes Go.WideShapes Go.RowKit Go.Deep
variable {P:Program}
section
variable {H:Type} {enc:TypeId × Value→H}
theorem open_span {W:World} {base:Nat} {t t0 t1 t2:TypeId} {f0 f1 f2:Field} {v:Value} {d:DataW H} {ps:List MemPlace} (ht:P.underlying t=some (.struct #[f0,f1,f2])) (hc:P.cellsOf t=3)
 (hf0:f0.type=t0∧f0.offset=0∧P.underlying t0=some (.int .i64)∧P.cellsOf t0=1) (hf1:f1.type=t1∧f1.offset=1∧P.underlying t1=some (.int .i64)∧P.cellsOf t1=1) (hf2:f2.type=t2∧f2.offset=2∧P.underlying t2=some .string∧P.cellsOf t2=1)
 (hval:Value.okWide P W .any base t v) (h:DataW.Trod enc P W 0 (fun _=>true) true t v d ps) :
 ∃ q:Int × Int × List UInt8,q.2.2.length≤maxLen∧R (cx .empty rho0 W 0) (.agg [.int .i64 q.1,.int .i64 q.2.1,.str q.2.2]) v:=by
 obtain ⟨cs,rfl,hsz⟩:=okWide_struct ht hval
 obtain ⟨fuel,hf⟩:=h
 obtain ⟨xs,k,_,_,_,hxl,hfs⟩:=DataW.trod_struct ht hf
 have g0:=hfs 0 f0 rfl
 have g1:=hfs 1 f1 rfl
 have g2:=hfs 2 f2 rfl
 rw [hc] at hsz
 obtain ⟨cs⟩:=cs
 match cs,hsz,xs,hxl with
 | [c0,c1,c2],_,[y0,y1,y2],_ =>
  simp only [Value.cells,hf0.1,hf0.2.1,hf0.2.2.2,hf1.1,hf1.2.1,hf1.2.2.2,hf2.1,hf2.2.1,hf2.2.2.2,List.drop,List.take,List.getElem?_cons_zero,List.getElem?_cons_succ] at g0 g1 g2
  obtain ⟨n0,e0,_,_⟩:=DataW.trod_int hf0.2.2.1 g0
  obtain ⟨n1,e1,_,_⟩:=DataW.trod_int hf1.2.2.1 g1
  obtain ⟨s,e2,_,hs⟩:=DataW.trod_string hf2.2.2.1 g2
  simp only [List.cons.injEq,and_true] at e0 e1 e2
  subst e0;subst e1;subst e2
  refine ⟨(n0,n1,s.data.toList),by simp only [Array.length_toList];exact hs,?_⟩
  rw [str_eq s]
  have hr:=RL.cons (C:=cx .empty rho0 W 0) (.int .i64 n0) (.cons (.int .i64 n1) (.cons (.str s.data.toList) (.nil _)))
  exact .agg (xs:=[_,_,_]) hr.1 hr.2
end
end Go.QAbs
namespace Go.Q15
open Go Go.QAbs
theorem editPaths_run (slots:Int) (text:List UInt8) (y:Int × Int × List UInt8) (_h0:(Lit.int .i64 slots).wf=true) (h1:text.length≤maxLen) (h2:y.2.2.length≤maxLen) :
 ∃ st',S T3 F_quartolaw19_EditPaths [.int .i64 slots,.str text,.agg [.int .i64 y.1,.int .i64 y.2.1,.str y.2.2]] .empty=some (.bool true,st'):=by
 have hm:maxLen<9223372036854775808:=by decide +kernel
 exact ⟨_,EditPaths_c slots text ⟨y.1,y.2.1,y.2.2⟩ (by omega) (by show y.2.2.length<_;omega) .empty⟩
end Go.Q15
