/- A part of the proof: M16, M2b, M19, PB, M14, M20, M21, M22, M23, M24, M25, M26, M27, M28, M29, M30, M31, M32, M15, MW, RA, W5, M1b, RB, W6, M42, M17, RC, RD, RE, RF, RG, RH, RI, RJ. No condition. -/
import Derived.Test.YtnbialakgbcbfaaGreatSaT6
set_option linter.unusedVariables false
set_option linter.unusedSimpArgs false
namespace Go.Q15
open Go Go.QAbs
set_option maxRecDepth 100000
set_option maxHeartbeats 8000000
structure Out (st:St) (lv jb jx:Nat) (ver:Nat) (s:List UInt8):Prop where
 wr:st.wr lv
 box:st.get lv jb=some (.arr 1 0 [.ref lv jx ver 0 s.length])
 blk:st.get lv jx=some (.arr 1 ver (bytesAV s))
 ne:jx≠jb
def putOut (st:St) (lv jb jx ver:Nat) (s:List UInt8):St:=(st.upd lv jx (.arr 1 ver (bytesAV s))).upd lv jb (.arr 1 0 [.ref lv jx ver 0 s.length])
theorem bytes_wide (s:List UInt8):sameW 1 (bytesAV s)=true:=by
 induction s with
 | nil=>rfl
 | cons b s ih=>rw [bytesAV,List.map_cons,sameW,List.all_cons];exact Bool.and_eq_true_iff.2 ⟨rfl,ih⟩
theorem bytes_seal (b:Nat) (st:St) (s:List UInt8):mapSt (sealV deep b) st (bytesAV s)=some (bytesAV s,st):=by
 induction s with
 | nil=>rfl
 | cons x s ih =>
  show mapSt (sealV deep b) st (AV.int .u8 x.toNat::bytesAV s)=_
  rw [mapSt]
  show ((some (AV.int .u8 x.toNat,st)).bind fun r=>(mapSt (sealV deep b) r.2 (bytesAV s)).bind (consK r.1))=_
  rw [oS,ih];rfl
theorem bytesAV_append (s t:List UInt8):bytesAV (s++t)=bytesAV s++bytesAV t:=by simp [bytesAV]
theorem bytesAV_len (s:List UInt8):(bytesAV s).length=s.length:=by simp [bytesAV]
theorem vis_arr {w v:Nat} {es:List AV}:vis (some (Blk.arr w v es))=some (Blk.arr w v es):=rfl
theorem Out.put {st:St} {lv jb jx ver:Nat} {s:List UInt8} (h:Out st lv jb jx ver s) (ver':Nat) (t:List UInt8):Out (putOut st lv jb jx ver' t) lv jb jx ver' t:=by
 have g1:∀ l' i',(st.upd lv jx (.arr 1 ver' (bytesAV t))).get l' i'=if l'=lv∧i'=jx then some (.arr 1 ver' (bytesAV t)) else st.get l' i':=fun l' i'=>St.get_upd h.blk vis_arr
 have b1:(st.upd lv jx (.arr 1 ver' (bytesAV t))).get lv jb=some (.arr 1 0 [.ref lv jx ver 0 s.length]):=by rw [g1,if_neg (fun q=>h.ne q.2.symm)];exact h.box
 have g2:∀ l' i',(putOut st lv jb jx ver' t).get l' i'=if l'=lv∧i'=jb then some (.arr 1 0 [.ref lv jx ver' 0 t.length]) else (st.upd lv jx (.arr 1 ver' (bytesAV t))).get l' i':=fun l' i'=>St.get_upd b1 vis_arr
 refine ⟨St.wr_upd (St.wr_upd h.wr h.wr) (St.wr_upd h.wr h.wr),by rw [g2,if_pos ⟨rfl,rfl⟩],?_,h.ne⟩
 rw [g2,if_neg (fun q=>h.ne q.2),g1,if_pos ⟨rfl,rfl⟩]
theorem putOut_get {st:St} {lv jb jx ver:Nat} {s:List UInt8} (h:Out st lv jb jx ver s) (ver':Nat) (t:List UInt8) {l' i':Nat} (hn:¬ (l'=lv∧(i'=jx∨i'=jb))):(putOut st lv jb jx ver' t).get l' i'=st.get l' i':=by
 have b1:(st.upd lv jx (.arr 1 ver' (bytesAV t))).get lv jb=some (.arr 1 0 [.ref lv jx ver 0 s.length]):=by
  rw [St.get_upd h.blk vis_arr,if_neg (fun q=>h.ne q.2.symm)];exact h.box
 rw [putOut,St.get_upd b1 vis_arr,if_neg (fun q=>hn ⟨q.1,.inr q.2⟩),St.get_upd h.blk vis_arr,if_neg (fun q=>hn ⟨q.1,.inl q.2⟩)]
theorem upd_upd {st:St} {lv ix:Nat} {b c:Blk}:(st.upd lv ix b).upd lv ix c=st.upd lv ix c:=by
 unfold St.upd
 by_cases h:lv=st.A.length
 ·simp only [if_pos h,List.set_set]
 ·simp only [if_neg h,List.length_set]
  rcases Nat.lt_or_ge lv st.A.length with q|q
  ·simp only [List.set_set,List.getElem?_set,if_true,if_pos q,Option.getD_some,updR]
  ·simp only [List.set_eq_of_length_le q]
theorem upd_comm {st:St} {lv ix jx:Nat} {b c:Blk} (h:ix≠jx):(st.upd lv ix b).upd lv jx c=(st.upd lv jx c).upd lv ix b:=by
 unfold St.upd
 by_cases hl:lv=st.A.length
 ·simp only [if_pos hl]
  rw [List.set_comm _ _ h]
 ·simp only [if_neg hl,List.length_set]
  rcases Nat.lt_or_ge lv st.A.length with q|q
  ·simp only [List.set_set,List.getElem?_set,if_true,if_pos q,Option.getD_some,updR]
   rw [List.set_comm _ _ h]
  ·simp only [List.set_eq_of_length_le q]
theorem putOut_put {st:St} {lv jb jx v1 v2:Nat} {s t:List UInt8} (h:jx≠jb):putOut (putOut st lv jb jx v1 s) lv jb jx v2 t=putOut st lv jb jx v2 t:=by
 unfold putOut
 rw [upd_comm (st:=st.upd lv jx _) (fun q=>h q.symm),upd_upd,upd_upd]
theorem putOut_push {st:St} {A:List (Bool × List Blk)} {ro:Bool} {L:List Blk} (hA:A=st.A++[(st.ro,st.L)]) {lv jb jx ver:Nat} {s:List UInt8} (hl:lv≤st.A.length) :
 putOut ⟨A,ro,L⟩ lv jb jx ver s=⟨(putOut st lv jb jx ver s).A++[((putOut st lv jb jx ver s).ro,(putOut st lv jb jx ver s).L)],ro,L⟩:=by
 unfold putOut
 rw [upd_push hA hl]
 exact upd_push rfl (by rw [St.upd_A];exact hl)
section
variable {O:Orc} {k:List Fr} {Q:Post} {e:Env} {A:List (Bool × List Blk)} {L:List Blk} {keep:List Nat} {is:List PI} {d:Nat}
theorem is_appOut {st:St} {s x:Opd} {lv jb jx ver:Nat} {t u:List UInt8} (hA:A=st.A++[(st.ro,st.L)]) (ho:Out st lv jb jx ver t) (hs:opdO e s=some (.ref lv jx ver 0 t.length)) (hx:opdO e x=some (.str u)) (hl:t.length+u.length<4294967296)
 (h:∀ A',A'=(st.upd lv jx (.arr 1 (ver+1) (bytesAV (t++u)))).A++[((st.upd lv jx (.arr 1 (ver+1) (bytesAV (t++u)))).ro,(st.upd lv jx (.arr 1 (ver+1) (bytesAV (t++u)))).L)]→Is O is keep k Q ((d,.ref lv jx (ver+1) 0 (t.length+u.length))::e) ⟨A',false,L⟩) :
 Is O (⟨some d,none,false,.app 1 1 s x⟩::is) keep k Q e ⟨A,false,L⟩:=by
 have hlv:=St.get_le ho.blk
 refine is_of (v:=.ref lv jx (ver+1) 0 (t.length+u.length)) (st':=St.upd ⟨A,false,L⟩ lv jx (.arr 1 (ver+1) (bytesAV (t++u)))) ?_ ?_
 ·have hg:=get_old hA (ro:=false) (L:=L) ho.blk
  have hw:=wr_push hA hlv ho.wr (ro:=false) (L:=L)
  simp only [evalPI,evalPO,opdO_some hs,opdO_some hx,elems,oS,appendV,bytesAV_len,bytes_wide,if_true,bytes_seal,appK,hg,appB,true_and,if_pos (show 0+t.length≤t.length∧t.length+u.length<4294967296∧1≤4096 by omega),List.drop_zero]
  rw [List.take_of_length_le (by rw [bytesAV_len];omega),← bytesAV_append,St.put_upd hw hg]
  rfl
 ·rw [upd_push hA hlv]
  exact h _ rfl
end
theorem Rd.out {st:St} {lv jb jx ver pl px:Nat} {s:List UInt8} {N:Nodes} (hr:Rd st pl px N) (ho:Out st lv jb jx ver s) (hne:pl≠lv) (v:Nat) (t:List UInt8):Rd (putOut st lv jb jx v t) pl px N:=by
 obtain ⟨a0,a1,im,a3,a4,a5,h1,h2⟩:=hr
 exact ⟨a0,a1,im,a3,a4,a5,by rw [putOut_get ho _ _ (fun q=>hne q.1)];exact h1,by rw [putOut_get ho _ _ (fun q=>hne q.1)];exact h2⟩
structure WalkAt (st:St) (lv ab ob xb wb pl px:Nat) (N:Nodes):Prop where
 rd:Rd st pl px N
 lt:pl≠lv
 a:st.get lv ab=some (.arr 1 0 [.ptr pl px 0 0 0])
 w:st.get lv wb=some (.arr 1 0 [.func (.func F_plan_TextC1) [] [.ptr lv ab 0 0 0,.ptr lv ob 0 0 0,.ptr lv wb 0 0 0]])
 na:ab≠xb∧ab≠ob
 nw:wb≠xb∧wb≠ob
theorem WalkAt.put {st:St} {lv ab ob xb wb pl px ver:Nat} {N:Nodes} {s:List UInt8} (h:WalkAt st lv ab ob xb wb pl px N) (ho:Out st lv ob xb ver s) (v:Nat) (t:List UInt8):WalkAt (putOut st lv ob xb v t) lv ab ob xb wb pl px N :=
 ⟨h.rd.out ho h.lt v t,h.lt,by rw [putOut_get ho _ _ (fun q=>by rcases q.2 with w|w;exact h.na.1 w;exact h.na.2 w)];exact h.a,by rw [putOut_get ho _ _ (fun q=>by rcases q.2 with w|w;exact h.nw.1 w;exact h.nw.2 w)];exact h.w,h.na,h.nw⟩
theorem vis_some {o:Option Blk} {b:Blk} (h:vis o=some b):o=some b:=by
 cases o with
 | none=>simp [vis] at h
 | some c=>cases c<;>simp [vis] at h<;>exact congrArg some h
theorem set_same {α:Type} {l:List α} {i:Nat} {b:α} (h:l[i]?=some b):l.set i b=l:=by
 obtain ⟨h1,h2⟩:=List.getElem?_eq_some_iff.1 h
 subst h2
 exact List.set_getElem_self h1
theorem upd_same {st:St} {lv ix:Nat} {b:Blk} (h:st.get lv ix=some b):st.upd lv ix b=st:=by
 unfold St.upd
 by_cases q:lv=st.A.length
 ·rw [if_pos q]
  rw [St.get,if_pos q] at h
  have h2:=vis_some h
  rw [set_same h2]
 ·rw [if_neg q]
  rw [St.get,if_neg q] at h
  cases hr:st.A[lv]? with
  | none=>rw [hr] at h;simp at h
  | some r =>
   rw [hr] at h
   have h2:=vis_some h
   have e1:r.2.set ix b=r.2:=set_same h2
   simp only [Option.getD_some,updR,e1]
   rw [show (r.1,r.2)=r from rfl]
   rw [set_same hr]
theorem Out.same {st:St} {lv jb jx ver:Nat} {s:List UInt8} (h:Out st lv jb jx ver s):putOut st lv jb jx ver s=st:=by
 rw [putOut,upd_same h.blk,upd_same h.box]
theorem Out.push {st:St} {A:List (Bool × List Blk)} {ro:Bool} {L:List Blk} (hA:A=st.A++[(st.ro,st.L)]) {lv jb jx ver:Nat} {s:List UInt8} (h:Out st lv jb jx ver s):Out ⟨A,ro,L⟩ lv jb jx ver s :=
 ⟨wr_push hA (St.get_le h.blk) h.wr,get_old hA h.box,get_old hA h.blk,h.ne⟩
theorem WalkAt.push {st:St} {A:List (Bool × List Blk)} {ro:Bool} {L:List Blk} (hA:A=st.A++[(st.ro,st.L)]) {lv ab ob xb wb pl px:Nat} {N:Nodes} (h:WalkAt st lv ab ob xb wb pl px N):WalkAt ⟨A,ro,L⟩ lv ab ob xb wb pl px N :=
 ⟨h.rd.push hA,h.lt,get_old hA h.a,get_old hA h.w,h.na,h.nw⟩
theorem wk4 (t:Tr) (a b c:AV) (ha:weak a=a) (hb:weak b=b) (hc:weak c=c):forceL (weaks ([]++[t.av]++[a,b,c]))=some [t.av,a,b,c]:=by
 simp only [lE,lC,weaks,tr_weak,ha,hb,hc,forceL]
theorem walk_c {N:Nodes} (hN:GoodN N):∀ (n:Nat) (t:Tr),Val N t→t.h=n→t.bytes≤65536→∀ {st:St} {lv ab ob xb wb pl px ver:Nat} {s:List UInt8},WalkAt st lv ab ob xb wb pl px N→Out st lv ob xb ver s→s.length+t.bytes<4294967296 →
 Sp Tb F_plan_TextC1 [t.av,.ptr lv ab 0 0 0,.ptr lv ob 0 0 0,.ptr lv wb 0 0 0] st fun v st'=>v=.int .i64 0∧∃ ver',st'=putOut st lv ob xb ver' (s++t.txt N):=by
 intro n
 induction n with
 | zero =>
  intro t hv hh hb st lv ab ob xb wb pl px ver s hw ho hl
  refine sp_of rfl ?_
  obtain ⟨A,hA⟩:∃ A,A=st.A++[(st.ro,st.L)]:=⟨_,rfl⟩
  rw [← hA]
  have hL:=fun L=>line_c (hw.rd.push hA (ro:=false) (L:=L)) hv
  have hln:=hv.line hh
  have htx:=txt_line hv hh
  rw [htx]
  have hg1:=fun L=>get_old hA (ro:=false) (L:=L) hw.a
  have hg2:=fun L=>get_old hA (ro:=false) (L:=L) ho.box
  generalize lineOf N t=u at *
  repeat' (first|refine ruS rfl ?_|refine isS rfl ?_|refine rk_seq ?_|(refine is_eql rfl rfl (fun _=>?_) (fun _=>?_)<;>try (exfalso;omega))|refine is_ldT rfl rfl (tr_part _) ?_|refine is_boxG rfl (tr_wide _) (tr_force _) ?_|refine is_ldc rfl rfl rfl (tr_hpart _) ?_|refine is_ld rfl (hg1 _) rfl rfl ?_|refine is_callE rfl rfl (by first|rfl|(simp only [lE,lN,lC,weaks,tr_weak,forceL];first|done|rfl)) (hL _) ?_|refine is_ld rfl (hg2 _) rfl rfl ?_)
  all_goals try (exfalso;omega)
  refine is_appOut hA ho rfl rfl (by omega) (fun A' hA'=>?_)
  have hgo:(st.upd lv xb (.arr 1 (ver+1) (bytesAV (s++u)))).get lv ob=some (.arr 1 0 [.ref lv xb ver 0 s.length]):=by
   rw [St.get_upd ho.blk vis_arr,if_neg (fun q=>ho.ne q.2.symm)];exact ho.box
  refine is_stP hA' rfl rfl (St.wr_upd ho.wr ho.wr) hgo rfl (seal_refL _ (Nat.lt_succ_self _)) rfl (fun A2 hA2=>?_)
  repeat' (first|refine ruS rfl ?_|refine isS rfl ?_|refine rkS rfl ?_)
  refine ⟨_,_,end_st hA2 (.inr rfl) rfl rfl rfl rfl rfl,rfl,ver+1,?_⟩
  unfold putOut
  rw [lL]
  rfl
 | succ n ih =>
  intro t hv hh hb st lv ab ob xb wb pl px ver s hw ho hl
  refine sp_of rfl ?_
  obtain ⟨A,hA⟩:∃ A,A=st.A++[(st.ro,st.L)]:=⟨_,rfl⟩
  rw [← hA]
  obtain ⟨c1,c2,c3,c4⟩:=childs_ok hN hv (by omega)
  have hC:=fun L=>children_c (hw.rd.push hA (ro:=false) (L:=L)) hv (by omega)
  have htx:=txt_childs hN hv (by omega)
  have hg1:=fun L=>get_old hA (ro:=false) (L:=L) hw.a
  rw [htx]
  rw [← c4] at hl hb
  generalize childs N t=l at *
  have hpos:∀ u∈l,1≤u.bytes:=fun u hu=>(c1 u hu).1.pos.2
  repeat' (first|refine ruS rfl ?_|refine isS rfl ?_|refine rk_seq ?_|refine is_lenM rfl ?_|(refine is_eql rfl rfl (fun _=>?_) (fun _=>?_)<;>try (exfalso;omega))|(refine is_neq rfl rfl (fun _=>?_) (fun _=>?_)<;>try (exfalso;omega))|refine is_ldT rfl rfl (tr_part _) ?_|refine is_boxG rfl (tr_wide _) (tr_force _) ?_|refine is_ldc rfl rfl rfl (tr_hpart _) ?_|refine is_ld rfl (hg1 _) rfl rfl ?_|refine is_callE rfl rfl (by first|rfl|(simp only [lE,lN,lC,weaks,tr_weak,forceL];first|done|rfl)) (hC _) ?_)
  all_goals try (exfalso;omega)
  have hst:st=putOut st lv ob xb ver s:=ho.same.symm
  refine ru_loopP (α:=Nat × List Blk × Nat) (fun p=>[(3,.ptr lv wb 0 0 0),(35,.lit (l.map Tr.av)),(36,.int .i64 l.length),(37,.int .i64 p.1)])
   (fun p=>⟨(putOut st lv ob xb p.2.2 (s++Tr.txtL N (l.take p.1))).A++[((putOut st lv ob xb p.2.2 (s++Tr.txtL N (l.take p.1))).ro,(putOut st lv ob xb p.2.2 (s++Tr.txtL N (l.take p.1))).L)],false,p.2.1⟩)
   (fun p=>p.1≤l.length) (fun p=>l.length-p.1) (0,[Blk.arr 7 0 [t.av]],ver) rfl ?_ (by simp) ?_
  ·simp only [List.take_zero,Tr.txtL,lN,← hst,← hA]
   rfl
  rintro ⟨i,G,ver⟩ hi
  simp only at hi ⊢
  have hw2:=hw.put ho ver (s++Tr.txtL N (l.take i))
  have ho2:=ho.put ver (s++Tr.txtL N (l.take i))
  have hpp:∀ v2 t2,putOut (putOut st lv ob xb ver (s++Tr.txtL N (l.take i))) lv ob xb v2 t2=putOut st lv ob xb v2 t2:=fun v2 t2=>putOut_put ho.ne
  generalize hs1:putOut st lv ob xb ver (s++Tr.txtL N (l.take i))=st1 at *
  obtain ⟨A1,hA1⟩:∃ A1,A1=st1.A++[(st1.ro,st1.L)]:=⟨_,rfl⟩
  rw [← hA1]
  have hgw:=fun L=>get_old hA1 (ro:=false) (L:=L) hw2.w
  repeat' (first|refine ruS rfl ?_|refine isS rfl ?_|refine rkS rfl ?_|(refine is_lss rfl rfl (fun _=>?_) (fun _=>?_)<;>try (exfalso;omega))|refine is_boxG rfl rfl rfl ?_|refine is_ixM rfl rfl (by omega) tr_wide (fun _ _=>?_)|refine is_ldl rfl (tr_part _) ?_|refine is_stT rfl rfl rfl (tr_seal _ _ _) (tr_put _ _) rfl ?_)
  ·rename_i u hu
   have hu2:l[i]?=some u:=hu
   have hum:=List.mem_of_getElem? hu2
   have hsum:Tr.bytesL l=Tr.bytesL (l.take i)+(u.bytes+Tr.bytesL (l.drop (i+1))):=by
    conv=>lhs;rw [← List.take_append_drop (i+1) l,take_succ_get hu2,Tr.bytesL_append,Tr.bytesL_append]
    simp [Tr.bytesL];omega
   have p1:=bytesL_txt hN (l:=l.take i) (fun w hw=>(c1 w (List.mem_of_mem_take hw)).1)
   have p2:=Tr.bytesL_nonneg (l:=l.drop (i+1)) (fun w hw=>by have:=hpos w (List.mem_of_mem_drop hw);omega)
   have p3:=Tr.bytesL_nonneg (l:=l.take i) (fun w hw=>by have:=hpos w (List.mem_of_mem_take hw);omega)
   have hle:lv≤st1.A.length:=St.get_le ho2.blk
   have htx2:s++Tr.txtL N (l.take (i+1))=s++Tr.txtL N (l.take i)++u.txt N:=by
    rw [take_succ_get hu2,Tr.txtL_append,List.append_assoc];simp [Tr.txtL]
   have ihu:=fun L=>ih u (c1 u hum).1 (by have:=(c1 u hum).2.1;omega) (by omega) (hw2.push hA1 (ro:=false) (L:=L)) (ho2.push hA1 (ro:=false) (L:=L)) (by rw [lL];omega)
   refine is_ld rfl (hgw _) rfl rfl ?_
   repeat' (refine is_ldT rfl rfl (tr_part _) ?_)
   refine is_call rfl rfl (wk4 _ _ _ _ rfl rfl rfl) (ihu _) ?_
   rintro v st' ⟨rfl,v2,rfl⟩
   rw [putOut_push hA1 hle,hpp,← htx2]
   repeat' (first|refine ruS rfl ?_|refine isS rfl ?_|refine rkS rfl ?_|(refine is_neq rfl rfl (fun _=>?_) (fun _=>?_)<;>try (exfalso;omega))|refine is_addS rfl rfl (by omega) ?_)
   exact ⟨(i+1,_,v2),⟨rfl,rfl⟩,by simp only;omega,by simp only;omega⟩
  ·have hi':i=l.length:=by omega
   subst hi'
   rw [List.take_length] at *
   refine ⟨_,_,end_st hA1 (.inr rfl) rfl rfl rfl rfl rfl,rfl,ver,?_⟩
   exact hs1.symm
end Go.Q15
namespace Go.Q15
open Go Go.QAbs
set_option maxRecDepth 100000
set_option maxHeartbeats 8000000
structure KRef (st:St) (lv ix ver:Nat) (ks:List Kid):Prop where
 ex:∃ es,st.get lv ix=some (.arr 4 ver es)∧es.take ks.length=ks.map Kid.av
theorem KRef.push {st:St} {A:List (Bool × List Blk)} {ro:Bool} {L:List Blk} (hA:A=st.A++[(st.ro,st.L)]) {lv ix ver:Nat} {ks:List Kid} (h:KRef st lv ix ver ks):KRef ⟨A,ro,L⟩ lv ix ver ks:=by
 obtain ⟨es,h1,h2⟩:=h
 exact ⟨es,get_old hA h1,h2⟩
end Go.Q15
namespace Go.Q15
open Go Go.QAbs
set_option maxRecDepth 100000
set_option maxHeartbeats 8000000
structure AR where
 blk:List Int
 n:Nat
 ver:Nat
 states:List Int
 gens:List Int
 most:Int
 nodes:Nodes
 slots:Int
 allocs:Int
 frees:Int
 stale:Int
namespace AR
def b0 (r:AR):Blk:=.arr 1 0 (r.states.map (.int .u8))
def b1 (r:AR):Blk:=.arr 1 r.ver (r.blk.map (.int .i64))
def b2 (r:AR):Blk:=.arr 1 0 (r.gens.map (.int .u64))
def b3 (r:AR) (lv b:Nat):Blk:=.arr 4 0 [.agg [.ref lv (b+1) r.ver 0 r.n,.ref lv b 0 0 r.states.length,.ref lv (b+2) 0 0 r.gens.length,.int .u64 r.most]]
def b4 (r:AR):Blk:=.map (r.nodes.map nodeAV)
def b5 (r:AR) (lv b:Nat):Blk:=.arr 6 0 [.agg [.int .i64 r.slots,.ptr lv (b+3) 0 0 0,.map lv (b+4),.int .i64 r.allocs,.int .i64 r.frees,.int .i64 r.stale]]
end AR
structure Has (st:St) (lv b:Nat) (r:AR):Prop where
 wr:st.wr lv
 h0:st.get lv b=some r.b0
 h1:st.get lv (b+1)=some r.b1
 h2:st.get lv (b+2)=some r.b2
 h3:st.get lv (b+3)=some (r.b3 lv b)
 h4:st.get lv (b+4)=some r.b4
 h5:st.get lv (b+5)=some (r.b5 lv b)
theorem Has.rd {st:St} {lv b:Nat} {r:AR} (h:Has st lv b r):Rd st lv (b+5) r.nodes:=⟨_,_,_,_,_,_,h.h5,h.h4⟩
theorem s_ofW {T:Tab} {f:FuncId} {body:PC} {res:List RV} {args:List AV} {st st2:St} {v:AV} (hT:T f=some (.pf ⟨false,body,res⟩))
 (h:∀ A,A=st.A++[(st.ro,st.L)]→Ru (S T) body [] (fun x e st'=>endK false res (x,e,st')=some (v,st2)) (initEnv 0 args) ⟨A,false,[]⟩):S T f args st=some (v,st2):=by
 obtain ⟨⟨x,e',st',h1,h2⟩⟩:=h _ rfl
 refine S_of hT ?_
 simp only [callBody,Bool.false_eq_true,if_false,St.push,h1,oS];exact h2
def AR.take (r:AR) (s:Nat):AR:={ r with n:=r.n-1,states:=r.states.set s 1 }
def takeSt (st:St) (lv b:Nat) (r:AR) (s:Nat):St:=(st.upd lv (b+3) ((r.take s).b3 lv b)).upd lv b (r.take s).b0
theorem take_get {st:St} {lv b:Nat} {r:AR} (h:Has st lv b r) (s:Nat) (l' i':Nat):(takeSt st lv b r s).get l' i'=if l'=lv∧i'=b then some (r.take s).b0 else if l'=lv∧i'=b+3 then some ((r.take s).b3 lv b) else st.get l' i':=by
 have g1:∀ l' i',(st.upd lv (b+3) ((r.take s).b3 lv b)).get l' i'=if l'=lv∧i'=b+3 then some ((r.take s).b3 lv b) else st.get l' i':=fun l' i'=>St.get_upd h.h3 rfl
 have b1:(st.upd lv (b+3) ((r.take s).b3 lv b)).get lv b=some r.b0:=by rw [g1,if_neg (by omega)];exact h.h0
 rw [takeSt,St.get_upd b1 rfl,g1]
theorem Has.take {st:St} {lv b:Nat} {r:AR} (h:Has st lv b r) (s:Nat):Has (takeSt st lv b r s) lv b (r.take s):=by
 refine ⟨St.wr_upd (St.wr_upd h.wr h.wr) (St.wr_upd h.wr h.wr),?_,?_,?_,?_,?_,?_⟩
 ·rw [take_get h,if_pos ⟨rfl,rfl⟩]
 ·rw [take_get h,if_neg (by omega),if_neg (by omega)];exact h.h1
 ·rw [take_get h,if_neg (by omega),if_neg (by omega)];exact h.h2
 ·rw [take_get h,if_neg (by omega),if_pos ⟨rfl,rfl⟩]
 ·rw [take_get h,if_neg (by omega),if_neg (by omega)];exact h.h4
 ·rw [take_get h,if_neg (by omega),if_neg (by omega)];exact h.h5
theorem Take_c {st:St} {lv b:Nat} {r:AR} (h:Has st lv b r) {k s g:Nat} (hn:r.n=k+1) (hk:r.blk[k]?=some (s:Int)) (hs:s<r.states.length) (hs2:s<16384) (hg:r.gens[s]?=some (g:Int)) (hg1:1≤g∧g≤4294967295) (hbig:r.n<65536) :
 S Tb F_freelist_List_Take [.ptr lv (b+3) 0 0 0] st=some (.tup [.int .u64 ((g*65536+s:Nat):Int),.int .i64 0],takeSt st lv b r s):=by
 refine s_ofW rfl (fun A hA=>?_)
 have g1:=fun L=>get_old hA (ro:=false) (L:=L) h.h1
 have g3:=fun L=>get_old hA (ro:=false) (L:=L) h.h3
 unfold AR.b1 at g1
 unfold AR.b3 at g3
 rw [hn] at g3
 have hM:=fun st=>Make_ok s g hs2 hg1 st
 repeat' (first|refine ruS rfl ?_|refine isS rfl ?_|refine rk_seq ?_|refine is_lenR rfl ?_|(refine is_eql rfl rfl (fun _=>?_) (fun _=>?_)<;>try (exfalso;omega))|refine is_subS rfl rfl (by omega) ?_|refine is_eqs rfl rfl rfl rfl ?_|refine is_ld rfl (g3 _) rfl rfl ?_)
 all_goals try (exfalso;omega)
 have hw1:∀ L,wIs 1 r.ver (St.get ⟨A,false,L⟩ lv (b+1))=true:=fun L=>by rw [g1];simp [wIs]
 refine is_ixR rfl rfl (by omega) (hw1 _) ?_
 refine is_ld (x:=.int .i64 s) rfl (g1 _) (by rw [show 0+(((k+1:Nat):Int)-1).toNat=k by omega,List.getElem?_map,hk];rfl) rfl ?_
 repeat' (first|refine ruS rfl ?_|refine isS rfl ?_|refine rk_seq ?_|refine is_lenR rfl ?_|refine is_subS rfl rfl (by omega) ?_|refine is_ld rfl (g3 _) rfl rfl ?_)
 refine is_slcR_hi rfl rfl (by omega) (hw1 _) ?_
 repeat' (refine isS rfl ?_)
 have hle:=St.get_le h.h3
 have h3':=h.h3
 unfold AR.b3 at h3'
 rw [hn] at h3'
 refine is_stP hA rfl rfl h.wr h3' rfl (seal_refL _ (Nat.lt_succ_self _)) rfl (fun A1 hA1=>?_)
 have e1:(((k+1:Nat):Int)-1).toNat=k:=by omega
 have eB:Blk.arr 4 0 ([AV.agg [.ref lv (b+1) r.ver 0 (k+1),.ref lv b 0 0 r.states.length,.ref lv (b+2) 0 0 r.gens.length,.int .u64 r.most]].set 0 (.agg [.ref lv (b+1) r.ver 0 (((k+1:Nat):Int)-1).toNat,.ref lv b 0 0 r.states.length,.ref lv (b+2) 0 0 r.gens.length,.int .u64 r.most]))=(r.take s).b3 lv b:=by
  simp [AR.b3,AR.take,hn]
 rw [eB] at hA1
 have q1:∀ l' i',(st.upd lv (b+3) ((r.take s).b3 lv b)).get l' i'=if l'=lv∧i'=b+3 then some ((r.take s).b3 lv b) else st.get l' i':=fun l' i'=>St.get_upd h.h3 rfl
 have hw:=St.wr_upd (b:=(r.take s).b3 lv b) (ix:=b+3) h.wr h.wr
 have k0:(st.upd lv (b+3) ((r.take s).b3 lv b)).get lv b=some r.b0:=by rw [q1,if_neg (by omega)];exact h.h0
 have k2:(st.upd lv (b+3) ((r.take s).b3 lv b)).get lv (b+2)=some r.b2:=by rw [q1,if_neg (by omega)];exact h.h2
 have k3:(st.upd lv (b+3) ((r.take s).b3 lv b)).get lv (b+3)=some ((r.take s).b3 lv b):=by rw [q1,if_pos ⟨rfl,rfl⟩]
 have et:takeSt st lv b r s=(st.upd lv (b+3) ((r.take s).b3 lv b)).upd lv b (r.take s).b0:=rfl
 rw [et]
 generalize st.upd lv (b+3) ((r.take s).b3 lv b)=st1 at *
 unfold AR.b0 at k0
 unfold AR.b3 AR.take at k3
 simp only [List.length_set] at k3
 have m0:=fun L=>get_old hA1 (ro:=false) (L:=L) k0
 have m3:=fun L=>get_old hA1 (ro:=false) (L:=L) k3
 have hw0:∀ L,wIs 1 0 (St.get ⟨A1,false,L⟩ lv b)=true:=fun L=>by rw [m0];simp [wIs]
 repeat' (first|refine ruS rfl ?_|refine isS rfl ?_|refine rk_seq ?_|refine is_ld rfl (m3 _) rfl rfl ?_|refine is_ixR rfl rfl (by omega) (hw0 _) ?_)
 refine is_stP hA1 (y:=.int .u8 (r.states[s]'hs)) rfl rfl hw k0 ?_ rfl rfl (fun A2 hA2=>?_)
 ·rw [show 0+((s:Nat):Int).toNat=s by omega,List.getElem?_map,List.getElem?_eq_getElem hs];rfl
 have eS:Blk.arr 1 0 ((r.states.map (AV.int .u8)).set (0+((s:Nat):Int).toNat) (.int .u8 1))=(r.take s).b0:=by
  rw [show 0+((s:Nat):Int).toNat=s by omega]
  unfold AR.b0 AR.take
  simp only [List.map_set]
 rw [eS] at hA2
 have q2:∀ l' i',(st1.upd lv b (r.take s).b0).get l' i'=if l'=lv∧i'=b then some (r.take s).b0 else st1.get l' i':=fun l' i'=>St.get_upd k0 rfl
 have n2:(st1.upd lv b (r.take s).b0).get lv (b+2)=some r.b2:=by rw [q2,if_neg (by omega)];exact k2
 have n3:(st1.upd lv b (r.take s).b0).get lv (b+3)=some (.arr 4 0 [.agg [.ref lv (b+1) r.ver 0 (r.n-1),.ref lv b 0 0 r.states.length,.ref lv (b+2) 0 0 r.gens.length,.int .u64 r.most]]):=by rw [q2,if_neg (by omega)];exact k3
 generalize st1.upd lv b (r.take s).b0=st2 at *
 unfold AR.b2 at n2
 have o2:=fun L=>get_old hA2 (ro:=false) (L:=L) n2
 have o3:=fun L=>get_old hA2 (ro:=false) (L:=L) n3
 have hw2:∀ L,wIs 1 0 (St.get ⟨A2,false,L⟩ lv (b+2))=true:=fun L=>by rw [o2];simp [wIs]
 have hsg:s<r.gens.length:=(List.getElem?_eq_some_iff.1 hg).1
 repeat' (first|refine ruS rfl ?_|refine isS rfl ?_|refine rk_seq ?_|refine is_ld rfl (o3 _) rfl rfl ?_|refine is_ixR rfl rfl (by omega) (hw2 _) ?_)
 refine is_ld (x:=.int .u64 g) rfl (o2 _) (by rw [show 0+((s:Nat):Int).toNat=s by omega,List.getElem?_map,hg];rfl) rfl ?_
 repeat' (first|refine isS rfl ?_|refine rkS rfl ?_|refine is_callE rfl rfl rfl (hM _) ?_|refine ru_ret ?_)
 refine end_st hA2 (.inr rfl) rfl rfl rfl rfl ?_
 rfl
end Go.Q15
namespace Go.Q15
open Go Go.QAbs
set_option maxRecDepth 100000
set_option maxHeartbeats 1000000
def partI {α:Type} (l:List α) (g:Int) (i:Nat):List α:=(l.drop (posI l.length g i).toNat).take (sizeI l.length g i).toNat
def rowUp (row:List Tr):List Tr:=(List.range (groupsI row.length 4).toNat).map fun i=>grp (partI row (groupsI row.length 4) i)
def buildR:Nat→List Tr→List Tr
 | 0,row=>row
 | n+1,row=>if row.length≤1 then row else buildR n (rowUp row)
noncomputable def buildM (s:List UInt8):Tr:=grp (buildR s.length ((chunksL s).map leafT))
theorem chunkG_part (s:List UInt8) (g:Int) (i:Nat):chunkG s g i=partI s g i:=rfl
theorem parts_flat {α:Type} (l:List α) {g:Int} (hg:1≤g):∀ k:Nat,k≤g.toNat→((List.range k).map (partI l g)).flatten=l.take (posI l.length g k).toNat
 | 0,_=>by rw [posI_zero l.length g (by omega)];simp
 | k+1,h=>by
  rw [List.range_succ,List.map_append,List.flatten_append,parts_flat l hg k (by omega),posI_succ]
  have h1:=posI_bounds (n:=l.length) (g:=g) (by omega) (by omega) (i:=k) (by omega)
  have h2:=sizeI_nonneg (n:=l.length) (g:=g) (by omega) (by omega) k
  simp only [List.map_cons,List.map_nil,List.flatten_cons,List.flatten_nil,lN,partI]
  rw [Int.toNat_add h1.1 h2,List.take_add]
theorem parts_all {α:Type} (l:List α) {g:Int} (hg:1≤g):((List.range g.toNat).map (partI l g)).flatten=l:=by
 rw [parts_flat l hg g.toNat (Nat.le_refl _),posI_all l.length g (by omega)]
 simp
theorem part_len {α:Type} (l:List α) {g:Int} (hg:1≤g) {i:Nat} (hi:i<g.toNat):((partI l g i).length:Int)=sizeI l.length g i:=by
 have h1:=posI_bounds (n:=l.length) (g:=g) (by omega) (by omega) (i:=i+1) (by omega)
 have h0:=posI_bounds (n:=l.length) (g:=g) (by omega) (by omega) (i:=i) (by omega)
 have h2:=sizeI_nonneg (n:=l.length) (g:=g) (by omega) (by omega) i
 rw [posI_succ] at h1
 rw [partI,List.length_take,List.length_drop];omega
theorem size_bounds {n m:Int} (hm:1≤m) (hn:1≤n) {i:Nat}:sizeI n (groupsI n m) i≤m∧n / groupsI n m≤sizeI n (groupsI n m) i:=by
 have hg:=groupsI_pos hn hm
 have e1:groupsI n m*(n / groupsI n m)+n % groupsI n m=n:=Int.mul_ediv_add_emod n (groupsI n m)
 have e2:=Int.emod_nonneg n (show groupsI n m≠0 by omega)
 have e3:n≤m*groupsI n m:=by
  have a1:m*((n-1) / m)+(n-1) % m=n-1:=Int.mul_ediv_add_emod (n-1) m
  have a2:=Int.emod_lt_of_pos (n-1) (show 0<m by omega)
  unfold groupsI
  rw [Int.mul_add];omega
 refine ⟨?_,by unfold sizeI;split<;>omega⟩
 have e4:n / groupsI n m≤m:=by
  apply Int.ediv_le_of_le_mul (by omega)
  exact e3
 unfold sizeI
 split
 ·rename_i h
  rcases Int.lt_or_le (n / groupsI n m) m with q|q
  ·omega
  ·have:n / groupsI n m=m:=by omega
   rw [this] at e1
   have:groupsI n m*m=m*groupsI n m:=Int.mul_comm _ _
   omega
 ·omega
structure Row (N:Nodes) (row:List Tr) (h:Nat) (s:List UInt8):Prop where
 val:∀ t∈row,Val N t∧t.h=h
 big:2≤row.length→∀ t∈row,Big t
 txt:Tr.txtL N row=s
theorem txtL_flat (N:Nodes) (ls:List (List Tr)) (h:∀ l∈ls,2≤l.length):Tr.txtL N (ls.map grp)=Tr.txtL N ls.flatten:=by
 induction ls with
 | nil=>rfl
 | cons a r ih =>
  rw [List.map_cons,Tr.txtL,List.flatten_cons,Tr.txtL_append,grp_txt N (h a (by simp)),ih (fun l hl=>h l (by simp [hl]))]
theorem rowUp_ok {N:Nodes} {row:List Tr} {h:Nat} {s:List UInt8} (hr:Row N row h s) (h2:2≤row.length) (hh:h+1≤16):Row N (rowUp row) (h+1) s∧(rowUp row).length<row.length∧1≤(rowUp row).length:=by
 have hg:=groupsI_pos (n:=row.length) (most:=4) (by omega) (by omega)
 have hg4:groupsI row.length 4=((row.length:Int)-1) / 4+1:=rfl
 have hlen:(rowUp row).length=(groupsI row.length 4).toNat:=by unfold rowUp;simp
 have hsz:∀ i,i<(groupsI row.length 4).toNat→2≤(partI row (groupsI row.length 4) i).length∧(partI row (groupsI row.length 4) i).length≤4:=by
  intro i hi
  have h1:=part_len row hg.1 hi
  have h3:=size_bounds (n:=row.length) (m:=4) (by omega) (by omega) (i:=i)
  have h4:2≤(row.length:Int) / groupsI row.length 4:=by
   apply (Int.le_ediv_iff_mul_le (by omega)).2
   omega
  omega
 refine ⟨⟨?_,?_,?_⟩,by omega,by omega⟩
 ·intro t ht
  unfold rowUp at ht
  obtain ⟨i,hi,rfl⟩:=List.mem_map.1 ht
  rw [List.mem_range] at hi
  obtain ⟨a,b⟩:=hsz i hi
  obtain ⟨g1,g2,g3⟩:=grp_val (N:=N) (h:=h) a b hh (fun u hu=>by
   have hm:u∈row:=List.mem_of_mem_drop (List.mem_of_mem_take hu)
   exact ⟨(hr.val u hm).1,(hr.val u hm).2,hr.big h2 u hm⟩)
  exact ⟨g1,g2⟩
 ·intro _ t ht
  unfold rowUp at ht
  obtain ⟨i,hi,rfl⟩:=List.mem_map.1 ht
  rw [List.mem_range] at hi
  obtain ⟨a,b⟩:=hsz i hi
  rw [grp_two a]
  intro q;simp [Tr.h] at q
 ·have e:rowUp row=((List.range (groupsI row.length 4).toNat).map (partI row (groupsI row.length 4))).map grp:=by unfold rowUp;rw [List.map_map];rfl
  rw [e,txtL_flat N _ (fun l hl=>by
   obtain ⟨i,hi,rfl⟩:=List.mem_map.1 hl
   rw [List.mem_range] at hi
   exact (hsz i hi).1),parts_all row hg.1,hr.txt]
theorem buildR_ok {N:Nodes} (hN:GoodN N):∀ (n:Nat) (row:List Tr) (h:Nat) (s:List UInt8),Row N row h s→row.length≤n+1→s.length≤65536→∃ h',Row N (buildR n row) h' s∧(buildR n row).length≤1∧(1≤row.length→1≤(buildR n row).length)
 | 0,row,h,s,hr,hl,hs=>⟨h,hr,by rw [buildR];omega,fun q=>q⟩
 | n+1,row,h,s,hr,hl,hs=>by
  rw [buildR]
  split
  ·exact ⟨h,hr,by assumption,fun q=>q⟩
  ·rename_i h2
   have hh:h+1≤16:=by
    match row,h2,hr with
    | t::r,h2,hr =>
     have h1:=(hr.val t (by simp))
     have h3:=txt_len hN h1.1
     have h4:(t.txt N).length≤s.length:=by rw [← hr.txt,Tr.txtL,lL];omega
     have:=h1.1.height hN (by omega)
     omega
    | [],h2,_=>simp at h2
   obtain ⟨a,b,c⟩:=rowUp_ok hr (by omega) hh
   obtain ⟨h',d,e,f⟩:=buildR_ok hN n (rowUp row) (h+1) s a (by omega) hs
   exact ⟨h',d,e,fun _=>f c⟩
theorem leafRow_ok {N:Nodes} (s:List UInt8):Row N ((chunksL s).map leafT) 0 s∧((chunksL s).map leafT).length≤s.length∧(s≠[]→1≤((chunksL s).map leafT).length):=by
 unfold chunksL
 split
 ·rename_i h
  have:s=[]:=List.length_eq_zero_iff.1 h
  subst this
  exact ⟨⟨fun t ht=>by simp at ht,fun h=>by simp at h,rfl⟩,by simp,fun q=>absurd rfl q⟩
 ·rename_i h
  have hg:=groupsI_pos (n:=s.length) (most:=16) (by omega) (by omega)
  have hsz:∀ i,i<(groupsI s.length 16).toNat→1≤(partI s (groupsI s.length 16) i).length∧(partI s (groupsI s.length 16) i).length≤16∧(2≤groupsI s.length 16→8≤(partI s (groupsI s.length 16) i).length):=by
   intro i hi
   have h1:=part_len s hg.1 hi
   have h3:=size_bounds (n:=s.length) (m:=16) (by omega) (by omega) (i:=i)
   have h4:1≤(s.length:Int) / groupsI s.length 16:=by
    apply (Int.le_ediv_iff_mul_le (by omega)).2
    omega
   refine ⟨by omega,by omega,fun h2=>?_⟩
   have hg4:groupsI s.length 16=((s.length:Int)-1) / 16+1:=rfl
   have h5:8≤(s.length:Int) / groupsI s.length 16:=by
    apply (Int.le_ediv_iff_mul_le (by omega)).2
    omega
   omega
  have hlen:(((List.range (groupsI s.length 16).toNat).map (chunkG s (groupsI s.length 16))).map leafT).length=(groupsI s.length 16).toNat:=by simp
  refine ⟨⟨?_,?_,?_⟩,by omega,fun _=>by omega⟩
  ·intro t ht
   obtain ⟨c,hc,rfl⟩:=List.mem_map.1 ht
   obtain ⟨i,hi,rfl⟩:=List.mem_map.1 hc
   rw [List.mem_range] at hi
   have:=hsz i hi
   exact ⟨leaf_val ⟨this.1,this.2.1⟩,rfl⟩
  ·intro h2 t ht
   obtain ⟨c,hc,rfl⟩:=List.mem_map.1 ht
   obtain ⟨i,hi,rfl⟩:=List.mem_map.1 hc
   rw [List.mem_range] at hi
   have:=(hsz i hi).2.2 (by omega)
   intro _
   rw [leaf_bytes,chunkG_part];omega
  ·have hf : ∀ l : List (List UInt8), Tr.txtL N (l.map leafT) = l.flatten := by
    intro l
    induction l with
    | nil=>rfl
    | cons a l ih=>rw [List.map_cons,Tr.txtL,ih,leaf_txt,List.flatten_cons]
   rw [hf]
   exact parts_all s hg.1
theorem buildM_ok {N:Nodes} (hN:GoodN N) {s:List UInt8} (hs:s.length≤65536):VE N (buildM s)∧(buildM s).txt N=s∧(buildM s).bytes=s.length:=by
 obtain ⟨a,b,c⟩:=leafRow_ok (N:=N) s
 obtain ⟨h',d,e,f⟩:=buildR_ok hN s.length _ 0 s a (by omega) hs
 unfold buildM
 generalize buildR s.length ((chunksL s).map leafT)=row at *
 match row,e,d with
 | [],_,d =>
  have:s=[]:=d.txt.symm
  subst this
  exact ⟨.inl zero_empty,rfl,rfl⟩
 | [t],_,d =>
  have h1:=(d.val t (by simp)).1
  have h2:=d.txt
  simp only [Tr.txtL,lN] at h2
  refine ⟨.inr h1,h2,?_⟩
  have:=txt_len hN h1
  rw [h2] at this
  exact this.symm
end Go.Q15
namespace Go.Q15
open Go Go.QAbs
set_option maxRecDepth 100000
set_option maxHeartbeats 8000000
theorem get_at {α:Type} (G:List α) (a:α) (r:List α):(G++a::r)[G.length]?=some a:=by
 rw [List.getElem?_append_right (Nat.le_refl _)];simp
theorem get_at1 {α:Type} (G:List α) (a b:α) (r:List α):(G++a::b::r)[G.length+1]?=some b:=by
 rw [List.getElem?_append_right (by omega)];simp
theorem set_at1 {α:Type} (G:List α) (a b c:α) (r:List α):(G++a::b::r).set (G.length+1) c=G++a::c::r:=by
 rw [List.set_append_right _ _ (by omega)];simp
theorem is_app1G {O:Orc} {k:List Fr} {Q:Post} {e:Env} {A:List (Bool × List Blk)} {L:List Blk} {keep:List Nat} {is:List PI} {d:Nat} {s x:Opd} {ix ver n:Nat} {l:List Tr} {t:Tr} (hs:opdO e s=some (.ref A.length ix ver 0 n)) (hx:opdO e x=some (.lit ([t].map Tr.av))) (hg:L[ix]?=some (Blk.arr 7 ver (l.map Tr.av))) (hb:n=l.length)
 (hl:l.length+1<4294967296) (h:Is O is keep k Q ((d,.ref A.length ix (ver+1) 0 (n+1))::e) ⟨A,false,L.set ix (Blk.arr 7 (ver+1) ((l++[t]).map Tr.av))⟩):Is O (⟨some d,none,false,.app 7 80 s x⟩::is) keep k Q e ⟨A,false,L⟩:=by
 subst hb
 refine is_appRef hs hg rfl hx (.lit _) (by simp;omega) ?_
 simpa using h
theorem is_onilG {O:Orc} {k:List Fr} {Q:Post} {e:Env} {A:List (Bool × List Blk)} {L:List Blk} {keep:List Nat} {is:List PI} {d w:Nat} (h:Is O is keep k Q ((d,.ref A.length L.length 0 0 0)::e) ⟨A,false,L++[Blk.arr w 0 []]⟩):Is O (⟨some d,none,false,.onil w⟩::is) keep k Q e ⟨A,false,L⟩ :=
 is_of (v:=.ref A.length L.length 0 0 0) (st':=⟨A,false,L++[Blk.arr w 0 []]⟩) (by simp only [evalPI,evalPO,oS,St.new_cur,newRefK]) h
theorem buildLoop {N:Nodes} (hN:GoodN N) {A:List (Bool × List Blk)} {k:List Fr} {Q:Post} {s:List UInt8} (hs:s.length≤65536) (B:Blk) (row:List Tr) (n:Nat) (r:List Tr) (hrow:Row N row 0 s) (hn:row.length≤n+1) (h64:row.length≤65536) (hr:buildR n row=r)
 (hex:∀ (G:List Blk) (ver:Nat),Rk (S Tb) k Q (.ex 2) [(2,.ptr A.length 0 0 0 0),(4,.ref A.length (B::G).length ver 0 r.length),(31,.bool false)] ⟨A,false,B::G++[.arr 7 ver (r.map Tr.av)]⟩) (ver:Nat) (ex:Env) :
 Ru (S Tb) (.loop p_plan_Build_23) k Q ((2,.ptr A.length 0 0 0 0)::(4,.ref A.length 1 ver 0 row.length)::ex) ⟨A,false,[B,.arr 7 ver (row.map Tr.av)]⟩:=by
 refine ru_loopP (α:=List Tr × List Blk × Nat × Env) (fun p=>(2,.ptr A.length 0 0 0 0)::(4,.ref A.length (B::p.2.1).length p.2.2.1 0 p.1.length)::p.2.2.2) (fun p=>⟨A,false,B::p.2.1++[.arr 7 p.2.2.1 (p.1.map Tr.av)]⟩)
  (fun p=>p.1.length≤65536∧∃ k h,p.1.length≤k+1∧Row N p.1 h s∧buildR k p.1=r) (fun p=>p.1.length) (row,[],ver,ex) rfl rfl ⟨h64,n,0,hn,hrow,hr⟩ ?_
 rintro ⟨row,G,ver,ex⟩ ⟨h64,kk,h,hk,hR,hb⟩
 simp only at h64 hk hR hb ⊢
 repeat' (first|refine ruS rfl ?_|refine isS rfl ?_|refine rkS rfl ?_|refine is_lenR rfl ?_|(refine is_gtr rfl rfl (fun _=>?_) (fun _=>?_)<;>try (exfalso;omega)))
 ·rename_i hgt
  have hgt2:2≤row.length:=by omega
  obtain ⟨kk,rfl⟩:∃ j,kk=j+1:=⟨kk-1,by omega⟩
  rw [buildR,if_neg (by omega)] at hb
  have hh:h+1≤16:=by
   match row,hgt2,hR with
   | t::r,_,hR =>
    have h1:=(hR.val t (by simp))
    have h3:=txt_len hN h1.1
    have h4:(t.txt N).length≤s.length:=by rw [← hR.txt,Tr.txtL,lL];omega
    have:=h1.1.height hN (by omega)
    omega
  obtain ⟨u1,u2,u3⟩:=rowUp_ok hR hgt2 hh
  refine is_callE rfl rfl rfl (Even_ok row.length 4 _ (by omega)) ?_
  have hg:=groupsI_pos (n:=row.length) (most:=4) (by omega) (by omega)
  have hget:=fun i hi=>sizesI_get (n:=row.length) (m:=4) (by omega) (i:=i) hi
  have hlen:=sizesI_len (n:=row.length) (m:=4) (by omega)
  have hpb:=fun (i:Nat) hi=>posI_bounds (n:=row.length) (g:=groupsI row.length 4) (by omega) (by omega) (i:=i) hi
  have hps:=posI_succ row.length (groupsI row.length 4)
  have hp0:=posI_zero row.length (groupsI row.length 4) (by omega)
  have hsn:=sizeI_nonneg (n:=row.length) (g:=groupsI row.length 4) (by omega) (by omega)
  have hrl:(rowUp row).length=(groupsI row.length 4).toNat:=by unfold rowUp;simp
  have hrg:∀ i,i<(groupsI row.length 4).toNat→(rowUp row)[i]?=some (grp (partI row (groupsI row.length 4) i)):=by
   intro i hi
   unfold rowUp
   rw [List.getElem?_map,List.getElem?_range hi];rfl
  have hpl:=fun i hi=>part_len row (g:=groupsI row.length 4) hg.1 (i:=i) hi
  have hpe:∀ i,partI row (groupsI row.length 4) i=(row.drop (posI row.length (groupsI row.length 4) i).toNat).take (sizeI row.length (groupsI row.length 4) i).toNat:=fun _=>rfl
  generalize sizesI (row.length:Int) 4=z at *
  generalize groupsI (row.length:Int) 4=g at *
  generalize rowUp row=up at *
  have hh2:∀ u∈row,u.h≤65536:=fun u hu=>by have:=(hR.val u hu).1.h16;omega
  repeat' (first|refine ruS rfl ?_|refine isS rfl ?_|refine rk_seq ?_|refine is_lenM rfl ?_|(refine is_neq rfl rfl (fun _=>?_) (fun _=>?_)<;>try (exfalso;omega))|refine is_onilG ?_)
  all_goals try (exfalso;omega)
  refine ru_loopP (α:=Nat) (fun i=>[(2,.ptr A.length 0 0 0 0),(4,.ref A.length (B::G).length ver (posI row.length g i).toNat (row.length-(posI row.length g i).toNat)),(9,.ref A.length ((B::G).length+1) i 0 i),(42,intsV z),(43,.int .i64 z.length),(44,.int .i64 i)])
   (fun i=>⟨A,false,B::G++[.arr 7 ver (row.map Tr.av),.arr 7 i ((up.take i).map Tr.av)]⟩) (fun i=>i≤z.length) (fun i=>z.length-i) 0 ?_ ?_ (Nat.zero_le _) ?_
  ·simp [hp0]
  ·simp
  intro i hi
  repeat' (first|refine ruS rfl ?_|refine isS rfl ?_|refine rkS rfl ?_|refine is_ldl rfl rfl ?_|refine is_ixM rfl rfl (by omega) (fun _=>rfl) (fun _ _=>?_)|(refine is_lss rfl rfl (fun _=>?_) (fun _=>?_)<;>try (exfalso;omega)))
  ·rename_i hlt x hx
   have hi2:i<g.toNat:=by omega
   have hx2:z[i]?=some x:=hx
   rw [hget i hi2] at hx2
   have hx3:=Option.some.inj hx2
   subst hx3
   have hb0:=hpb i (by omega)
   have hb1:=hpb (i+1) (by omega)
   rw [hps i] at hb1
   have hs0:=hsn i
   have hpl2:=hpl i hi2
   have hrg2:=hrg i hi2
   have hpe2:=hpe i
   have hps2:=hps i
   generalize posI (row.length:Int) g i=p at *
   generalize sizeI (row.length:Int) g i=q at *
   generalize partI row g i=part at *
   have hgetL:∀ b:Blk,(B::G++[.arr 7 ver (row.map Tr.av),b])[(B::G).length]?=some (.arr 7 ver (row.map Tr.av)):=fun b=>get_at _ _ _
   have hwi:wIs 7 ver (St.get ⟨A,false,B::G++[.arr 7 ver (row.map Tr.av),.arr 7 i ((up.take i).map Tr.av)]⟩ A.length (B::G).length)=true:=by
    rw [St.get_cur,hgetL];simp [vis,wIs]
   refine is_slcR_hi rfl rfl (by omega) hwi ?_
   have hSl:Sl ⟨A,false,B::G++[.arr 7 ver (row.map Tr.av),.arr 7 i ((up.take i).map Tr.av)]⟩ (.ref A.length (B::G).length ver p.toNat q.toNat) part:=by
    refine .ref (es:=row.map Tr.av) (by rw [St.get_cur,hgetL];rfl) (by omega) (by rw [List.length_map];omega) ?_
    rw [hpe2,← List.map_drop,← List.map_take]
   refine is_callE rfl rfl rfl (group_c (by omega) (fun u hu=>hh2 u (by rw [hpe2] at hu;exact List.mem_of_mem_drop (List.mem_of_mem_take hu))) hSl) ?_
   have hti:(up.take i).length=i:=by rw [List.length_take];omega
   refine is_bslTr1 rfl ?_
   refine is_app1G rfl rfl (get_at1 _ _ _ _) hti.symm (by omega) ?_
   rw [set_at1]
   have htk:=take_succ_get hrg2
   rw [← htk]
   repeat' (first|refine ru_reg ?_|refine isS rfl ?_|refine rk_seq ?_)
   have hwi2:wIs 7 ver (St.get ⟨A,false,B::G++[.arr 7 ver (row.map Tr.av),.arr 7 (i+1) ((up.take (i+1)).map Tr.av)]⟩ A.length (B::G).length)=true:=by
    rw [St.get_cur,hgetL];simp [vis,wIs]
   refine is_slcR_lo rfl rfl (by omega) hwi2 ?_
   repeat' (first|refine ru_reg ?_|refine isS rfl ?_|refine rkS rfl ?_|refine is_addS rfl rfl (by omega) ?_)
   refine ⟨i+1,⟨?_,rfl⟩,by omega,by omega⟩
   rw [show p.toNat+q.toNat=(p+q).toNat by omega,show row.length-p.toNat-q.toNat=row.length-(p+q).toNat by omega]
   simp only [hps2]
   rfl
  ·have hi2:i=up.length:=by omega
   subst hi2
   rw [List.take_length]
   refine ⟨(up,G++[.arr 7 ver (row.map Tr.av)],up.length,[]),⟨?_,?_⟩,⟨by simp only;omega,kk,h+1,by simp only;omega,u1,hb⟩,by simp only;omega⟩
   ·simp
   ·simp
 ·have hrr : buildR kk row = row := by
   cases kk with
   | zero=>rfl
   | succ j=>rw [buildR,if_pos (by omega)]
  rw [hrr] at hb
  subst hb
  exact hex G ver
theorem chunksL_len (s:List UInt8):(chunksL s).length≤s.length:=by
 have:=(leafRow_ok (N:=[]) s).2.1
 simpa using this
theorem Build_c {N:Nodes} (hN:GoodN N) (s:List UInt8) (hs:s.length≤65536) (st:St):S Tb F_plan_Build [.str s] st=some (.tup [(buildM s).av,.int .i64 0],st):=by
 refine s_of rfl (fun A hA=>?_)
 have hcl:=chunksL_len s
 have hch:=fun st=>Chunks_c s st (by omega)
 obtain ⟨ra,rb,rc⟩:=leafRow_ok (N:=N) s
 obtain ⟨h',rd,re,rf⟩:=buildR_ok hN s.length _ 0 s ra (by omega) hs
 unfold buildM
 generalize hres:buildR s.length ((chunksL s).map leafT)=r at *
 have hG:=fun {v:AV} {st:St} (hv:Sl st v r)=>group_c (by omega) (fun u hu=>by have:=(rd.val u hu).1.h16;omega) hv
 have hlen:((chunksL s).map leafT).length=(chunksL s).length:=by simp
 generalize hc:chunksL s=c at *
 unfold strsV at hch
 repeat' (first|refine ruS rfl ?_|refine isS rfl ?_|refine rk_seq ?_|refine is_lenS rfl ?_|refine is_lenM rfl ?_|(refine is_gtr rfl rfl (fun _=>?_) (fun _=>?_)<;>try (exfalso;omega))|refine is_box rfl rfl rfl ?_|refine is_onil rfl ?_|refine is_callE rfl rfl (by first|rfl|(simp only [lE,lN,lC,weaks,tr_weak,forceL];first|done|rfl)) (hch _) ?_)
 all_goals try (exfalso;omega)
 refine ru_loopP (α:=Nat) (fun i=>[(2,.ptr A.length 0 0 0 0),(4,.ref A.length 1 i 0 i),(17,.lit (c.map .str)),(18,.int .i64 c.length),(19,.int .i64 i)])
  (fun i=>⟨A,false,[.arr 7 0 [trZ],.arr 7 i ((c.take i).map fun s=>(leafT s).av)]⟩) (fun i=>i≤c.length) (fun i=>c.length-i) 0 rfl rfl (by simp) ?_
 rintro i hi
 repeat' (first|refine ruS rfl ?_|refine isS rfl ?_|refine rkS rfl ?_|refine is_ldl rfl rfl ?_|refine is_ixM rfl rfl (by omega) (fun _=>rfl) (fun _ _=>?_)|(refine is_lss rfl rfl (fun _=>?_) (fun _=>?_)<;>try (exfalso;omega))|refine is_addS rfl rfl (by omega) ?_|refine is_buildO rfl rfl rfl ?_|refine is_bslFO rfl rfl rfl rfl ?_|refine is_app1 rfl rfl rfl (by first|rfl|(simp;done)|(simp;omega)) (by first|omega|(simp<;>omega)) (by decide) rfl rfl rfl ?_)
 ·rename_i x hx
  have hx2:c[i]?=some x:=hx
  refine ⟨i+1,⟨rfl,?_⟩,by omega,by omega⟩
  simp only [take_succ_get hx2,List.map_append,List.map_cons,List.map_nil]
  rfl
 ·have hi':i=c.length:=by omega
  subst hi'
  rw [List.take_length]
  have:=buildLoop hN hs (A:=A) (.arr 7 0 [trZ]) (c.map leafT) s.length r ra (by omega) (by omega) hres (k:=[.blk 2,.seq (.seq p_plan_Build_24 .ret)]) (Q:=fun x e st'=>endK false [.c 2 true 7,.s 3] (x,e,st')=some (.tup [(grp r).av,.int .i64 0],st)) (fun G ver=>?_) c.length [(17,.lit (c.map .str)),(18,.int .i64 c.length),(19,.int .i64 c.length),(20,.bool false)]
  ·rw [List.map_map,List.length_map] at this
   exact this
  ·repeat' (first|refine ruS rfl ?_|refine isS rfl ?_|refine rkS rfl ?_|refine is_stn rfl rfl rfl rfl (tr_seal _ _ _) (tr_put _ _) ?_|refine is_callE rfl rfl (by first|rfl|(simp only [lE,lN,lC,weaks,tr_weak,forceL];first|done|rfl)) (hG (Sl.cur (get_at _ _ _) rfl)) ?_)
   exact end_tr1 hA (.inr rfl) rfl rfl rfl rfl
end Go.Q15
namespace Go.Q15
open Go Go.QAbs
set_option maxRecDepth 100000
set_option maxHeartbeats 8000000
theorem putE_new:∀ {N:Nodes} {h:Nat} {x:Nd},lk N h=none→putE (.int .u64 h) x.av (N.map nodeAV)=some ((N++[(h,x)]).map nodeAV)
 | [],h,x,_=>rfl
 | p::N,h,x,hn=>by
  rw [lk] at hn
  by_cases q:p.1=h
  ·rw [if_pos q] at hn;simp at hn
  ·rw [if_neg q] at hn
   rw [List.map_cons,putE]
   show (Option.bind (if IntKind.u64=IntKind.u64 then some ((h:Int) == (p.1:Int)) else none) fun b=>if b=true then some ((AV.int .u64 h,x.av)::N.map nodeAV) else (putE (.int .u64 h) x.av (N.map nodeAV)).map (nodeAV p::·))=_
   rw [if_pos rfl,oS,if_neg (by simp;omega),putE_new hn]
   rfl
section
variable {O:Orc} {k:List Fr} {Q:Post} {e:Env} {A:List (Bool × List Blk)} {L:List Blk} {keep:List Nat} {is:List PI} {d:Nat}
theorem is_mupdP {st:St} {x i v:Opd} {lv ix h:Nat} {w:AV} {es es':List (AV × AV)} (hA:A=st.A++[(st.ro,st.L)]) (hx:opdO e x=some (.map lv ix)) (hi:opdO e i=some (.int .u64 h)) (hv:opdO e v=some w) (hw:st.wr lv) (hg:st.get lv ix=some (.map es))
 (hs:sealV deep (lv+1) ⟨A,false,L⟩ w=some (w,⟨A,false,L⟩)) (hp:putE (.int .u64 h) w es=some es')
 (hh:∀ A',A'=(st.upd lv ix (.map es')).A++[((st.upd lv ix (.map es')).ro,(st.upd lv ix (.map es')).L)]→Is O is keep k Q e ⟨A',false,L⟩):Is O (⟨none,none,false,.mupd 0 x i v⟩::is) keep k Q e ⟨A,false,L⟩:=by
 have hl:=St.get_le hg
 refine is_of (od:=none) (v:=.undef) (st':=St.upd ⟨A,false,L⟩ lv ix (.map es')) ?_ ?_
 ·simp only [evalPI,evalPO,opdO_some hx,opdO_some hi,opdO_some hv,mupdV,keyIs,if_true,hs,oS,mupdK,get_old hA hg,mapB,hp,St.put_upd (wr_push hA hl hw) (get_old hA hg),retU]
 ·rw [upd_push hA hl]
  exact hh _ rfl
end
def AR.alloc (r:AR) (s g:Nat) (x:Nd):AR:={ r.take s with nodes:=r.nodes++[(g*65536+s,x.copy)],allocs:=r.allocs+1 }
def allocSt (st:St) (lv b:Nat) (r:AR) (s g:Nat) (x:Nd):St:=((takeSt st lv b r s).upd lv (b+4) (r.alloc s g x).b4).upd lv (b+5) ((r.alloc s g x).b5 lv b)
theorem alloc_get {st:St} {lv b:Nat} {r:AR} (h:Has st lv b r) (s g:Nat) (x:Nd) (l' i':Nat):(allocSt st lv b r s g x).get l' i'=if l'=lv∧i'=b+5 then some ((r.alloc s g x).b5 lv b) else if l'=lv∧i'=b+4 then some (r.alloc s g x).b4 else (takeSt st lv b r s).get l' i':=by
 have ht:=h.take s
 have g1:∀ l' i',((takeSt st lv b r s).upd lv (b+4) (r.alloc s g x).b4).get l' i'=if l'=lv∧i'=b+4 then some (r.alloc s g x).b4 else (takeSt st lv b r s).get l' i':=fun l' i'=>St.get_upd ht.h4 rfl
 have b1:((takeSt st lv b r s).upd lv (b+4) (r.alloc s g x).b4).get lv (b+5)=some ((r.take s).b5 lv b):=by rw [g1,if_neg (by omega)];exact ht.h5
 rw [allocSt,St.get_upd b1 rfl,g1]
theorem Has.alloc {st:St} {lv b:Nat} {r:AR} (h:Has st lv b r) (s g:Nat) (x:Nd):Has (allocSt st lv b r s g x) lv b (r.alloc s g x):=by
 have ht:=h.take s
 refine ⟨St.wr_upd (St.wr_upd ht.wr ht.wr) (St.wr_upd ht.wr ht.wr),?_,?_,?_,?_,?_,?_⟩
 ·rw [alloc_get h,if_neg (by omega),if_neg (by omega)];exact ht.h0
 ·rw [alloc_get h,if_neg (by omega),if_neg (by omega)];exact ht.h1
 ·rw [alloc_get h,if_neg (by omega),if_neg (by omega)];exact ht.h2
 ·rw [alloc_get h,if_neg (by omega),if_neg (by omega)];exact ht.h3
 ·rw [alloc_get h,if_neg (by omega),if_pos ⟨rfl,rfl⟩]
 ·rw [alloc_get h,if_pos ⟨rfl,rfl⟩]
theorem take_push {st:St} {A:List (Bool × List Blk)} {ro:Bool} {L:List Blk} (hA:A=st.A++[(st.ro,st.L)]) {lv b s:Nat} {r:AR} (hl:lv≤st.A.length) :
 takeSt ⟨A,ro,L⟩ lv b r s=⟨(takeSt st lv b r s).A++[((takeSt st lv b r s).ro,(takeSt st lv b r s).L)],ro,L⟩:=by
 unfold takeSt
 rw [upd_push hA hl]
 exact upd_push rfl (by rw [St.upd_A];exact hl)
theorem take_A (st:St) (lv b s:Nat) (r:AR):(takeSt st lv b r s).A.length=st.A.length:=by
 unfold takeSt;rw [St.upd_A,St.upd_A]
structure CanTake (r:AR) (k s g:Nat):Prop where
 n:r.n=k+1
 blk:r.blk[k]?=some (s:Int)
 st:s<r.states.length
 s16:s<16384
 gen:r.gens[s]?=some (g:Int)
 g1:1≤g
 g2:g≤4294967295
 big:r.n<65536
 new:lk r.nodes (g*65536+s)=none
 al:0≤r.allocs∧r.allocs<1000000
theorem Alloc_end {st:St} {lv b:Nat} {r:AR} (h:Has st lv b r) {k s g:Nat} (hc:CanTake r k s g) (x:Nd) (v:AV) (hone:v.one=true)
 (A:List (Bool × List Blk)) (G:List Blk) (hA:A=(takeSt st lv b r s).A++[((takeSt st lv b r s).ro,(takeSt st lv b r s).L)]) (hC:∀ L,S Tb F_slices_Clone_api_Kid_api_Kid [weak v] ⟨A,false,L⟩=some (.lit (x.ks.map Kid.av),⟨A,false,L⟩)) :
 Ru (S Tb) (.seq p_arena_Arena_Alloc_20 (.seq p_arena_Arena_Alloc_21 (.seq p_arena_Arena_Alloc_22 (.seq p_arena_Arena_Alloc_23 .ret)))) [] (fun x' e st' =>
  endK false [RV.s 4,RV.s 5] (x',e,st')=some (.tup [.int .u64 ((g*65536+s:Nat):Int),.int .i64 0],allocSt st lv b r s g x))
  [(0,.ptr lv (b+5) 0 0 0),(3,.ptr A.length 0 0 0 0),(13,.int .u64 ((g*65536+s:Nat):Int)),(14,.int .i64 0),(72,.bool false)] ⟨A,false,.arr 3 0 [.agg [.int .i64 x.h,.str x.text,v]]::G⟩:=by
 have ht:=h.take s
 have g5:=fun L=>get_old hA (ro:=false) (L:=L) ht.h5
 unfold AR.b5 at g5
 have hal:=hc.al
 have hpv:partOf (.agg [.int .i64 x.h,.str x.text,v]) false 2 1=some v:=rfl
 repeat' (first|refine ruS rfl ?_|refine is_fadr rfl rfl ?_|refine is_ldc rfl rfl rfl rfl ?_)
 refine is_callE rfl rfl rfl (hC _) ?_
 have hstv:(elemSet 3 (.agg [.int .i64 x.h,.str x.text,v]) 2 1 (.lit (x.ks.map Kid.av))).bind forceV=some x.copy.av:=rfl
 repeat' (first|refine ruS rfl ?_|refine isS rfl ?_|refine is_ldc rfl rfl rfl rfl ?_|refine rk_seq ?_|refine is_stn rfl rfl rfl rfl rfl rfl ?_|refine is_ld rfl (g5 _) rfl rfl ?_)
 have hp:=putE_new (N:=r.nodes) (x:=x.copy) hc.new
 refine is_mupdP (w:=x.copy.av) hA rfl rfl rfl ht.wr ht.h4 rfl hp (fun A1 hA1=>?_)
 have eM:Blk.map ((r.nodes++[(g*65536+s,x.copy)]).map nodeAV)=(r.alloc s g x).b4:=rfl
 rw [eM] at hA1
 have q1:∀ l' i',((takeSt st lv b r s).upd lv (b+4) (r.alloc s g x).b4).get l' i'=if l'=lv∧i'=b+4 then some (r.alloc s g x).b4 else (takeSt st lv b r s).get l' i':=fun l' i'=>St.get_upd ht.h4 rfl
 have k5:((takeSt st lv b r s).upd lv (b+4) (r.alloc s g x).b4).get lv (b+5)=some ((r.take s).b5 lv b):=by rw [q1,if_neg (by omega)];exact ht.h5
 have hw1:=St.wr_upd (b:=(r.alloc s g x).b4) (ix:=b+4) ht.wr ht.wr
 have eA:allocSt st lv b r s g x=((takeSt st lv b r s).upd lv (b+4) (r.alloc s g x).b4).upd lv (b+5) ((r.alloc s g x).b5 lv b):=rfl
 rw [eA]
 generalize (takeSt st lv b r s).upd lv (b+4) (r.alloc s g x).b4=st1 at *
 unfold AR.b5 at k5
 have m5:=fun L=>get_old hA1 (ro:=false) (L:=L) k5
 have hat:(r.take s).allocs=r.allocs:=rfl
 rw [hat] at k5 m5
 repeat' (first|refine ruS rfl ?_|refine isS rfl ?_|refine rk_seq ?_|refine is_addS rfl rfl (by omega) ?_|refine is_ld rfl (m5 _) rfl rfl ?_)
 refine is_stP hA1 rfl rfl hw1 k5 rfl rfl rfl (fun A2 hA2=>?_)
 have eB:Blk.arr 6 0 ([AV.agg [.int .i64 (r.take s).slots,.ptr lv (b+3) 0 0 0,.map lv (b+4),.int .i64 r.allocs,.int .i64 (r.take s).frees,.int .i64 (r.take s).stale]].set 0 (.agg [.int .i64 (r.take s).slots,.ptr lv (b+3) 0 0 0,.map lv (b+4),.int .i64 (r.allocs+1),.int .i64 (r.take s).frees,.int .i64 (r.take s).stale]))=(r.alloc s g x).b5 lv b:=rfl
 rw [eB] at hA2
 repeat' (first|refine ruS rfl ?_|refine isS rfl ?_|refine rkS rfl ?_)
 refine end_st hA2 (.inr rfl) rfl rfl rfl rfl ?_
 rfl
theorem Alloc_leaf {st:St} {lv b:Nat} {r:AR} (h:Has st lv b r) {k s g:Nat} (hc:CanTake r k s g) (text:List UInt8) (ht:leafP text) :
 S Tb F_arena_Arena_Alloc [.ptr lv (b+5) 0 0 0,.agg [.int .i64 (0:Nat),.str text,.nils]] st=some (.tup [.int .u64 ((g*65536+s:Nat):Int),.int .i64 0],allocSt st lv b r s g ⟨0,text,none⟩):=by
 refine s_ofW rfl (fun A hA=>?_)
 have hN:=fun st=>nCheck_c ⟨0,text,none⟩ (.inl ⟨rfl,ht.1,ht.2,rfl⟩) st
 simp only [Nd.av,slV] at hN
 have g5:=fun L=>get_old hA (ro:=false) (L:=L) h.h5
 unfold AR.b5 at g5
 repeat' (first|refine ruS rfl ?_|refine isS rfl ?_|refine is_ldc rfl rfl rfl rfl ?_|refine rkS rfl ?_|refine is_lenN rfl ?_|(refine is_lss rfl rfl (fun _=>?_) (fun _=>?_)<;>try (exfalso;omega))|(refine is_neq rfl rfl (fun _=>?_) (fun _=>?_)<;>try (exfalso;omega))|refine is_eqs rfl rfl rfl rfl ?_|refine is_box rfl rfl rfl ?_|refine is_callE rfl rfl rfl (hN _) ?_|refine ru_unroll ?_|refine is_ld rfl (g5 _) rfl rfl ?_)
 all_goals try (exfalso;omega)
 have hle:=St.get_le h.h3
 have hTk:=fun L=>Take_c (st:=⟨A,false,L⟩) ⟨wr_push hA hle h.wr,get_old hA h.h0,get_old hA h.h1,get_old hA h.h2,get_old hA h.h3,get_old hA h.h4,get_old hA h.h5⟩ hc.n hc.blk hc.st hc.s16 hc.gen ⟨hc.g1,hc.g2⟩ hc.big
 refine is_callE rfl rfl rfl (hTk _) ?_
 rw [take_push hA hle]
 obtain ⟨A1,hA1⟩:∃ A1,A1=(takeSt st lv b r s).A++[((takeSt st lv b r s).ro,(takeSt st lv b r s).L)]:=⟨_,rfl⟩
 rw [← hA1]
 have hlen:A.length=A1.length:=by rw [hA,hA1,lL,lL,take_A];rfl
 rw [hlen]
 refine is_mv rfl ?_
 refine is_ext rfl rfl ?_
 refine is_ext rfl rfl ?_
 refine is_mv rfl ?_
 refine is_mv rfl ?_
 refine is_nil rfl ?_
 refine rk_seq ?_
 refine ru_seq ?_
 refine ru_seq ?_
 refine ru_reg ?_
 refine is_mv rfl ?_
 refine is_neq rfl rfl (fun q=>absurd rfl q) (fun _=>?_)
 refine is_nil rfl ?_
 refine rk_seq ?_
 refine ru_iteF rfl ?_
 refine ru_skip ?_
 refine rk_seq ?_
 have:=Alloc_end h hc ⟨0,text,none⟩ .nils rfl A1 [] hA1 (fun L=>clone_n _)
 exact this
section
variable {O:Orc} {k:List Fr} {Q:Post} {e:Env} {A:List (Bool × List Blk)} {L:List Blk} {keep:List Nat} {is:List PI} {d:Nat}
theorem is_ld1 {agg:Bool} {n:Nat} {a:Opd} {ver i o w:Nat} {es:List AV} {x v:AV} {c:Blk} (ha:opdO e a=some (.ptr A.length L.length ver i o)) (hx:es[i]?=some x) (hv:partOf x agg o n=some v)
 (h:Is O is keep k Q ((d,v)::e) ⟨A,false,L++[Blk.arr w ver es]++[c]⟩):Is O (⟨some d,none,false,.ld agg n a⟩::is) keep k Q e ⟨A,false,L++[Blk.arr w ver es]++[c]⟩ :=
 is_ldc (w:=w) ha (by rw [List.append_assoc];exact get_at L _ _) hx hv h
theorem is_ld2 {agg:Bool} {n:Nat} {a:Opd} {ver i o w:Nat} {es:List AV} {x v:AV} {c c2:Blk} (ha:opdO e a=some (.ptr A.length L.length ver i o)) (hx:es[i]?=some x) (hv:partOf x agg o n=some v)
 (h:Is O is keep k Q ((d,v)::e) ⟨A,false,L++[Blk.arr w ver es]++[c]++[c2]⟩):Is O (⟨some d,none,false,.ld agg n a⟩::is) keep k Q e ⟨A,false,L++[Blk.arr w ver es]++[c]++[c2]⟩ :=
 is_ldc (w:=w) ha (by rw [List.append_assoc,List.append_assoc];exact get_at L _ _) hx hv h
end
def KidsLive (N:Nodes) (n:Nat) (ks:List Kid):Prop:=∀ k∈ks,∃ y,lk N k.at_=some y∧NdOk y∧y.h=n∧y.mea=k.m
end Go.Q15
namespace Go.Q15
open Go Go.QAbs
set_option maxRecDepth 100000
set_option maxHeartbeats 8000000
theorem findH_app {j i:Nat}:∀ {L0 T:List Blk},findH j T=some i→findH j (L0++T)=some (L0.length+i)
 | [],T,h=>by simpa using h
 | b::L0,T,h=>by
  have:=findH_app (L0:=L0) h
  unfold findH
  rw [lC]
  simp only [this,List.length_cons]
  congr 1;omega
theorem set_app:∀ {L0 T:List Blk} {i:Nat} {b:Blk},(L0++T).set (L0.length+i) b=L0++T.set i b
 | [],T,i,b=>by simp
 | c::L0,T,i,b=>by
  rw [lC,List.length_cons,show L0.length+1+i=(L0.length+i)+1 by omega,List.set_cons_succ,set_app];rfl
theorem get_app:∀ {L0 T:List Blk} {i:Nat},(L0++T)[L0.length+i]?=T[i]?
 | [],T,i=>by simp
 | c::L0,T,i=>by
  rw [lC,List.length_cons,show L0.length+1+i=(L0.length+i)+1 by omega,List.getElem?_cons_succ,get_app]
section
variable {O:Orc} {k:List Fr} {Q:Post} {e:Env} {A:List (Bool × List Blk)} {L L0 T T':List Blk} {keep:List Nat} {is:List PI} {d:Nat}
theorem ru_regH {js:List Nat} (h:Is O is keep k Q e ⟨A,false,L++js.map Blk.hole⟩):Ru O (.regH js keep is) k Q e ⟨A,false,L⟩:=by
 obtain ⟨e',st',h1,h2⟩:=h.h
 refine ⟨⟨.norm,keepEnv keep e',st',?_,h2⟩⟩
 simp only [exec,padH,Bool.false_eq_true,if_false,oS,h1,regK]
theorem is_here {j i w bytes:Nat} {z:AV} {l c:Opd} {n:Int} (hl:opdO e l=some (.int .i64 n)) (hc:opdO e c=some (.int .i64 n)) (hn:0≤n∧n<4294967296) (hb:bytes≤4096) (hf:findH j T=some i)
 (hL:forceB (T.set i (Blk.arr w 0 (List.replicate n.toNat z)))=some T') (h:Is O is keep k Q ((d,.ref A.length (L0.length+i) 0 0 n.toNat)::e) ⟨A,false,L0++T'⟩):Is O (⟨some d,none,false,.w (.here j) (.mkslice w bytes z l c)⟩::is) keep k Q e ⟨A,false,L0++T⟩:=by
 rw [← forceB_some hL,← set_app] at h
 refine is_of (v:=.ref A.length (L0.length+i) 0 0 n.toNat) (st':=⟨A,false,(L0++T).set (L0.length+i) (Blk.arr w 0 (List.replicate n.toNat z))⟩) ?_ h
 simp only [evalPI,evalW,newOf,opdO_some hl,opdO_some hc,mkslB,if_pos (show 0≤n∧n≤n∧n<4294967296∧bytes≤4096 by omega),oS,hereV,immB,and_self,if_true,findH_app hf,fillK]
theorem is_boxA {x:Opd} {v v':AV} {w m:Nat} (hx:opdO e x=some v) (hw:v.wide=some w) (hv:forceV v=some v') (hm:lenO T=some m) (hL:forceB (T++[Blk.arr w 0 [v']])=some T') (h:Is O is keep k Q ((d,.ptr A.length (L0.length+m) 0 0 0)::e) ⟨A,false,L0++T'⟩):Is O (⟨some d,none,false,.box x⟩::is) keep k Q e ⟨A,false,L0++T⟩:=by
 rw [← forceB_some hL,← lenO_some hm,← List.append_assoc,← lL] at h
 exact is_boxG hx hw hv h
theorem is_mkmapA {m:Nat} (hm:lenO T=some m) (hL:forceB (T++[Blk.map []])=some T') (h:Is O is keep k Q ((d,.map A.length (L0.length+m))::e) ⟨A,false,L0++T'⟩):Is O (⟨some d,none,false,.mkmap⟩::is) keep k Q e ⟨A,false,L0++T⟩:=by
 rw [← forceB_some hL,← lenO_some hm,← List.append_assoc,← lL] at h
 exact is_of (v:=.map A.length (L0++T).length) (st':=⟨A,false,L0++T++[Blk.map []]⟩) (by simp only [evalPI,evalPO,oS,St.new_cur,newMapK]) h
theorem is_ldA {agg:Bool} {n:Nat} {a:Opd} {ix ver i o w:Nat} {es:List AV} {x v:AV} (ha:opdO e a=some (.ptr A.length (L0.length+ix) ver i o)) (hg:T[ix]?=some (Blk.arr w ver es)) (hx:es[i]?=some x) (hv:partOf x agg o n=some v)
 (h:Is O is keep k Q ((d,v)::e) ⟨A,false,L0++T⟩):Is O (⟨some d,none,false,.ld agg n a⟩::is) keep k Q e ⟨A,false,L0++T⟩ :=
 is_ldc ha (by rw [get_app];exact hg) hx hv h
theorem is_ixRA {w:Nat} {x i:Opd} {ix ver s m:Nat} {n:Int} {es:List AV} (hx:opdO e x=some (.ref A.length (L0.length+ix) ver s m)) (hi:opdO e i=some (.int .i64 n)) (hn:0≤n∧n<m) (hg:T[ix]?=some (Blk.arr w ver es)) (h:Is O is keep k Q ((d,.ptr A.length (L0.length+ix) ver (s+n.toNat) 0)::e) ⟨A,false,L0++T⟩):Is O (⟨some d,none,false,.ixS w x i⟩::is) keep k Q e ⟨A,false,L0++T⟩ :=
 is_ixRc hx hi hn (by rw [get_app];exact hg) h
theorem is_stA {n:Nat} {a x:Opd} {ix ver i o w:Nat} {es:List AV} {v v' y:AV} (ha:opdO e a=some (.ptr A.length (L0.length+ix) ver i o)) (hx:opdO e x=some v) (hg:T[ix]?=some (Blk.arr w ver es)) (hy:es[i]?=some y)
 (hs:sealV deep (A.length+1) ⟨A,false,L0++T⟩ v=some (v,⟨A,false,L0++T⟩)) (hv:(elemSet w y o n v).bind forceV=some v') (hL:forceB (T.set ix (Blk.arr w ver (es.set i v')))=some T') (h:Is O is keep k Q e ⟨A,false,L0++T'⟩):Is O (⟨none,none,false,.st n a x⟩::is) keep k Q e ⟨A,false,L0++T⟩:=by
 rw [← forceB_some hL,← set_app] at h
 exact is_stn (by rw [get_app];exact hg) ha hx hy hs hv h
end
def newAR (n g:Nat):AR:=⟨(List.range n).map fun (j:Nat)=>(n:Int)-1-j,n,0,List.replicate n 0,List.replicate n 1,g,[],n,0,0,0⟩
theorem map_range_set {n i:Nat} {k:IntKind} {f:Nat→Int} {z:Int} (hi:i<n):((List.range n).map fun j=>AV.int k (if j<i then f j else z)).set i (.int k (f i))=(List.range n).map fun j=>AV.int k (if j<i+1 then f j else z):=by
 apply List.ext_getElem
 ·simp
 ·intro j hj hj'
  simp only [List.getElem_set,List.getElem_map,List.getElem_range]
  by_cases q:i=j
  ·subst q;simp
  ·rw [if_neg q]
   have:j<i+1↔j<i:=by omega
   simp only [this]
theorem flNew_c (n g:Nat) (hn:1≤n∧n≤16384) (hg:1≤g∧g≤4294967295) (A:List (Bool × List Blk)) (L0:List Blk) :
 S Tb F_freelist_New [.int .i64 n,.int .u64 g] ⟨A,false,L0⟩=some (.tup [.ptr A.length (L0.length+3) 0 0 0,.int .i64 0],⟨A,false,L0++[(newAR n g).b0,(newAR n g).b1,(newAR n g).b2,(newAR n g).b3 A.length L0.length]⟩):=by
 refine s_keep rfl ?_
 have hmap:∀ (k:IntKind) (z:Int),List.replicate n (AV.int k z)=(List.range n).map fun (j:Nat)=>AV.int k (if j<0 then (fun (j:Nat)=>(n:Int)-1-j) j else z):=by
  intro k z;simp only [Nat.not_lt_zero,if_false,List.map_const',List.length_range]
 have hmap1:List.replicate n (AV.int .u64 0)=(List.range n).map fun j=>AV.int .u64 (if j<0 then (fun _=>(1:Int)) j else 0):=by
  simp only [Nat.not_lt_zero,if_false,List.map_const',List.length_range]
 repeat' (first|refine ruS rfl ?_|refine isS rfl ?_|refine rk_seq ?_|(refine is_lss rfl rfl (fun _=>?_) (fun _=>?_)<;>try (exfalso;omega))|(refine is_gtr rfl rfl (fun _=>?_) (fun _=>?_)<;>try (exfalso;omega))|refine is_buildO rfl rfl rfl ?_|refine is_boxG rfl rfl rfl ?_|refine ru_regH ?_|refine is_here rfl rfl (by omega) (by decide) rfl rfl ?_)
 simp only [lL,List.length_cons,List.length_nil,List.append_assoc,lC,lE,Int.toNat_natCast,Nat.zero_add]
 rw [hmap .i64 0,hmap1]
 refine ru_loopP (α:=Nat) (fun i=>[(0,.int .i64 n),(6,.ptr A.length (L0.length+3) 0 0 0),(31,.int .i64 n),(32,.int .i64 i)])
  (fun i=>⟨A,false,L0++[.arr 1 0 (List.replicate n (.int .u8 0)),.arr 1 0 ((List.range n).map fun (j:Nat)=>.int .i64 (if j<i then (fun (j:Nat)=>(n:Int)-1-j) j else 0)),.arr 1 0 ((List.range n).map fun (j:Nat)=>.int .u64 (if j<i then (fun _=>(1:Int)) j else 0)),.arr 4 0 [.agg [.ref A.length (L0.length+1) 0 0 n,.ref A.length (L0.length+0) 0 0 n,.ref A.length (L0.length+2) 0 0 n,.int .u64 g]]]⟩)
  (fun i=>i≤n) (fun i=>n-i) 0 rfl rfl (Nat.zero_le _) ?_
 intro i hi
 repeat' (first|refine ruS rfl ?_|refine isS rfl ?_|refine rkS rfl ?_|(refine is_lss rfl rfl (fun _=>?_) (fun _=>?_)<;>try (exfalso;omega))|refine is_subS rfl rfl (by omega) ?_|refine is_ldA rfl rfl rfl rfl ?_|refine is_ixRA rfl rfl (by omega) rfl ?_)
 ·simp only [Nat.zero_add,Int.toNat_natCast]
  refine is_stA (y:=.int .i64 0) rfl rfl rfl ?_ rfl rfl rfl ?_
  ·rw [List.getElem?_map,List.getElem?_range (by omega)];simp
  rw [map_range_set (f:=fun (j:Nat)=>(n:Int)-1-j) (by omega)]
  repeat' (first|refine ru_reg ?_|refine isS rfl ?_|refine rk_seq ?_|refine is_ldA rfl rfl rfl rfl ?_|refine is_ixRA rfl rfl (by omega) rfl ?_)
  simp only [Nat.zero_add,Int.toNat_natCast]
  refine is_stA (y:=.int .u64 0) rfl rfl rfl ?_ rfl rfl rfl ?_
  ·rw [List.getElem?_map,List.getElem?_range (by omega)];simp
  rw [map_range_set (f:=fun (j:Nat)=>(1:Int)) (by omega)]
  repeat' (first|refine ru_reg ?_|refine isS rfl ?_|refine rkS rfl ?_|refine is_addS rfl rfl (by omega) ?_)
  exact ⟨i+1,⟨rfl,rfl⟩,by omega,by omega⟩
 ·obtain rfl:i=n:=by omega
  have e1:∀ (k:IntKind) (f:Nat→Int),((List.range i).map fun (j:Nat)=>AV.int k (if j<i then f j else 0))=(List.range i).map fun j=>.int k (f j):=by
   intro k f
   apply List.map_congr_left
   intro j hj
   rw [List.mem_range] at hj
   rw [if_pos hj]
  simp only [e1,AR.b0,AR.b1,AR.b2,AR.b3,newAR,List.map_replicate,List.map_map,List.length_replicate]
  simp only [List.map_const',List.length_range]
  rfl
theorem arNew_c (n g:Nat) (hn:1≤n∧n≤16384) (hg:1≤g∧g≤4294967295) (A:List (Bool × List Blk)) (L0:List Blk) :
 S Tb F_arena_New [.int .i64 n,.int .u64 g] ⟨A,false,L0⟩=some (.tup [.ptr A.length (L0.length+5) 0 0 0,.int .i64 0],⟨A,false,L0++[(newAR n g).b0,(newAR n g).b1,(newAR n g).b2,(newAR n g).b3 A.length L0.length,(newAR n g).b4,(newAR n g).b5 A.length L0.length]⟩):=by
 refine s_keep rfl ?_
 repeat' (first|refine ruS rfl ?_|refine isS rfl ?_|refine rkS rfl ?_|(refine is_neq rfl rfl (fun _=>?_) (fun _=>?_)<;>try (exfalso;omega))|refine is_buildO rfl rfl rfl ?_|refine is_boxG rfl rfl rfl ?_|refine is_callE rfl rfl rfl (flNew_c n g hn hg A L0) ?_|refine is_mkmapA rfl rfl ?_)
 simp only [lL,List.append_assoc,lC,lE]
 rfl
end Go.Q15
namespace Go.Q15
open Go Go.QAbs
set_option maxRecDepth 100000
set_option maxHeartbeats 8000000
end Go.Q15
namespace Go.Q15
open Go Go.QAbs
set_option maxRecDepth 100000
set_option maxHeartbeats 8000000
end Go.Q15
namespace Go.Q15
open Go Go.QAbs
set_option maxRecDepth 100000
set_option maxHeartbeats 8000000
end Go.Q15
namespace Go.Q15
open Go Go.QAbs
set_option maxRecDepth 100000
set_option maxHeartbeats 8000000
end Go.Q15
namespace Go.Q15
open Go Go.QAbs
set_option maxRecDepth 100000
set_option maxHeartbeats 8000000
end Go.Q15
namespace Go.Q15
open Go Go.QAbs
set_option maxRecDepth 100000
set_option maxHeartbeats 8000000
end Go.Q15
namespace Go.Q15
open Go Go.QAbs
set_option maxRecDepth 100000
set_option maxHeartbeats 8000000
end Go.Q15
namespace Go.Q15
open Go Go.QAbs
set_option maxRecDepth 100000
set_option maxHeartbeats 8000000
end Go.Q15
namespace Go.Q15
open Go Go.QAbs
set_option maxRecDepth 100000
set_option maxHeartbeats 8000000
end Go.Q15
namespace Go.Q15
open Go Go.QAbs
set_option maxRecDepth 100000
set_option maxHeartbeats 8000000
theorem KRef.allRo {st:St} {lv ix ver:Nat} {ks:List Kid} (h:KRef st lv ix ver ks):KRef st.allRo lv ix ver ks:=by
 obtain ⟨es,h1,h2⟩:=h
 exact ⟨es,by rw [allRo_get];exact h1,h2⟩
end Go.Q15
namespace Go.Q15
open Go Go.QAbs
set_option maxRecDepth 100000
set_option maxHeartbeats 8000000
def itemAV (p:Nat × Nd):AV:=.agg [.int .u64 p.1,.int .i64 p.2.h,.str p.2.text,.lit (p.2.ks.map Kid.av)]
inductive Its (st:St):AV→Nodes→Prop
 | nil:Its st .nils []
 | ref {lv ix ver n:Nat} {N:Nodes} {es:List AV} (hg:st.get lv ix=some (.arr 4 ver es)) (hn:n=N.length) (he:es.take n=N.map itemAV):Its st (.ref lv ix ver 0 n) N
theorem Its.push {st:St} {A:List (Bool × List Blk)} {ro:Bool} {L:List Blk} (hA:A=st.A++[(st.ro,st.L)]) {v:AV} {N:Nodes} (h:Its st v N):Its ⟨A,ro,L⟩ v N:=by
 cases h with
 | nil=>exact .nil
 | ref hg hn he=>exact .ref (get_old hA hg) hn he
end Go.Q15
namespace Go.Q15
open Go Go.QAbs
set_option maxRecDepth 100000
set_option maxHeartbeats 8000000
noncomputable def replM (N:Nodes) (t:Tr) (a n:Int) (s:List UInt8):Tr :=
 if n=0∧s=[] then t
 else concM N (concM N (cutF N t.h t a).1 (buildM s)) (cutF N (cutF N t.h t a).2.h (cutF N t.h t a).2 n).2
structure ReplOk (N:Nodes) (t:Tr) (a n:Int) (s:List UInt8) (r:Tr):Prop where
 ve:VE N r
 txt:r.txt N=(t.txt N).take a.toNat++s++(t.txt N).drop (a+n).toNat
 bytes:r.bytes=t.bytes-n+s.length
theorem replM_ok {N:Nodes} (hN:GoodN N) {t:Tr} (ht:VE N t) {a n:Int} {s:List UInt8} (h0:0≤a) (h1:0≤n) (h2:a+n≤t.bytes) (hb:t.bytes≤65536) (hs:t.bytes-n+s.length≤65536):ReplOk N t a n s (replM N t a n s):=by
 unfold replM
 split
 ·rename_i h
  obtain ⟨rfl,rfl⟩:=h
  exact ⟨ht,by simp,by simp⟩
 ·have c1:=cutF_ok hN t.h t a ht rfl h0 (by omega) hb
  generalize cutF N t.h t a=q at *
  obtain ⟨l,m⟩:=q
  simp only at *
  have hm:=c1.rb
  have hl:=c1.lb
  simp only at hm hl
  have c2:=cutF_ok hN m.h m n c1.r rfl h1 (by omega) (by omega)
  generalize cutF N m.h m n=q at *
  obtain ⟨d,r⟩:=q
  simp only at *
  have hr:=c2.rb
  simp only at hr
  obtain ⟨b1,b2,b3⟩:=buildM_ok hN (s:=s) (by omega)
  have k1:=concM_ok hN c1.l b1 (by rw [b3];simp only;omega)
  have k2:=concM_ok hN k1.ve c2.r (by rw [k1.bytes,b3];simp only;omega)
  refine ⟨k2.ve,?_,by rw [k2.bytes,k1.bytes,b3];simp only;omega⟩
  rw [k2.txt,k1.txt,b2]
  have e1:=c1.lt
  have e2:=c1.rt
  have e3:=c2.rt
  simp only at e1 e2 e3 ⊢
  rw [e1,e3,e2,List.drop_drop,show a.toNat+n.toNat=(a+n).toNat by omega]
theorem Replace_c {N:Nodes} (hN:GoodN N) {st:St} {lv ix:Nat} (hr:Rd st lv ix N) {t:Tr} (ht:VE N t) {a n:Int} {s:List UInt8} (h0:0≤a) (h1:0≤n) (h2:a+n≤t.bytes) (hb:t.bytes≤65536) (hs:t.bytes-n+s.length≤65536) :
 S Tb F_plan_Replace [.ptr lv ix 0 0 0,t.av,.int .i64 a,.int .i64 n,.str s] st=some (.tup [(replM N t a n s).own.av,.int .i64 0],st):=by
 refine s_of rfl (fun A hA=>?_)
 have hrp:=fun L=>hr.push hA (ro:=false) (L:=L)
 have hC:=fun L=>Check_ve (hrp L) ht hb
 have hB:=fun st=>bytes_c t ht.pos.1 (by omega) st
 have hpos:=ht.pos.2
 by_cases hz:n=0∧s=[]
 ·have he:replM N t a n s=t:=by unfold replM;rw [if_pos hz]
  rw [he]
  obtain ⟨rfl,rfl⟩:=hz
  have hO:=fun st=>own_c t ht.pos.1 st
  generalize t.own=o at *
  repeat' (first|refine ruS rfl ?_|refine isS rfl ?_|refine rkS rfl ?_|refine is_lenSF rfl rfl ?_|(refine is_lss rfl rfl (fun _=>?_) (fun _=>?_)<;>try (exfalso;omega))|(refine is_gtr rfl rfl (fun _=>?_) (fun _=>?_)<;>try (exfalso;omega))|(refine is_eql rfl rfl (fun _=>?_) (fun _=>?_)<;>try (exfalso;omega))|(refine is_neq rfl rfl (fun _=>?_) (fun _=>?_)<;>try (exfalso;omega))|(refine is_eqlS rfl rfl (fun _=>?_) (fun _=>?_)<;>try contradiction)|refine is_subS rfl rfl (by omega) ?_|refine is_buildO rfl rfl rfl ?_|refine is_box rfl rfl rfl ?_|refine is_stb rfl rfl rfl rfl rfl rfl ?_|refine is_ldc rfl rfl rfl (tr_part _) ?_|refine is_stb rfl rfl rfl (tr_seal _ _ _) (tr_put _ _) rfl ?_|refine is_boxG rfl (tr_wide _) (tr_force _) ?_|refine is_callE rfl rfl (by first|rfl|(simp only [lE,lN,lC,weaks,tr_weak,forceL];first|done|rfl)) (hC _) ?_|refine is_callE rfl rfl (by first|rfl|(simp only [lE,lN,lC,weaks,tr_weak,forceL];first|done|rfl)) (hB _) ?_|refine is_callE rfl rfl (by first|rfl|(simp only [lE,lN,lC,weaks,tr_weak,forceL];first|done|rfl)) (hO _) ?_|refine is_mnx rfl rfl ?_)
  all_goals try (simp only [Bool.false_eq_true,if_false] at *)
  all_goals try (exfalso;omega)
  all_goals first|(exact end_tr1 hA (.inr rfl) rfl rfl rfl rfl)|(exact absurd ⟨by assumption,by assumption⟩ hz)
 ·have hK1:=fun L=>cut_c hN t.h (hrp L) ht rfl a h0 (by omega) hb
  have c1:=cutF_ok hN t.h t a ht rfl h0 (by omega) hb
  have hrm:replM N t a n s=concM N (concM N (cutF N t.h t a).1 (buildM s)) (cutF N (cutF N t.h t a).2.h (cutF N t.h t a).2 n).2:=by unfold replM;rw [if_neg hz]
  have hO0:=(replM_ok hN ht h0 h1 h2 hb hs).ve.pos.1
  generalize cutF N t.h t a=q at *
  obtain ⟨l,m⟩:=q
  simp only at *
  have hm:=c1.rb
  have hl:=c1.lb
  have vl:=c1.l
  have vm:=c1.r
  simp only at hm hl vl vm
  have hK2:=fun L=>cut_c hN m.h (hrp L) vm rfl n h1 (by omega) (by omega)
  have c2:=cutF_ok hN m.h m n vm rfl h1 (by omega) (by omega)
  generalize cutF N m.h m n=q at *
  obtain ⟨d,r⟩:=q
  simp only at *
  have vr:=c2.r
  have hrb:=c2.rb
  simp only at vr hrb
  obtain ⟨b1,b2,b3⟩:=buildM_ok hN (s:=s) (by omega)
  have hBu:=fun st=>Build_c hN s (by omega) st
  generalize buildM s=b at *
  have hc1:=fun L=>concat_c hN (hrp L) vl b1
  have k1:=(concM_ok hN vl b1 (by omega)).ve
  generalize concM N l b=z1 at *
  have hc2:=fun L=>concat_c hN (hrp L) k1 vr
  generalize concM N z1 r=z2 at *
  rw [hrm] at hO0 ⊢
  have hO:=fun st=>own_c z2 hO0 st
  generalize z2.own=zo at *
  have hmin:∀ x:Int,min x 65536≤x∧min x 65536≤65536∧(min x 65536=x∨min x 65536=65536):=fun x=>by omega
  have hmin2:=hmin s.length
  repeat' (first|refine ruS rfl ?_|refine isS rfl ?_|refine rkS rfl ?_|refine is_lenS rfl ?_|(refine is_lss rfl rfl (fun _=>?_) (fun _=>?_)<;>try (exfalso;omega))|(refine is_gtr rfl rfl (fun _=>?_) (fun _=>?_)<;>try (exfalso;omega))|(refine is_eql rfl rfl (fun _=>?_) (fun _=>?_)<;>try (exfalso;omega))|(refine is_neq rfl rfl (fun _=>?_) (fun _=>?_)<;>try (exfalso;omega))|(refine is_eqlS rfl rfl (fun _=>?_) (fun _=>?_)<;>try contradiction)|refine is_subS rfl rfl (by omega) ?_|refine is_buildO rfl rfl rfl ?_|refine is_box rfl rfl rfl ?_|refine is_stb rfl rfl rfl rfl rfl rfl ?_|refine is_ldc rfl rfl rfl (tr_part _) ?_|refine is_stb rfl rfl rfl (tr_seal _ _ _) (tr_put _ _) rfl ?_|refine is_boxG rfl (tr_wide _) (tr_force _) ?_|refine is_callE rfl rfl (by first|rfl|(simp only [lE,lN,lC,weaks,tr_weak,forceL];first|done|rfl)) (hC _) ?_|refine is_callE rfl rfl (by first|rfl|(simp only [lE,lN,lC,weaks,tr_weak,forceL];first|done|rfl)) (hB _) ?_|refine is_callE rfl rfl (by first|rfl|(simp only [lE,lN,lC,weaks,tr_weak,forceL];first|done|rfl)) (hK1 _) ?_|refine is_callE rfl rfl (by first|rfl|(simp only [lE,lN,lC,weaks,tr_weak,forceL];first|done|rfl)) (hK2 _) ?_|refine is_callE rfl rfl (by first|rfl|(simp only [lE,lN,lC,weaks,tr_weak,forceL];first|done|rfl)) (hBu _) ?_|refine is_callE rfl rfl (by first|rfl|(simp only [lE,lN,lC,weaks,tr_weak,forceL];first|done|rfl)) (hc1 _) ?_|refine is_callE rfl rfl (by first|rfl|(simp only [lE,lN,lC,weaks,tr_weak,forceL];first|done|rfl)) (hc2 _) ?_|refine is_callE rfl rfl (by first|rfl|(simp only [lE,lN,lC,weaks,tr_weak,forceL];first|done|rfl)) (hO _) ?_|refine is_mnx rfl rfl ?_)
  all_goals try (simp only [Bool.false_eq_true,if_false] at *)
  all_goals try (exfalso;omega)
  all_goals first|(exact end_tr1 hA (.inr rfl) rfl rfl rfl rfl)|(exact absurd ⟨by assumption,by assumption⟩ hz)
end Go.Q15
namespace Go.Q15
open Go Go.QAbs
set_option maxRecDepth 100000
set_option maxHeartbeats 4000000
def hd (N:Nodes):Nat:=1*65536+N.length
def Ord (N:Nodes):Prop:=∀ i p,N[i]?=some p→p.1=1*65536+i
theorem lk_none:∀ {N:Nodes} {o:Nat},(∀ p∈N,p.1≠o)→lk N o=none
 | [],o,_=>rfl
 | p::N,o,h=>by
  rw [lk,if_neg (h p (by simp))]
  exact lk_none (fun q hq=>h q (by simp [hq]))
theorem lk_app:∀ {N M:Nodes} {o:Nat},lk (N++M) o=(lk N o).or (lk M o)
 | [],M,o=>by simp [lk]
 | p::N,M,o=>by
  rw [lC,lk,lk]
  by_cases c:p.1=o
  ·rw [if_pos c,if_pos c];rfl
  ·rw [if_neg c,if_neg c,lk_app]
theorem lk_mono {N M:Nodes} {o:Nat} {x:Nd} (h:lk N o=some x):lk (N++M) o=some x:=by rw [lk_app,h];rfl
theorem Ord.fresh {N:Nodes} (h:Ord N):lk N (hd N)=none:=by
 refine lk_none (fun p hp=>?_)
 obtain ⟨i,hi⟩:=List.mem_iff_getElem?.1 hp
 have h1:=h i p hi
 have h2:=(List.getElem?_eq_some_iff.1 hi).1
 unfold hd;omega
theorem Ord.snoc {N:Nodes} (h:Ord N) (x:Nd):Ord (N++[(hd N,x)]):=by
 intro i p hp
 rcases Nat.lt_trichotomy i N.length with q|q|q
 ·rw [List.getElem?_append_left q] at hp;exact h i p hp
 ·subst q
  rw [List.getElem?_append_right (Nat.le_refl _)] at hp
  simp at hp
  rw [← hp];rfl
 ·have:=(List.getElem?_eq_some_iff.1 hp).1
  simp at this;omega
theorem lk_snoc_inv {N:Nodes} {x y:Nd} {o:Nat} (h:lk (N++[(hd N,x)]) o=some y):lk N o=some y∨(o=hd N∧y=x):=by
 rw [lk_app] at h
 cases q:lk N o with
 | some z=>rw [q] at h;exact .inl h
 | none =>
  rw [q] at h
  simp only [Option.none_or,lk] at h
  by_cases c:hd N=o
  ·rw [if_pos c] at h;exact .inr ⟨c.symm,(Option.some.inj h).symm⟩
  ·rw [if_neg c] at h;simp at h
theorem GoodN.snoc {N:Nodes} (hN:GoodN N) {x:Nd} (hx:NdOk x) (hk:∀ k∈x.ks,k.at_≠0∧∃ y,lk N k.at_=some y∧y.h+1=x.h∧y.mea=k.m):GoodN (N++[(hd N,x)]):=by
 intro o y hy
 rcases lk_snoc_inv hy with q|⟨_,rfl⟩
 ·refine ⟨(hN o y q).1,fun k hk=>?_⟩
  obtain ⟨h0,z,h1,h2⟩:=(hN o y q).2 k hk
  exact ⟨h0,z,lk_mono h1,h2⟩
 ·refine ⟨hx,fun k hk'=>?_⟩
  obtain ⟨h0,z,h1,h2⟩:=hk k hk'
  exact ⟨h0,z,lk_mono h1,h2⟩
theorem good_nil:GoodN []:=fun o x h=>by simp [lk] at h
theorem feeds_begins (s:List UInt8):s.countP feedsB≤s.countP beginsB:=by
 refine List.countP_mono_left (fun b _ h=>?_)
 unfold feedsB at h
 unfold beginsB
 simp at h ⊢
 omega
theorem NdOk.kid {y:Nd} (h:NdOk y) (hl:(leastB y.h:Int)≤y.mea.b) {a:Nat} (ha:handleP a):KidOk y.h ⟨a,y.mea⟩:=by
 rcases h with h|⟨n,ks,h⟩
 ·have hm:y.mea=meaT y.text:=by unfold Nd.mea;rw [if_pos h.h]
  have h1:=h.hi
  have h2:=feeds_begins y.text
  have h3:=List.countP_le_length (p:=beginsB) (l:=y.text)
  refine ⟨ha,hl,?_,?_,?_,?_,?_⟩
  all_goals simp only [hm,meaT,h.h,mostB]
  all_goals omega
 ·have e:=h.eq
  subst e
  have hms:Nd.mea ⟨n+1,[],some ks⟩=sumM (ks.map Kid.m):=rfl
  have hs:=h.sum
  have hhi:=h.hi
  have hk:=h.kid
  have key:∀ (l:List Kid),(∀ k∈l,KidOk n k)→(sumM (l.map Kid.m)).b≤l.length*(mostB n:Int)∧0≤(sumM (l.map Kid.m)).r∧(sumM (l.map Kid.m)).r≤(sumM (l.map Kid.m)).b∧0≤(sumM (l.map Kid.m)).l∧(sumM (l.map Kid.m)).l≤(sumM (l.map Kid.m)).r:=by
   intro l
   induction l with
   | nil=>intro _;simp [sumM,Mea.zero]
   | cons k l ih =>
    intro hk
    obtain ⟨i1,i2,i3,i4,i5⟩:=ih (fun k hk'=>hk k (by simp [hk']))
    have hk1:=hk k (by simp)
    have a1:=hk1.hi
    have a2:=hk1.r0
    have a3:=hk1.rb
    have a4:=hk1.l0
    have a5:=hk1.lr
    simp only [List.map_cons,sumM,Mea.add,List.length_cons]
    have:((l.length+1:Nat):Int)*(mostB n:Int)=l.length*(mostB n:Int)+mostB n:=by
     rw [Int.natCast_add,Int.add_mul];simp
    refine ⟨?_,?_,?_,?_,?_⟩<;>omega
  obtain ⟨k1,k2,k3,k4,k5⟩:=key ks hk
  have h4:(ks.length:Int)*(mostB n:Int)≤4*(mostB n:Int):=Int.mul_le_mul_of_nonneg_right (by omega) (by omega)
  have hm:=mostB_le n
  refine ⟨ha,hl,?_,?_,?_,?_,?_⟩
  all_goals simp only [hms,mostB]
  all_goals omega
end Go.Q15
namespace Go.Q15
open Go Go.QAbs
set_option maxRecDepth 100000
set_option maxHeartbeats 8000000
def arK (lv b:Nat):List (Nat × Nat):=[(lv,b),(lv,b+1),(lv,b+2),(lv,b+3),(lv,b+4),(lv,b+5)]
def arB (lv b:Nat) (r:AR):List Blk:=[r.b0,r.b1,r.b2,r.b3 lv b,r.b4,r.b5 lv b]
def arSt (st:St) (lv b:Nat) (r:AR):St:=putC st (arK lv b) (arB lv b r)
theorem arK_nd (lv b:Nat):(arK lv b).Nodup:=by simp [arK]
section
variable {st:St} {lv b:Nat} {r:AR}
theorem Has.cl (h:Has st lv b r):Cl st (arK lv b) (arB lv b r):=by
 refine ⟨arK_nd lv b,rfl,fun k hk=>?_,fun j l i c h1 h2=>?_⟩
 ·simp only [arK,List.mem_cons,List.not_mem_nil,or_false] at hk
  rcases hk with rfl|rfl|rfl|rfl|rfl|rfl<;>exact h.wr
 ·match j,h1,h2 with
  | 0,h1,h2=>obtain ⟨rfl,rfl⟩:=Prod.mk.inj (Option.some.inj h1);obtain rfl:=Option.some.inj h2;exact h.h0
  | 1,h1,h2=>obtain ⟨rfl,rfl⟩:=Prod.mk.inj (Option.some.inj h1);obtain rfl:=Option.some.inj h2;exact h.h1
  | 2,h1,h2=>obtain ⟨rfl,rfl⟩:=Prod.mk.inj (Option.some.inj h1);obtain rfl:=Option.some.inj h2;exact h.h2
  | 3,h1,h2=>obtain ⟨rfl,rfl⟩:=Prod.mk.inj (Option.some.inj h1);obtain rfl:=Option.some.inj h2;exact h.h3
  | 4,h1,h2=>obtain ⟨rfl,rfl⟩:=Prod.mk.inj (Option.some.inj h1);obtain rfl:=Option.some.inj h2;exact h.h4
  | 5,h1,h2=>obtain ⟨rfl,rfl⟩:=Prod.mk.inj (Option.some.inj h1);obtain rfl:=Option.some.inj h2;exact h.h5
  | n+6,h1,h2=>simp [arK] at h1
theorem Has.of_cl (h:Cl st (arK lv b) (arB lv b r)):Has st lv b r :=
 ⟨h.wr (lv,b) (by simp [arK]),h.get 0 _ _ _ rfl rfl,h.get 1 _ _ _ rfl rfl,h.get 2 _ _ _ rfl rfl,h.get 3 _ _ _ rfl rfl,h.get 4 _ _ _ rfl rfl,h.get 5 _ _ _ rfl rfl⟩
theorem Has.same (h:Has st lv b r):arSt st lv b r=st:=h.cl.same
theorem Has.put (h:Has st lv b r) (r':AR):Has (arSt st lv b r') lv b r':=.of_cl (h.cl.put rfl rfl)
theorem arSt_arSt {r1 r2:AR}:arSt (arSt st lv b r1) lv b r2=arSt st lv b r2:=putC_putC (arK_nd lv b) rfl rfl
theorem Has.out (h:Has st lv b r) (r':AR) {l i:Nat} (hn:¬ (l=lv∧b≤i∧i≤b+5)):(arSt st lv b r').get l i=st.get l i:=by
 refine h.cl.out rfl rfl (fun q=>hn ?_)
 simp only [arK,List.mem_cons,Prod.mk.injEq,List.not_mem_nil,or_false] at q
 omega
theorem arSt_A (r':AR):(arSt st lv b r').A.length=st.A.length:=putC_A _ _ _
theorem Has.le (h:Has st lv b r):lv≤st.A.length:=St.get_le h.h5
theorem Has.push (h:Has st lv b r) {A:List (Bool × List Blk)} {ro:Bool} {L:List Blk} (hA:A=st.ps):Has ⟨A,ro,L⟩ lv b r:=.of_cl (h.cl.push hA)
theorem arSt_push {A:List (Bool × List Blk)} {ro:Bool} {L:List Blk} (hA:A=st.ps) (hl:lv≤st.A.length) {r':AR}:arSt ⟨A,ro,L⟩ lv b r'=⟨(arSt st lv b r').ps,ro,L⟩:=by
 refine putC_push hA (fun k hk=>?_)
 simp only [arK,List.mem_cons,List.not_mem_nil,or_false] at hk
 rcases hk with rfl|rfl|rfl|rfl|rfl|rfl<;>exact hl
theorem allocSt_ar (h:Has st lv b r) (s g:Nat) (x:Nd):allocSt st lv b r s g x=arSt st lv b (r.alloc s g x):=by
 have e:∀ X Y,allocSt X lv b r s g x=Y→X=st→allocSt st lv b r s g x=Y:=fun X Y h1 h2=>by rw [← h2];exact h1
 refine e (arSt st lv b r) _ ?_ h.same
 unfold allocSt takeSt arSt
 rw [putC_set (j:=3) (arK_nd lv b) rfl rfl,putC_set (j:=0) (arK_nd lv b) rfl rfl,putC_set (j:=4) (arK_nd lv b) rfl rfl,putC_set (j:=5) (arK_nd lv b) rfl rfl]
 rfl
end
theorem is_ixKn {O:Orc} {k:List Fr} {Q:Post} {e:Env} {st:St} {keep:List Nat} {is:List PI} {d:Nat} {α:Type} {f:α→AV} {l:List α} {w:Nat} {x i:Opd} {n:Int} {a:α} (hx:opdO e x=some (.lit (l.map f))) (hi:opdO e i=some (.int .i64 n)) (ha:0≤n∧l[n.toNat]?=some a) (hw:∀ a,(f a).wide=some w)
 (h:Is O is keep k Q ((d,.lptr (f a) 0)::e) st):Is O (⟨some d,none,false,.ixS w x i⟩::is) keep k Q e st:=by
 have hlt:=(List.getElem?_eq_some_iff.1 ha.2).1
 refine is_ixM hx hi (by omega) hw (fun b hb=>?_)
 rw [ha.2] at hb
 rw [← Option.some.inj hb];exact h
theorem Alloc_lit {st:St} {lv b:Nat} {r:AR} (h:Has st lv b r) {k s g:Nat} (hc:CanTake r k s g) (n:Nat) (ks:List Kid) (hx:NdOk ⟨n+1,[],some ks⟩) (hL:KidsLive r.nodes n ks) :
 S Tb F_arena_Arena_Alloc [.ptr lv (b+5) 0 0 0,Nd.av ⟨n+1,[],some ks⟩] st=some (.tup [.int .u64 ((g*65536+s:Nat):Int),.int .i64 0],allocSt st lv b r s g ⟨n+1,[],some ks⟩):=by
 refine s_ofW rfl (fun A hA=>?_)
 have hN:=fun st=>nCheck_c ⟨n+1,[],some ks⟩ hx st
 have hk4:ks.length≤4:=hx.len
 have hn15:n≤15:=by
  rcases hx with hl|⟨m,l,hi⟩
  ·have:=hl.h;simp at this
  ·have h1:=hi.n15
   have h2:=congrArg Nd.h hi.eq
   simp only at h2
   omega
 simp only [Nd.av,slV] at hN ⊢
 have g5:=fun L=>get_old hA (ro:=false) (L:=L) h.h5
 have g4:=fun L=>get_old hA (ro:=false) (L:=L) h.h4
 unfold AR.b5 at g5
 unfold AR.b4 at g4
 repeat' (first|refine ruS rfl ?_|refine isS rfl ?_|refine is_ldc rfl rfl rfl rfl ?_|refine rk_seq ?_|refine is_lenM rfl ?_|(refine is_neq rfl rfl (fun _=>?_) (fun _=>?_)<;>try (exfalso;omega))|refine is_eqs rfl rfl rfl rfl ?_|refine is_box rfl rfl rfl ?_|refine is_callE rfl rfl rfl (hN _) ?_)
 all_goals try (exfalso;omega)
 have hle:=St.get_le h.h3
 refine ru_loopP (α:=Nat × List Blk) (fun p=>[(0,.ptr lv (b+5) 0 0 0),(3,.ptr A.length 0 0 0 0),(23,.lit (ks.map Kid.av)),(24,.int .i64 ks.length),(25,.int .i64 p.1)]) (fun p=>⟨A,false,.arr 3 0 [.agg [.int .i64 ((n+1:Nat):Int),.str [],.lit (ks.map Kid.av)]]::p.2⟩) (fun p=>p.1≤ks.length) (fun p=>ks.length-p.1) (0,[]) rfl rfl (by simp) ?_
 rintro ⟨i,G⟩ hi
 simp only at hi ⊢
 rcases Nat.lt_or_ge i ks.length with hlt|hge
 ·obtain ⟨kd,hk'⟩:∃ k,ks[i]?=some k:=⟨ks[i]'(by omega),by simp [hlt]⟩
  obtain ⟨y,y1,y2,y3,y4⟩:=hL kd (List.mem_of_getElem? hk')
  have hlk:=fun L z=>look_live (g4 L) y1 z
  have hMe:=fun st=>nMeasure_c y y2 st
  have hk1:0≤((i:Nat):Int)∧ks[((i:Nat):Int).toNat]?=some kd:=⟨by omega,by rw [show ((i:Nat):Int).toNat=i by omega];exact hk'⟩
  rw [y4] at hMe
  obtain ⟨yh,yt,yk⟩:=y
  simp only at y3
  subst y3
  cases yk
  all_goals simp only [Nd.av,slV,Mea.av] at *
  all_goals repeat' (first|refine is_ixKn rfl rfl hk1 (fun _=>rfl) ?_|refine ruS rfl ?_|refine isS rfl ?_|refine is_ldc rfl rfl rfl rfl ?_|refine rkS rfl ?_|refine is_ldT rfl rfl rfl ?_|refine is_ldl rfl rfl ?_|(refine is_lss rfl rfl (fun _=>?_) (fun _=>?_)<;>try (exfalso;omega))|(refine is_neq rfl rfl (fun _=>?_) (fun _=>?_)<;>try (exfalso;omega))|refine is_addS rfl rfl (by omega) ?_|refine is_subS rfl rfl (by omega) ?_|refine is_boxG rfl rfl rfl ?_|refine is_stT rfl rfl rfl rfl rfl rfl ?_|refine is_ld rfl (g5 _) rfl rfl ?_|refine is_look rfl rfl (hlk _ _) ?_|refine is_callE rfl rfl rfl (hMe _) ?_|refine is_ld1 rfl rfl rfl ?_|refine is_ld2 rfl rfl rfl ?_|(refine is_eqsB rfl rfl (eqv3 _ _ _ _ _ _) (fun _=>?_) (fun _=>?_)))
  all_goals try (exfalso;omega)
  all_goals first|exact ⟨(i+1,G++[_]++[_]++[_]),⟨rfl,rfl⟩,by simp only;omega,by simp only;omega⟩|exact absurd ⟨rfl,rfl,rfl⟩ ‹_›
 ·obtain rfl:i=ks.length:=by omega
  have hTk:=fun L=>Take_c (st:=⟨A,false,L⟩) ⟨wr_push hA hle h.wr,get_old hA h.h0,get_old hA h.h1,get_old hA h.h2,get_old hA h.h3,get_old hA h.h4,get_old hA h.h5⟩ hc.n hc.blk hc.st hc.s16 hc.gen ⟨hc.g1,hc.g2⟩ hc.big
  repeat' (first|refine ruS rfl ?_|refine isS rfl ?_|refine rkS rfl ?_|(refine is_lss rfl rfl (fun _=>?_) (fun _=>?_)<;>try (exfalso;omega))|refine is_ld rfl (g5 _) rfl rfl ?_)
  all_goals try (exfalso;omega)
  refine is_callE rfl rfl rfl (hTk _) ?_
  rw [take_push hA hle]
  obtain ⟨A1,hA1⟩:∃ A1,A1=(takeSt st lv b r s).A++[((takeSt st lv b r s).ro,(takeSt st lv b r s).L)]:=⟨_,rfl⟩
  rw [← hA1]
  have hlen:A.length=A1.length:=by rw [hA,hA1,lL,lL,take_A];rfl
  rw [hlen]
  refine is_mv rfl ?_
  refine is_ext rfl rfl ?_
  refine is_ext rfl rfl ?_
  refine is_mv rfl ?_
  refine is_mv rfl ?_
  refine is_nil rfl ?_
  refine rk_seq ?_
  refine ru_seq ?_
  refine ru_seq ?_
  refine ru_reg ?_
  refine is_mv rfl ?_
  refine is_neq rfl rfl (fun q=>absurd rfl q) (fun _=>?_)
  refine is_nil rfl ?_
  refine rk_seq ?_
  refine ru_iteF rfl ?_
  refine ru_skip ?_
  refine rk_seq ?_
  have:=Alloc_end h hc ⟨n+1,[],some ks⟩ (.lit (ks.map Kid.av)) rfl A1 G hA1 (fun L=>clone_c ks (by omega) _)
  exact this
structure AROk (r:AR):Prop where
 nb:r.n≤r.blk.length
 n16:r.states.length≤16384
 nn:r.n≤r.states.length
 gl:r.gens.length=r.states.length
 stk:∀ i,i<r.n→∃ s:Nat,r.blk[i]?=some (s:Int)∧s<r.states.length∧r.states[s]?=some 0
 nd:∀ i j,i<r.n→j<r.n→r.blk[i]?=r.blk[j]?→i=j
 gen:∀ s,s<r.states.length→∃ g:Nat,r.gens[s]?=some (g:Int)∧1≤g∧(g:Int)≤r.most
 most:r.most≤4294967295
 key:∀ h x,lk r.nodes h=some x→∃ s g:Nat,h=g*65536+s∧s<r.states.length∧r.states[s]?=some 1∧r.gens[s]?=some (g:Int)
 al:0≤r.allocs∧r.allocs+r.n≤r.frees+r.slots
 fr:0≤r.frees∧r.frees≤900000
 sl:r.slots≤16384
def AR.slot (r:AR):Nat:=((r.blk[r.n-1]?).getD 0).toNat
def AR.gen1 (r:AR):Nat:=((r.gens[r.slot]?).getD 0).toNat
def AR.next (r:AR):Nat:=r.gen1*65536+r.slot
def AR.add (r:AR) (x:Nd):AR:=r.alloc r.slot r.gen1 x
theorem AROk.top {r:AR} (h:AROk r) (hn:0<r.n):r.blk[r.n-1]?=some (r.slot:Int)∧r.slot<r.states.length∧r.states[r.slot]?=some 0∧r.gens[r.slot]?=some (r.gen1:Int)∧1≤r.gen1∧(r.gen1:Int)≤r.most:=by
 obtain ⟨s,h1,h2,h3⟩:=h.stk (r.n-1) (by omega)
 have e1:r.slot=s:=by unfold AR.slot;rw [h1];simp
 obtain ⟨g,g1,g2,g3⟩:=h.gen s h2
 have e2:r.gen1=g:=by unfold AR.gen1;rw [e1,g1];simp
 rw [e2,e1]
 exact ⟨h1,h2,h3,g1,g2,g3⟩
theorem AROk.can {r:AR} (h:AROk r) (hn:0<r.n):CanTake r (r.n-1) r.slot r.gen1:=by
 obtain ⟨h1,h2,h3,h4,h5,h6⟩:=h.top hn
 have:=h.n16
 have:=h.nn
 have:=h.most
 have:=h.al
 have:=h.fr
 have:=h.sl
 refine ⟨by omega,h1,h2,by omega,h4,h5,by omega,by omega,?_,by omega⟩
 cases hk:lk r.nodes (r.gen1*65536+r.slot) with
 | none=>rfl
 | some x =>
  obtain ⟨s,g,k1,k2,k3,k4⟩:=h.key _ _ hk
  have:s=r.slot:=by omega
  subst this
  rw [h3] at k3
  simp at k3
theorem AROk.add {r:AR} (h:AROk r) (hn:0<r.n) (x:Nd):AROk (r.add x):=by
 obtain ⟨h1,h2,h3,h4,h5,h6⟩:=h.top hn
 have e1:(r.add x).n=r.n-1:=rfl
 have e2:(r.add x).states=r.states.set r.slot 1:=rfl
 have e3:(r.add x).nodes=r.nodes++[(r.gen1*65536+r.slot,x.copy)]:=rfl
 have e4:(r.add x).blk=r.blk:=rfl
 have e5:(r.add x).gens=r.gens:=rfl
 have e6:(r.add x).most=r.most:=rfl
 have e7:(r.add x).allocs=r.allocs+1:=rfl
 have e8:(r.add x).frees=r.frees:=rfl
 have e9:(r.add x).slots=r.slots:=rfl
 have hne:∀ i,i<r.n-1→r.blk[i]?≠some (r.slot:Int):=fun i hi q=>by
  have:=h.nd i (r.n-1) (by omega) (by omega) (by rw [q,h1])
  omega
 refine ⟨by rw [e1,e4];have:=h.nb;omega,by rw [e2,List.length_set];exact h.n16,by rw [e1,e2,List.length_set];have:=h.nn;omega,by rw [e5,e2,List.length_set];exact h.gl,?_,?_,?_,by rw [e6];exact h.most,?_,by rw [e7,e1,e8,e9];have:=h.al;omega,by rw [e8];exact h.fr,by rw [e9];exact h.sl⟩
 ·intro i hi
  rw [e1] at hi
  obtain ⟨s,k1,k2,k3⟩:=h.stk i (by omega)
  have:s≠r.slot:=fun q=>hne i hi (by rw [k1,q])
  exact ⟨s,k1,by rw [e2,List.length_set];exact k2,by rw [e2,List.getElem?_set_ne (fun q=>this q.symm)];exact k3⟩
 ·intro i j hi hj hij
  rw [e1] at hi hj
  exact h.nd i j (by omega) (by omega) hij
 ·intro s hs
  rw [e2,List.length_set] at hs
  exact h.gen s hs
 ·intro a y hy
  rw [e3,lk_app] at hy
  cases hk:lk r.nodes a with
  | some z =>
   obtain ⟨s,g,k1,k2,k3,k4⟩:=h.key a z hk
   have:s≠r.slot:=fun q=>by subst q;rw [h3] at k3;simp at k3
   exact ⟨s,g,k1,by rw [e2,List.length_set];exact k2,by rw [e2,List.getElem?_set_ne (fun q=>this q.symm)];exact k3,by rw [e5];exact k4⟩
  | none =>
   rw [hk] at hy
   simp only [Option.none_or,lk] at hy
   split at hy
   ·rename_i q
    exact ⟨r.slot,r.gen1,q.symm,by rw [e2,List.length_set];exact h2,by rw [e2,List.getElem?_set_self h2],by rw [e5];exact h4⟩
   ·simp at hy
theorem AROk.new {r:AR} (h:AROk r) (hn:0<r.n):lk r.nodes r.next=none:=(h.can hn).new
theorem lk_add {r:AR} (h:AROk r) (hn:0<r.n) (x:Nd) (o:Nat):lk (r.add x).nodes o=if o=r.next then some x.copy else lk r.nodes o:=by
 have e3:(r.add x).nodes=r.nodes++[(r.next,x.copy)]:=rfl
 rw [e3,lk_app]
 by_cases q:o=r.next
 ·rw [if_pos q,q,h.new hn];simp [lk]
 ·rw [if_neg q]
  cases lk r.nodes o with
  | some y=>rfl
  | none=>simp only [Option.none_or,lk];rw [if_neg (fun w=>q w.symm)]
theorem AROk.handle {r:AR} (h:AROk r) (hn:0<r.n):handleP r.next∧r.next<18446744073709551616:=by
 obtain ⟨h1,h2,h3,h4,h5,h6⟩:=h.top hn
 have:=h.n16
 have:=h.most
 unfold handleP AR.next
 omega
theorem Alloc_nd {st:St} {lv b:Nat} {r:AR} (h:Has st lv b r) (ho:AROk r) (hn:0<r.n) {x:Nd} (hx:NdOk x) (hxk:x.h=0→x.kids=none) (hL:∀ k∈x.ks,∃ y,lk r.nodes k.at_=some y∧NdOk y∧y.h+1=x.h∧y.mea=k.m) :
 S Tb F_arena_Arena_Alloc [.ptr lv (b+5) 0 0 0,x.av] st=some (.tup [.int .u64 r.next,.int .i64 0],arSt st lv b (r.add x)):=by
 have hc:=ho.can hn
 unfold AR.add AR.next
 rw [← allocSt_ar h]
 rcases hx with hl|⟨n,ks,hi⟩
 ·obtain ⟨xh,xt,xk⟩:=x
  have hh:xh=0:=hl.h
  subst hh
  have:=hxk rfl
  simp only at this
  subst this
  exact Alloc_leaf h hc xt ⟨hl.lo,hl.hi⟩
 ·have e:=hi.eq
  subst e
  refine Alloc_lit h hc n ks (.inr ⟨n,ks,hi⟩) (fun k hk=>?_)
  obtain ⟨y,y1,y2,y3,y4⟩:=hL k hk
  exact ⟨y,y1,y2,by simpa using y3,y4⟩
end Go.Q15
namespace Go.QAbs
theorem forceB_self:∀ l:List Blk,forceB l=some l
 | []=>rfl
 | b::l=>by rw [forceB,forceB_self l]
theorem forceL_self:∀ l:List AV,forceL l=some l
 | []=>rfl
 | b::l=>by rw [forceL,forceL_self l]
theorem ints_wide {k:IntKind} {α:Type} (f:α→Int) (l:List α):sameW 1 (l.map fun a=>AV.int k (f a))=true:=by
 induction l with
 | nil=>rfl
 | cons b s ih=>rw [List.map_cons,sameW,List.all_cons];exact Bool.and_eq_true_iff.2 ⟨rfl,ih⟩
theorem ints_seal {k:IntKind} {α:Type} (f:α→Int) (n b:Nat) (st:St) (l:List α):mapSt (sealV (n+1) b) st (l.map fun a=>AV.int k (f a))=some (l.map fun a=>AV.int k (f a),st):=by
 induction l with
 | nil=>rfl
 | cons x s ih =>
  rw [List.map_cons,mapSt]
  show ((some (AV.int k (f x),st)).bind fun r=>(mapSt (sealV (n+1) b) r.2 (s.map fun a=>AV.int k (f a))).bind (consK r.1))=_
  rw [oS,ih];rfl
section
variable {O:Orc} {k:List Fr} {Q:Post} {e:Env} {A:List (Bool × List Blk)} {L:List Blk} {keep:List Nat} {is:List PI} {d:Nat}
theorem is_appG {w bytes:Nat} {s x:Opd} {ix ver n:Nat} {es ys:List AV} (hs:opdO e s=some (.ref A.length ix ver 0 n)) (hx:opdO e x=some (.lit ys)) (hg:L[ix]?=some (Blk.arr w ver es)) (hn:n=es.length) (hw:sameW w ys=true)
 (hm:mapSt (sealV deep (A.length+1)) ⟨A,false,L⟩ ys=some (ys,⟨A,false,L⟩)) (hl:es.length+ys.length<4294967296) (hb:bytes≤4096)
 (h:Is O is keep k Q ((d,.ref A.length ix (ver+1) 0 (n+ys.length))::e) ⟨A,false,L.set ix (.arr w (ver+1) (es++ys))⟩):Is O (⟨some d,none,false,.app w bytes s x⟩::is) keep k Q e ⟨A,false,L⟩ :=
 is_appc hs hx hg rfl hn hl hb hw hm (forceB_self _) h
theorem is_appG2 {w bytes:Nat} {s x:Opd} {ix ver n jx vj:Nat} {es ys:List AV} (hs:opdO e s=some (.ref A.length ix ver 0 n)) (hx:opdO e x=some (.ref A.length jx vj 0 ys.length)) (hj:L[jx]?=some (Blk.arr w vj ys)) (hg:L[ix]?=some (Blk.arr w ver es)) (hn:n=es.length) (hw:sameW w ys=true)
 (hm:mapSt (sealV deep (A.length+1)) ⟨A,false,L⟩ ys=some (ys,⟨A,false,L⟩)) (hl:es.length+ys.length<4294967296) (hb:bytes≤4096)
 (h:Is O is keep k Q ((d,.ref A.length ix (ver+1) 0 (n+ys.length))::e) ⟨A,false,L.set ix (.arr w (ver+1) (es++ys))⟩):Is O (⟨some d,none,false,.app w bytes s x⟩::is) keep k Q e ⟨A,false,L⟩:=by
 refine is_appc (ys:=ys) hs hx hg ?_ hn hl hb hw hm (forceB_self _) h
 simp only [elems,St.get_cur,hj,vis,refB,true_and,Nat.zero_add,Nat.le_refl,if_true,List.drop_zero,List.take_length]
theorem is_cpyG {w:Nat} {t x:Opd} {ix ver n:Nat} {es ys:List AV} {vx:AV} (ht:opdO e t=some (.ref A.length ix ver 0 n)) (hx:opdO e x=some vx) (hy:elems ⟨A,false,L⟩ vx=some ys) (hg:L[ix]?=some (Blk.arr w ver es)) (hn:n=es.length) (hl:ys.length=n) (hw:sameW w ys=true)
 (hm:mapSt (sealV deep (A.length+1)) ⟨A,false,L⟩ ys=some (ys,⟨A,false,L⟩))
 (h:Is O is keep k Q ((d,.int .i64 ys.length)::e) ⟨A,false,L.set ix (.arr w ver ys)⟩):Is O (⟨some d,none,false,.cpy w t x⟩::is) keep k Q e ⟨A,false,L⟩:=by
 have hlt:ix<L.length:=(List.getElem?_eq_some_iff.1 hg).1
 refine is_of (v:=.int .i64 ys.length) (st':=⟨A,false,L.set ix (.arr w ver ys)⟩) ?_ h
 have e1:es.take 0++ys++es.drop (0+ys.length)=ys:=by rw [List.drop_of_length_le (by omega)];simp
 simp only [evalPI,evalPO,opdO_some ht,opdO_some hx,hy,oS,cpyV,hw,if_true,hm,St.get_cur,hg,vis,cpyB,true_and,if_pos (show 0+n≤es.length∧ys.length≤n by omega),e1]
 simp only [St.put,if_true,Bool.false_eq_true,if_false,if_pos hlt,oS]
theorem is_lenMap {st:St} {x:Opd} {lv ix:Nat} {es:List (AV × AV)} (hx:opdO e x=some (.map lv ix)) (hg:st.get lv ix=some (.map es)) (h:Is O is keep k Q ((d,.int .i64 es.length)::e) st):Is O (⟨some d,none,false,.len 2 x⟩::is) keep k Q e st:=by
 refine is_of (v:=.int .i64 es.length) (st':=st) ?_ h
 simp only [evalPI,evalPO,opdO_some hx,lenOf,hg,mapLen,oS]
end
end Go.QAbs

namespace Go.Q15
open Go Go.QAbs
set_option maxRecDepth 100000
set_option maxHeartbeats 8000000
structure HasR (st:St) (lv b:Nat) (r:AR):Prop where
 h0:st.get lv b=some r.b0
 h1:st.get lv (b+1)=some r.b1
 h2:st.get lv (b+2)=some r.b2
 h3:st.get lv (b+3)=some (r.b3 lv b)
 h4:st.get lv (b+4)=some r.b4
 h5:st.get lv (b+5)=some (r.b5 lv b)
theorem Has.r {st:St} {lv b:Nat} {r:AR} (h:Has st lv b r):HasR st lv b r:=⟨h.h0,h.h1,h.h2,h.h3,h.h4,h.h5⟩
theorem HasR.push {st:St} {lv b:Nat} {r:AR} {A:List (Bool × List Blk)} {ro:Bool} {L:List Blk} (hA:A=st.A++[(st.ro,st.L)]) (h:HasR st lv b r):HasR ⟨A,ro,L⟩ lv b r :=
 ⟨get_old hA h.h0,get_old hA h.h1,get_old hA h.h2,get_old hA h.h3,get_old hA h.h4,get_old hA h.h5⟩
theorem HasR.allRo {st:St} {lv b:Nat} {r:AR} (h:HasR st lv b r):HasR st.allRo lv b r :=
 ⟨by rw [allRo_get];exact h.h0,by rw [allRo_get];exact h.h1,by rw [allRo_get];exact h.h2,by rw [allRo_get];exact h.h3,by rw [allRo_get];exact h.h4,by rw [allRo_get];exact h.h5⟩
theorem HasR.rd {st:St} {lv b:Nat} {r:AR} (h:HasR st lv b r):Rd st lv (b+5) r.nodes:=⟨_,_,_,_,_,_,h.h5,h.h4⟩
theorem range_set {n i:Nat} (f:Nat→AV) (v:AV):((List.range n).map f).set i v=(List.range n).map fun j=>if j=i then v else f j:=by
 apply List.ext_getElem
 ·simp
 ·intro j hj hj'
  simp only [List.getElem_set,List.getElem_map,List.getElem_range]
  by_cases q:i=j
  ·subst q;simp
  ·rw [if_neg q,if_neg (fun w=>q w.symm)]
theorem range_get {n k:Nat} (f:Nat→AV) (h:k<n):((List.range n).map f)[0+((k:Nat):Int).toNat]?=some (f k):=by
 rw [show 0+((k:Nat):Int).toNat=k by omega]
 simp [h]
def halfF (l:List Int) (i k:Nat):Int:=if k<i∨l.length<k+i+1 then (l[l.length-1-k]?).getD 0 else (l[k]?).getD 0
theorem half_0 (l:List Int):(List.range l.length).map (fun k=>AV.int .i64 (halfF l 0 k))=l.map (.int .i64):=by
 apply List.ext_getElem
 ·simp
 ·intro k h1 h2
  simp only [List.length_map,List.length_range] at h1
  simp only [List.getElem_map,List.getElem_range,halfF,Nat.not_lt_zero,false_or]
  rw [if_neg (by omega),List.getElem?_eq_getElem h1];rfl
theorem half_n (l:List Int) {i:Nat} (h:l.length≤2*i+1):(List.range l.length).map (fun k=>AV.int .i64 (halfF l i k))=l.reverse.map (.int .i64):=by
 apply List.ext_getElem
 ·simp
 ·intro k h1 h2
  simp only [List.length_map,List.length_range] at h1
  simp only [List.getElem_map,List.getElem_range,halfF,List.getElem_reverse]
  split
  ·rw [List.getElem?_eq_getElem (by omega)];rfl
  ·have:l.length-1-k=k:=by omega
   rw [List.getElem?_eq_getElem h1]
   simp only [this,Option.getD_some]
theorem half_step (l:List Int) {i:Nat} (h:2*i+1<l.length) :
 (((List.range l.length).map (fun k=>AV.int .i64 (halfF l i k))).set i (.int .i64 (halfF l i (l.length-1-i)))).set (l.length-1-i) (.int .i64 (halfF l i i))=(List.range l.length).map (fun k=>AV.int .i64 (halfF l (i+1) k)):=by
 rw [range_set,range_set]
 apply List.map_congr_left
 intro k hk
 rw [List.mem_range] at hk
 by_cases q:k=l.length-1-i
 ·rw [if_pos q]
  simp only [halfF]
  rw [if_neg (by omega),if_pos (by omega),q]
  rw [show l.length-1-(l.length-1-i)=i by omega]
 ·rw [if_neg q]
  by_cases q2:k=i
  ·rw [if_pos q2]
   simp only [halfF]
   rw [if_neg (by omega),if_pos (by omega),q2]
  ·rw [if_neg q2]
   simp only [halfF]
   by_cases q3:k<i∨l.length<k+i+1
   ·rw [if_pos q3,if_pos (by omega)]
   ·rw [if_neg q3,if_neg (by omega)]
def AR.free (r:AR):List Int:=(r.blk.take r.n).reverse
theorem AR.free_len {r:AR} (h:r.n≤r.blk.length):r.free.length=r.n:=by simp [AR.free];omega
theorem Free_c {st:St} {lv b:Nat} {r:AR} (h:HasR st lv b r) (hn:r.n≤r.blk.length) (hb:r.n<65536):S Tb F_freelist_List_Free [.ptr lv (b+3) 0 0 0] st=some (.lit (r.free.map (.int .i64)),st):=by
 refine s_of rfl (fun A hA=>?_)
 have g3:=fun L=>get_old hA (ro:=false) (L:=L) h.h3
 have g1:=fun L=>get_old hA (ro:=false) (L:=L) h.h1
 unfold AR.b3 at g3
 unfold AR.b1 at g1
 have hl:(r.blk.take r.n).length=r.n:=by simp;omega
 have hel:∀ L,elems ⟨A,false,L⟩ (.ref lv (b+1) r.ver 0 r.n)=some ((r.blk.take r.n).map (.int .i64)):=fun L=>by
  simp only [elems,g1,refB,true_and,Nat.zero_add,List.length_map,if_pos hn,List.drop_zero,List.map_take]
 unfold AR.free
 generalize hz:r.blk.take r.n=l at *
 repeat' (first|refine ruS rfl ?_|refine isS rfl ?_|refine rk_seq ?_|refine is_lenR rfl ?_|refine is_subS rfl rfl (by omega) ?_|refine is_eqs rfl rfl rfl rfl ?_|refine is_mkslice rfl rfl (by omega) (by decide) rfl ?_|refine is_ld rfl (g3 _) rfl rfl ?_|refine is_cpyG (ys:=l.map (.int .i64)) rfl rfl (hel _) rfl (by simp) (by simp [hl]) (ints_wide _ _) (ints_seal _ _ _ _ _) ?_)
 refine ru_loopP (α:=Nat) (fun i=>[(3,.ref A.length 0 0 0 r.n),(4,.int .i64 i),(5,.int .i64 ((l.length:Int)-1-i))]) (fun i=>⟨A,false,[.arr 1 0 ((List.range l.length).map fun k=>AV.int .i64 (halfF l i k))]⟩) (fun i=>2*i≤l.length+1) (fun i=>l.length+1-2*i) 0 ?_ ?_ (by simp) ?_
 ·simp [hl]
 ·rw [half_0];rfl
 intro i hi
 replace hi:2*i≤l.length+1:=hi
 rcases Nat.lt_or_ge (2*i+1) l.length with hlt|hge
 ·have hj:(l.length:Int)-1-i=((l.length-1-i:Nat):Int):=by omega
  have q1:=range_get (n:=l.length) (k:=i) (fun k=>AV.int .i64 (halfF l i k)) (by omega)
  have q2:=range_get (n:=l.length) (k:=l.length-1-i) (fun k=>AV.int .i64 (halfF l i k)) (by omega)
  have q3:(((List.range l.length).map (fun k=>AV.int .i64 (halfF l i k))).set (0+((i:Nat):Int).toNat) (.int .i64 (halfF l i (l.length-1-i))))[0+((l.length-1-i:Nat):Int).toNat]?=some (.int .i64 (halfF l i (l.length-1-i))):=by
   rw [List.getElem?_set_ne (by omega)];exact q2
  rw [hj]
  repeat' (first|refine ruS rfl ?_|refine isS rfl ?_|refine rkS rfl ?_|(refine is_lss rfl rfl (fun _=>?_) (fun _=>?_)<;>try (exfalso;omega))|refine is_addS rfl rfl (by omega) ?_|refine is_subS rfl rfl (by omega) ?_|refine is_ixRc rfl rfl (by omega) rfl ?_|refine is_ldc rfl rfl q2 rfl ?_|refine is_ldc rfl rfl q1 rfl ?_|refine is_stn rfl rfl rfl q1 rfl rfl ?_|refine is_stn rfl rfl rfl q3 rfl rfl ?_)
  refine ⟨i+1,⟨?_,?_⟩,by omega,by omega⟩
  ·rw [show ((l.length-1-i:Nat):Int)-1=(l.length:Int)-1-((i+1:Nat):Int) by omega];rfl
  ·rw [← half_step l hlt]
   rw [show 0+((i:Nat):Int).toNat=i by omega,show 0+((l.length-1-i:Nat):Int).toNat=l.length-1-i by omega]
   rfl
 ·repeat' (first|refine ruS rfl ?_|refine isS rfl ?_|refine rkS rfl ?_|(refine is_lss rfl rfl (fun _=>?_) (fun _=>?_)<;>try (exfalso;omega)))
  all_goals try (exfalso;omega)
  refine end_ref (es:=l.reverse.map (.int .i64)) hA (.inr rfl) rfl (by rw [half_n l (by omega)];rfl) (by simp;omega) (by intro v hv;obtain ⟨x,_,rfl⟩:=List.mem_map.1 hv;rfl) ?_
  rfl
def slotsTo (l:List Int) (s:Int) (n:Nat):List Nat:=(List.range n).filter fun i=>l[i]? == some s
def slotsL (l:List Int) (s:Int):List Nat:=slotsTo l s l.length
def natAV (n:Nat):AV:=.int .i64 n
theorem slotsTo_succ (l:List Int) (s:Int) (n:Nat):slotsTo l s (n+1)=slotsTo l s n++if l[n]?=some s then [n] else []:=by
 rw [slotsTo,List.range_succ,List.filter_append,← slotsTo]
 congr 1
 by_cases q:l[n]?=some s
 ·rw [if_pos q];simp [q]
 ·rw [if_neg q];simp [q]
theorem slotsTo_len (l:List Int) (s:Int) (n:Nat):(slotsTo l s n).length≤n:=by
 have:=List.length_filter_le (fun i=>l[i]? == some s) (List.range n)
 rw [List.length_range] at this
 exact this
theorem slots_c {st:St} {lv b:Nat} {r:AR} (h:HasR st lv b r) (hb:r.states.length≤16384) (s:Int):S Tb F_freelist_List_slots [.ptr lv (b+3) 0 0 0,.int .u8 s] st=some (.lit ((slotsL r.states s).map natAV),st):=by
 refine s_of rfl (fun A hA=>?_)
 have g3:=fun L=>get_old hA (ro:=false) (L:=L) h.h3
 have g0:=fun L=>get_old hA (ro:=false) (L:=L) h.h0
 unfold AR.b3 at g3
 unfold AR.b0 at g0
 have hwi:∀ L,wIs 1 0 (St.get ⟨A,false,L⟩ lv b)=true:=fun L=>by rw [g0];rfl
 repeat' (first|refine ruS rfl ?_|refine isS rfl ?_|refine rk_seq ?_|refine is_lenR rfl ?_|refine is_eqs rfl rfl rfl rfl ?_|refine is_onil rfl ?_|refine is_ld rfl (g3 _) rfl rfl ?_)
 refine ru_loopP (α:=Nat) (fun i=>[(1,.int .u8 s),(5,.ref A.length 0 (slotsTo r.states s i).length 0 (slotsTo r.states s i).length),(14,.ref lv b 0 0 r.states.length),(15,.int .i64 r.states.length),(16,.int .i64 i)]) (fun i=>⟨A,false,[.arr 1 (slotsTo r.states s i).length ((slotsTo r.states s i).map natAV)]⟩) (fun i=>i≤r.states.length) (fun i=>r.states.length-i) 0 rfl rfl (by simp) ?_
 intro i hi
 replace hi:i≤r.states.length:=hi
 rcases Nat.lt_or_ge i r.states.length with hlt|hge
 ·obtain ⟨x,hx⟩:∃ x,r.states[i]?=some x:=⟨r.states[i]'hlt,by simp [hlt]⟩
  have q1:(r.states.map (.int .u8))[0+((i:Nat):Int).toNat]?=some (AV.int .u8 x):=by
   rw [show 0+((i:Nat):Int).toNat=i by omega,List.getElem?_map,hx];rfl
  have hs:=slotsTo_succ r.states s i
  have hl:=slotsTo_len r.states s i
  rw [hx] at hs
  have hl2:((slotsTo r.states s i).map natAV).length+[AV.int .i64 (i:Int)].length<4294967296:=by simp;omega
  have hl3:(slotsTo r.states s i).length=((slotsTo r.states s i).map natAV).length:=by simp
  repeat' (first|refine is_appG rfl rfl rfl hl3 rfl rfl hl2 (by decide) ?_|refine ruS rfl ?_|refine isS rfl ?_|refine rkS rfl ?_|(refine is_lss rfl rfl (fun _=>?_) (fun _=>?_)<;>try (exfalso;omega))|(refine is_eql rfl rfl (fun _=>?_) (fun _=>?_)<;>try (exfalso;omega))|refine is_addS rfl rfl (by omega) ?_|refine is_bslFO rfl rfl rfl rfl ?_|refine is_ixR rfl rfl (by omega) (hwi _) ?_|refine is_ld rfl (g0 _) q1 rfl ?_)
  ·rename_i e
   subst e
   rw [if_pos rfl] at hs
   refine ⟨i+1,⟨?_,?_⟩,by omega,by omega⟩
   ·rw [hs,lL];rfl
   ·rw [hs,List.map_append,lL];rfl
  ·rename_i e
   rw [if_neg (by simpa using e),lN] at hs
   exact ⟨i+1,⟨by rw [hs];rfl,by rw [hs]⟩,by omega,by omega⟩
 ·obtain rfl:i=r.states.length:=by omega
  repeat' (first|refine ruS rfl ?_|refine isS rfl ?_|refine rkS rfl ?_|(refine is_lss rfl rfl (fun _=>?_) (fun _=>?_)<;>try (exfalso;omega)))
  refine end_ref (es:=(slotsL r.states s).map natAV) hA (.inr rfl) rfl rfl (by simp;rfl) (by intro v hv;obtain ⟨x,_,rfl⟩:=List.mem_map.1 hv;rfl) ?_
  rfl
theorem Withdrawn_c {st:St} {lv b:Nat} {r:AR} (h:HasR st lv b r) (hb:r.states.length≤16384):S Tb F_freelist_List_Withdrawn [.ptr lv (b+3) 0 0 0] st=some (.lit ((slotsL r.states 2).map natAV),st):=by
 refine s_of rfl (fun A hA=>?_)
 have hs:=fun L=>slots_c (h.push hA (ro:=false) (L:=L)) hb 2
 repeat' (first|refine ruS rfl ?_|refine isS rfl ?_|refine rkS rfl ?_|refine is_callE rfl rfl rfl (hs _) ?_)
 refine end_st hA (by first|exact .inl rfl|exact .inr rfl) rfl rfl rfl rfl ?_
 rfl
def AR.statsAV (r:AR):AV:=.agg [.int .i64 r.slots,.int .i64 r.n,.int .i64 r.nodes.length,.int .i64 (slotsL r.states 2).length,.int .i64 r.allocs,.int .i64 r.frees,.int .i64 r.stale]
theorem Stats_c {st:St} {lv b:Nat} {r:AR} (h:HasR st lv b r) (hn:r.n≤r.blk.length) (hb:r.states.length≤16384) (h6:r.n<65536):S Tb F_arena_Arena_Stats [.ptr lv (b+5) 0 0 0] st=some (r.statsAV,st):=by
 refine s_of rfl (fun A hA=>?_)
 have g5:=fun L=>get_old hA (ro:=false) (L:=L) h.h5
 have g4:=fun L=>get_old hA (ro:=false) (L:=L) h.h4
 unfold AR.b5 at g5
 unfold AR.b4 at g4
 have hF:=fun L=>Free_c (h.push hA (ro:=false) (L:=L)).allRo hn h6
 have hW:=fun L=>Withdrawn_c (h.push hA (ro:=false) (L:=L)).allRo hb
 repeat' (first|refine ruS rfl ?_|refine isS rfl ?_|refine rkS rfl ?_|refine is_lenM rfl ?_|refine is_buildO rfl rfl rfl ?_|refine is_eqs rfl rfl rfl rfl ?_|refine is_box rfl rfl rfl ?_|refine is_stb rfl rfl rfl rfl rfl rfl ?_|refine is_ld rfl (g5 _) rfl rfl ?_|refine is_lenMap rfl (g4 _) ?_|refine is_callP rfl rfl rfl (hF _) ?_|refine is_callP rfl rfl rfl (hW _) ?_)
 refine end_c hA (by first|exact .inl rfl|exact .inr rfl) rfl rfl rfl rfl rfl ?_
 unfold AR.statsAV
 have e2:(r.nodes.map nodeAV).length=r.nodes.length:=List.length_map ..
 rw [← AR.free_len hn,← e2]
end Go.Q15
namespace Go.QAbs
section
variable {O:Orc} {k:List Fr} {Q:Post} {e:Env} {A:List (Bool × List Blk)} {L:List Blk} {keep:List Nat} {is:List PI} {d:Nat} {st:St}
theorem is_same {od:Option Nat} {op op':PO} (he:evalPI O e st op=evalPI O e st op') (h:Is O (⟨od,none,false,op'⟩::is) keep k Q e st):Is O (⟨od,none,false,op⟩::is) keep k Q e st:=by
 obtain ⟨⟨e',st2,h1,h2⟩⟩:=h
 refine ⟨⟨e',st2,?_,h2⟩⟩
 rw [runIs_cons] at h1 ⊢
 have e1:evalI O e st ⟨od,none,false,op⟩=evalI O e st ⟨od,none,false,op'⟩:=by simp only [evalI,Bool.false_eq_true,if_false];exact he
 have e2:wantedV e none=some true:=rfl
 simp only [e2,oS,runW_true,e1] at h1 ⊢
 exact h1
theorem is_grow {od:Option Nat} {w bytes:Nat} {s x b:Opd} {vs vx vb:AV} {ys:List AV} (hs:opdO e s=some vs) (hx:opdO e x=some vx) (hb:opdO e b=some vb) (hy:elems st vx=some ys) (ha:apartB vb vs=true) (hg:growOk vs (some ys)=true)
 (h:Is O (⟨od,none,false,.app w bytes s x⟩::is) keep k Q e st):Is O (⟨od,none,false,.w (.grow b) (.app w bytes s x)⟩::is) keep k Q e st:=by
 refine is_same ?_ h
 simp only [evalPI,evalW,growW,opdO_some hs,opdO_some hx,opdO_some hb,hy,ha,hg,and_self,if_true]
theorem is_onlyLd {a b:Opd} {agg:Bool} {n ix ver i o vb ib ob w:Nat} {es:List AV} {x v:AV} (ha:opdO e a=some (.ptr A.length ix ver i o)) (hb:opdO e b=some (.ptr A.length ix vb ib ob))
 (hg:L[ix]?=some (Blk.arr w ver es)) (hx:es[i]?=some x) (hv:partOf x agg o n=some v) (h:Is O is keep k Q ((d,v)::e) ⟨A,false,L⟩):Is O (⟨some d,none,false,.w (.only b) (.ld agg n a)⟩::is) keep k Q e ⟨A,false,L⟩:=by
 refine is_of (v:=v) (st':=⟨A,false,L⟩) ?_ h
 have hgt:(St.hide (fun lv ix=>!atPtr lv ix (b.get e)) ⟨A,false,L⟩).get A.length ix=some (Blk.arr w ver es):=by
  rw [hide_get,St.get_cur,hg,opdO_some hb]
  simp [atPtr,vis]
 simp only [evalPI,evalW,PO.reads,if_true,evalPO,opdO_some ha,loadP,hgt,loadB,hx,hv,oS,ret1,pureK]
theorem is_bsl1 {w:Nat} {z v:AV} {o:Opd} (ho:opdO e o=some v) (hw:v.wide=some w) (h:Is O is keep k Q ((d,.ref A.length L.length 0 0 1)::e) ⟨A,false,L++[Blk.arr w 0 [v]]⟩):Is O (⟨some d,none,false,.bslice true w [z] [(0,o)]⟩::is) keep k Q e ⟨A,false,L⟩:=by
 refine is_bslTO (qs:=[(0,v)]) (es:=[v]) (es':=[v]) ?_ ?_ (forceL_self _) (forceB_self _) h
 ·simp only [partsEO,ho]
 ·simp only [fillE,hw,List.length_singleton,true_and,Nat.lt_one_iff,if_true,List.set_cons_zero]
theorem is_imm1 {w:Nat} {z v:AV} {o:Opd} (ho:opdO e o=some v) (hw:v.wide=some w) (hi:imm 6 v=true) (h:Is O is keep k Q ((d,.lit [v])::e) st):Is O (⟨some d,none,false,.w .imm (.bslice false w [z] [(0,o)])⟩::is) keep k Q e st:=by
 refine is_of (od:=some d) (v:=.lit [v]) (st':=st) ?_ h
 simp only [evalPI,evalW,immW,partsE,opdO_some ho,fillE,hw,List.length_singleton,true_and,Nat.lt_one_iff,if_true,List.set_cons_zero,oS,immK,List.all_cons,List.all_nil,hi,Bool.and_self,List.isEmpty_cons,Bool.false_eq_true,if_false]
theorem is_boxnilG {w:Nat} (h:Is O is keep k Q ((d,.ptr A.length (L.length+1) 0 0 0)::e) ⟨A,false,L++[Blk.arr w 0 [],Blk.arr 1 0 [.ref A.length L.length 0 0 0]]⟩):Is O (⟨some d,none,false,.boxnil w⟩::is) keep k Q e ⟨A,false,L⟩ :=
 is_boxnil (by rw [List.append_assoc];exact forceB_self _) h
theorem is_appNilG {w bytes:Nat} {s x:Opd} {vx:AV} {ys:List AV} (hs:opdO e s=some .nils) (hx:opdO e x=some vx) (hy:elems ⟨A,false,L⟩ vx=some ys) (hl:ys.length<4294967296) (hb:bytes≤4096) (hw:sameW w ys=true)
 (h:Is O is keep k Q ((d,.ref A.length L.length 0 0 ys.length)::e) ⟨A,false,L++[Blk.arr w 0 ys]⟩):Is O (⟨some d,none,false,.app w bytes s x⟩::is) keep k Q e ⟨A,false,L⟩:=by
 refine is_of (od:=some d) (v:=.ref A.length L.length 0 0 ys.length) (st':=⟨A,false,L++[Blk.arr w 0 ys]⟩) ?_ h
 simp only [evalPI,evalPO,opdO_some hs,opdO_some hx,hy,oS,appendV,hl,hb,hw,and_self,if_true,St.new_cur,newRefK]
end
end Go.QAbs
namespace Go.Q15
open Go Go.QAbs
set_option maxRecDepth 100000
set_option maxHeartbeats 8000000
namespace Tr
mutual
def cnt:Tr→Nat
 | .mk o _ _ _ k=>(if o=0 then 1 else 0)+cntO k
def cntO:Option (List Tr)→Nat
 | none=>0
 | some l=>cntL l
def cntL:List Tr→Nat
 | []=>0
 | t::l=>t.cnt+cntL l
end
theorem cntL_append:∀ a b,cntL (a++b)=cntL a+cntL b
 | [],b=>by simp [cntL]
 | t::a,b=>by rw [lC,cntL,cntL,cntL_append a b];omega
theorem cntO_getD (k:Option (List Tr)):cntO k=cntL (k.getD []):=by cases k<;>rfl
end Tr
theorem New_leafy {t:Tr} {c:Int} (hk:t.ks=[]) (hK:∀ st,S Tb F_plan_kind [t.av] st=some (.int .i64 c,st)) (st:St):S Tb F_plan_New [t.av] st=some (.int .i64 (if c=3∨c=4 then 1 else 0),st):=by
 obtain ⟨o,h,m,s,k⟩:=t
 obtain ⟨ka,hka,hka2⟩:∃ ka,Tr.avO k=ka∧(ka=.nils∨ka=.lit []):=by
  cases k with
  | none=>exact ⟨_,rfl,.inl rfl⟩
  | some l=>have:l=[]:=hk;subst this;exact ⟨_,rfl,.inr rfl⟩
 simp only [Tr.av,hka] at *
 refine s_of rfl (fun A hA=>?_)
 rcases hka2 with rfl|rfl
 all_goals repeat' (first|refine ruS rfl ?_|refine isS rfl ?_|refine is_ldc rfl rfl rfl rfl ?_|refine rkS rfl ?_|refine is_lenF rfl rfl ?_|refine is_lenN rfl ?_|(refine is_lss rfl rfl (fun _=>?_) (fun _=>?_)<;>try (exfalso;omega))|(refine is_eql rfl rfl (fun _=>?_) (fun _=>?_)<;>try (exfalso;omega))|refine is_box rfl rfl rfl ?_|refine is_callE rfl rfl rfl (hK _) ?_|refine ru_unroll ?_)
 all_goals refine end_st hA (by first|exact .inl rfl|exact .inr rfl) rfl rfl rfl rfl ?_
 all_goals simp [*]
theorem cntL_le {l:List Tr} {t:Tr} (h:t∈l):t.cnt≤Tr.cntL l:=by
 induction l with
 | nil=>simp at h
 | cons u l ih =>
  rw [Tr.cntL]
  rcases List.mem_cons.1 h with rfl|h
  ·omega
  ·have:=ih h;omega
theorem cntL_take_le (l:List Tr) (i:Nat):Tr.cntL (l.take i)≤Tr.cntL l:=by
 have h:Tr.cntL l=Tr.cntL (l.take i)+Tr.cntL (l.drop i):=by rw [← Tr.cntL_append,List.take_append_drop]
 omega
theorem New_c {N:Nodes} {t:Tr} (hv:Val N t):t.cnt<4294967296→∀ st,S Tb F_plan_New [t.av] st=some (.int .i64 t.cnt,st):=by
 induction hv with
 | @kept o h m k x h0 hx hok hh hm hk =>
  intro hc st
  have:=New_leafy (t:=.mk o h m [] k) hk (fun st=>kind_kept (.mk o h m [] k) ⟨h0,rfl,hk⟩ st) st
  rw [this]
  have e:(Tr.mk o h m [] k).cnt=0:=by rw [Tr.cnt,Tr.cntO_getD,hk,if_neg h0];rfl
  rw [e];rfl
 | @leaf s k h1 h2 hk =>
  intro hc st
  have:=New_leafy (t:=.mk 0 0 .zero s k) hk (fun st=>kind_leaf (.mk 0 0 .zero s k) ⟨rfl,rfl,rfl,h1,h2,hk⟩ st) st
  rw [this]
  have e:(Tr.mk 0 0 .zero s k).cnt=1:=by rw [Tr.cnt,Tr.cntO_getD,hk,if_pos rfl];rfl
  rw [e];rfl
 | @inner h l hh h2 h4 hl hb hv ih =>
  intro hc st
  have hK:=fun st=>kind_inner (.mk 0 (h+1) .zero [] (some l)) ⟨rfl,rfl,rfl,Nat.succ_le_succ (Nat.zero_le _),hh,h2,h4⟩ st
  have e:(Tr.mk 0 (h+1) .zero [] (some l)).cnt=1+Tr.cntL l:=by rw [Tr.cnt,if_pos rfl];rfl
  rw [e] at hc ⊢
  simp only [Tr.av,Tr.avO,Tr.avL_map,Mea.zero] at hK ⊢
  refine s_of rfl (fun A hA=>?_)
  repeat' (first|refine ruS rfl ?_|refine isS rfl ?_|refine is_ldc rfl rfl rfl rfl ?_|refine rk_seq ?_|refine is_lenM rfl ?_|(refine is_eql rfl rfl (fun _=>?_) (fun _=>?_)<;>try (exfalso;omega))|refine is_box rfl rfl rfl ?_|refine is_callE rfl rfl rfl (hK _) ?_)
  all_goals try contradiction
  refine ru_loopP (α:=Nat × List Blk) (fun p=>[(3,.int .i64 ((1+Tr.cntL (l.take p.1):Nat):Int)),(16,.lit (l.map Tr.av)),(17,.int .i64 l.length),(18,.int .i64 p.1)])
   (fun p=>⟨A,false,.arr 7 0 [.agg [.int .u64 (0:Nat),.int .i64 ((h+1:Nat):Int),.int .i64 0,.int .i64 0,.int .i64 0,.str [],.lit (l.map Tr.av)]]::p.2⟩) (fun p=>p.1≤l.length) (fun p=>l.length-p.1) (0,[]) ?_ rfl (by simp) ?_
  ·simp [Tr.cntL]
  rintro ⟨i,G⟩ hi
  simp only at hi ⊢
  have h6:=cntL_take_le l i
  have h7:=cntL_take_le l (i+1)
  repeat' (first|refine ruS rfl ?_|refine isS rfl ?_|refine rkS rfl ?_|(refine is_lss rfl rfl (fun _=>?_) (fun _=>?_)<;>try (exfalso;omega))|refine is_boxG rfl rfl rfl ?_|refine is_ixM rfl rfl (by omega) tr_wide (fun _ _=>?_)|refine is_ldl rfl (tr_part _) ?_|refine is_ldT rfl rfl (tr_part _) ?_|refine is_stT rfl rfl rfl (tr_seal _ _ _) (tr_put _ _) rfl ?_)
  ·rename_i t ht
   have ht2:l[i]?=some t:=ht
   have hm:=List.mem_of_getElem? ht2
   have h5:=ih t hm (by have:=cntL_le hm;omega)
   rw [take_succ_get ht2,Tr.cntL_append,Tr.cntL,Tr.cntL] at h7
   repeat' (first|refine ru_reg ?_|refine isS rfl ?_|refine rkS rfl ?_|refine is_addS rfl rfl (by omega) ?_|refine is_callE rfl rfl (by first|rfl|(simp only [lE,lN,lC,weaks,tr_weak,forceL];first|done|rfl)) (h5 _) ?_)
   refine ⟨(i+1,G++[.arr 7 0 [t.av]]),⟨?_,rfl⟩,by simp only;omega,by simp only;omega⟩
   simp only [take_succ_get ht2,Tr.cntL_append,Tr.cntL]
   rw [show ((1+Tr.cntL (l.take i):Nat):Int)+(t.cnt:Int)=((1+(Tr.cntL (l.take i)+(t.cnt+0)):Nat):Int) by omega]
   rfl
  ·have hi':i=l.length:=by omega
   subst hi'
   rw [List.take_length]
   refine end_st hA (by first|exact .inl rfl|exact .inr rfl) rfl rfl rfl rfl ?_
   rfl
end Go.Q15
namespace Go.Q15
open Go Go.QAbs
set_option maxRecDepth 100000
set_option maxHeartbeats 8000000
theorem allBytes_bytes (s:List UInt8):QAbs.allBytes (bytesAV s)=some s:=by
 induction s with
 | nil=>rfl
 | cons x s ih =>
  show ((QAbs.byteOf (AV.int .u8 x.toNat)).bind fun b=>(QAbs.allBytes (bytesAV s)).map (b::·))=_
  rw [ih]
  simp [QAbs.byteOf]
theorem seal_fn3 {b lv i1 i2 i3:Nat} {f:FuncId} (st:St) (h:lv<b):sealV deep b st (.func (.func f) [] [.ptr lv i1 0 0 0,.ptr lv i2 0 0 0,.ptr lv i3 0 0 0])=some (.func (.func f) [] [.ptr lv i1 0 0 0,.ptr lv i2 0 0 0,.ptr lv i3 0 0 0],st):=by
 simp only [sealV,deep,ylOk,if_true,mapSt,oS,if_pos h,consK]
theorem putOut_cur {A:List (Bool × List Blk)} {b0 b1 b2 b3 b4:Blk} {v:Nat} {t:List UInt8}:putOut ⟨A,false,[b0,b1,b2,b3,b4]⟩ A.length 3 2 v t=⟨A,false,[b0,b1,.arr 1 v (bytesAV t),.arr 1 0 [.ref A.length 2 v 0 t.length],b4]⟩:=by
 simp [putOut,St.upd]
theorem Text_c {N:Nodes} (hN:GoodN N) {st:St} {lv ix:Nat} (hr:Rd st lv ix N) {t:Tr} (ht:VE N t) (hb:t.bytes≤65536):S Tb F_plan_Text [.ptr lv ix 0 0 0,t.av] st=some (.tup [.str (t.txt N),.int .i64 0],st):=by
 refine s_of rfl (fun A hA=>?_)
 have hlv:lv<A.length:=by
  obtain ⟨a0,a1,im,a3,a4,a5,h1,h2⟩:=hr
  have:=St.get_le h1
  rw [hA];simp;omega
 have hrp:=fun L=>hr.push hA (ro:=false) (L:=L)
 have hC:=fun L=>Check_ve (hrp L) ht hb
 rcases ht with he|hv
 ·rw [he.txt]
  have hK:=fun st=>kind_empty t he st
  repeat' (first|refine ruS rfl ?_|refine isS rfl ?_|refine is_ldc rfl rfl rfl rfl ?_|refine rkS rfl ?_|(refine is_eql rfl rfl (fun _=>?_) (fun _=>?_)<;>try (exfalso;omega))|(refine is_neq rfl rfl (fun _=>?_) (fun _=>?_)<;>try (exfalso;omega))|refine is_mkf rfl rfl ?_|refine is_box rfl rfl rfl ?_|refine is_boxnil rfl ?_|refine is_ldT rfl rfl (tr_part _) ?_|refine is_ldc rfl rfl rfl (tr_part _) ?_|refine is_boxG rfl (tr_wide _) (tr_force _) ?_|refine is_callE rfl rfl (by first|rfl|(simp only [lE,lN,lC,weaks,tr_weak,forceL];first|done|rfl)) (hC _) ?_|refine is_callE rfl rfl (by first|rfl|(simp only [lE,lN,lC,weaks,tr_weak,forceL];first|done|rfl)) (hK _) ?_|refine is_stb rfl rfl rfl (seal_fn3 _ (Nat.lt_succ_self _)) rfl rfl ?_)
  all_goals try (exfalso;omega)
  all_goals refine end_st hA (by first|exact .inl rfl|exact .inr rfl) rfl rfl rfl rfl ?_
  all_goals rfl
 ·obtain ⟨k,hk1,hK⟩:=hv.kindNe
  repeat' (first|refine ruS rfl ?_|refine isS rfl ?_|refine is_ldc rfl rfl rfl rfl ?_|refine rk_seq ?_|(refine is_eql rfl rfl (fun _=>?_) (fun _=>?_)<;>try (exfalso;omega))|(refine is_neq rfl rfl (fun _=>?_) (fun _=>?_)<;>try (exfalso;omega))|refine is_mkf rfl rfl ?_|refine is_box rfl rfl rfl ?_|refine is_boxnil rfl ?_|refine is_ldT rfl rfl (tr_part _) ?_|refine is_ldc rfl rfl rfl (tr_part _) ?_|refine is_boxG rfl (tr_wide _) (tr_force _) ?_|refine is_callE rfl rfl (by first|rfl|(simp only [lE,lN,lC,weaks,tr_weak,forceL];first|done|rfl)) (hC _) ?_|refine is_callE rfl rfl (by first|rfl|(simp only [lE,lN,lC,weaks,tr_weak,forceL];first|done|rfl)) (hK _) ?_|refine is_stb rfl rfl rfl (seal_fn3 _ (Nat.lt_succ_self _)) rfl rfl ?_)
  all_goals try (exfalso;omega)
  have hwa:∀ L,L=[.arr 1 0 [.ptr lv ix 0 0 0],.arr 7 0 [t.av],.arr 1 0 [],.arr 1 0 [.ref A.length 2 0 0 0],.arr 1 0 [.func (.func F_plan_TextC1) [] [.ptr A.length 0 0 0 0,.ptr A.length 3 0 0 0,.ptr A.length 4 0 0 0]]] →
   Sp Tb F_plan_TextC1 [t.av,.ptr A.length 0 0 0 0,.ptr A.length 3 0 0 0,.ptr A.length 4 0 0 0] ⟨A,false,L⟩ fun v st'=>v=.int .i64 0∧∃ ver',st'=putOut ⟨A,false,L⟩ A.length 3 2 ver' ([]++t.txt N):=by
   rintro L rfl
   refine walk_c hN t.h t hv rfl hb (pl:=lv) (px:=ix) (ver:=0) ⟨hrp _,by omega,by rw [St.get_cur];rfl,by rw [St.get_cur];rfl,⟨by decide,by decide⟩,⟨by decide,by decide⟩⟩ ⟨by simp [St.wr],by rw [St.get_cur];rfl,by rw [St.get_cur];rfl,by decide⟩ (by simp;omega)
  refine is_call rfl rfl (wk4 _ _ _ _ rfl rfl rfl) (hwa _ rfl) ?_
  rintro v st' ⟨rfl,v2,rfl⟩
  rw [lE,putOut_cur]
  repeat' (first|refine ruS rfl ?_|refine isS rfl ?_|refine is_ldc rfl rfl rfl rfl ?_|refine rk_seq ?_|(refine is_neq rfl rfl (fun _=>?_) (fun _=>?_)<;>try (exfalso;omega)))
  refine is_b2s rfl (v:=.str (t.txt N)) ?_ ?_
  ·have hl:=bytesAV_len (t.txt N)
   show (refB v2 0 (t.txt N).length (St.get _ A.length 2)).bind _=_
   rw [St.get_cur]
   show (refB v2 0 (t.txt N).length (some (Blk.arr 1 v2 (bytesAV (t.txt N))))).bind _=_
   simp only [refB,true_and,hl,Nat.zero_add,Nat.le_refl,if_true,List.drop_zero,oS]
   rw [List.take_of_length_le (by omega),allBytes_bytes];rfl
  repeat' (first|refine isS rfl ?_|refine rkS rfl ?_|refine ru_ret ?_)
  refine end_st hA (by first|exact .inl rfl|exact .inr rfl) rfl rfl rfl rfl ?_
  rfl
end Go.Q15
namespace Go.Q15
open Go Go.QAbs
set_option maxRecDepth 100000
set_option maxHeartbeats 8000000
theorem get_left {L T:List Blk} {i:Nat} {b:Blk} (h:L[i]?=some b):(L++T)[i]?=some b:=by
 rw [List.getElem?_append_left (List.getElem?_eq_some_iff.1 h).1];exact h
section
variable {O:Orc} {k:List Fr} {Q:Post} {e:Env} {A:List (Bool × List Blk)} {L0 T:List Blk} {keep:List Nat} {is:List PI} {d:Nat}
theorem is_onlyLdA {a b:Opd} {agg:Bool} {n ix ver i o vb ib ob w:Nat} {es:List AV} {x v:AV} (ha:opdO e a=some (.ptr A.length (L0.length+ix) ver i o)) (hb:opdO e b=some (.ptr A.length (L0.length+ix) vb ib ob))
 (hg:T[ix]?=some (Blk.arr w ver es)) (hx:es[i]?=some x) (hv:partOf x agg o n=some v) (h:Is O is keep k Q ((d,v)::e) ⟨A,false,L0++T⟩):Is O (⟨some d,none,false,.w (.only b) (.ld agg n a)⟩::is) keep k Q e ⟨A,false,L0++T⟩ :=
 is_onlyLd ha hb (by rw [get_app];exact hg) hx hv h
theorem is_boxnilA {w m:Nat} (hm:lenO T=some m) (h:Is O is keep k Q ((d,.ptr A.length (L0.length+(m+1)) 0 0 0)::e) ⟨A,false,L0++(T++[Blk.arr w 0 [],Blk.arr 1 0 [.ref A.length (L0.length+m) 0 0 0]])⟩):Is O (⟨some d,none,false,.boxnil w⟩::is) keep k Q e ⟨A,false,L0++T⟩:=by
 refine is_boxnilG ?_
 rw [lL,lenO_some hm,List.append_assoc]
 exact h
theorem is_bsl1A {w m:Nat} {z v:AV} {o:Opd} (ho:opdO e o=some v) (hw:v.wide=some w) (hm:lenO T=some m) (h:Is O is keep k Q ((d,.ref A.length (L0.length+m) 0 0 1)::e) ⟨A,false,L0++(T++[Blk.arr w 0 [v]])⟩):Is O (⟨some d,none,false,.bslice true w [z] [(0,o)]⟩::is) keep k Q e ⟨A,false,L0++T⟩:=by
 refine is_bsl1 ho hw ?_
 rw [lL,lenO_some hm,List.append_assoc]
 exact h
end
theorem elemsA {A:List (Bool × List Blk)} {L0 T:List Blk} {ix ver w n:Nat} {ys:List AV} (hg:T[ix]?=some (Blk.arr w ver ys)) (hn:n=ys.length):elems ⟨A,false,L0++T⟩ (.ref A.length (L0.length+ix) ver 0 n)=some ys:=by
 subst hn
 simp only [elems,St.get_cur,get_app,hg,vis,refB,true_and,Nat.zero_add,Nat.le_refl,if_true,List.drop_zero,List.take_length]
structure Frm (L:List Blk) (X:Nat→Prop) (L':List Blk) (X':Nat→Prop):Prop where
 len:L.length≤L'.length
 old:∀ i,i<L.length→¬ X i→L'[i]?=L[i]?
 own:∀ i,X' i→X i∨L.length≤i
theorem Frm.trans {L0 L1 L2:List Blk} {X0 X1 X2:Nat→Prop} (h:Frm L0 X0 L1 X1) (g:Frm L1 X1 L2 X2):Frm L0 X0 L2 X2:=by
 have h1:=h.len
 have h2:=g.len
 refine ⟨by omega,fun i hi hn=>?_,fun i hi=>?_⟩
 ·rw [g.old i (by omega) (fun q=>by rcases h.own i q with w|w;exact hn w;omega),h.old i hi hn]
 ·rcases g.own i hi with w|w
  ·exact h.own i w
  ·exact .inr (by omega)
theorem Frm.app {L:List Blk} {X:Nat→Prop} (T:List Blk):Frm L X (L++T) X :=
 ⟨by simp,fun i hi _=>List.getElem?_append_left hi,fun i h=>.inl h⟩
def Fx (L:List Blk) (X:Nat→Prop) (F:List (Nat × Blk)):Prop:=∀ p∈F,L[p.1]?=some p.2∧¬ X p.1
theorem Fx.frm {L L':List Blk} {X X':Nat→Prop} {F:List (Nat × Blk)} (h:Fx L X F) (g:Frm L X L' X'):Fx L' X' F:=by
 intro p hp
 obtain ⟨h1,h2⟩:=h p hp
 have hlt:=(List.getElem?_eq_some_iff.1 h1).1
 exact ⟨by rw [g.old _ hlt h2];exact h1,fun q=>by rcases g.own _ q with w|w;exact h2 w;omega⟩
theorem Fx.append {L:List Blk} {X:Nat→Prop} {F G:List (Nat × Blk)} (h:Fx L X F) (g:Fx L X G):Fx L X (F++G):=fun p hp=>by
 rcases List.mem_append.1 hp with q|q
 ·exact h p q
 ·exact g p q
def Rx (L:List Blk) (X:Nat→Prop) (R:List (Nat × Ro)):Prop:=Fx L X (R.map fun p=>(p.1,Blk.arr 5 0 [p.2.av]))
theorem Rx.frm {L L':List Blk} {X X':Nat→Prop} {R:List (Nat × Ro)} (h:Rx L X R) (g:Frm L X L' X'):Rx L' X' R:=Fx.frm h g
theorem Rx.append {L:List Blk} {X:Nat→Prop} {R S:List (Nat × Ro)} (h:Rx L X R) (g:Rx L X S):Rx L X (R++S):=by
 unfold Rx;rw [List.map_append];exact Fx.append h g
theorem Rx.get {L:List Blk} {X:Nat→Prop} {R:List (Nat × Ro)} (h:Rx L X R) {p:Nat × Ro} (hp:p∈R):L[p.1]?=some (.arr 5 0 [p.2.av])∧¬ X p.1:=h (p.1,.arr 5 0 [p.2.av]) (List.mem_map.2 ⟨p,hp,rfl⟩)
def penX (ip:Nat) (td:AV) (i:Nat):Prop:=i=ip∨∃ lv ver s n,td=.ref lv i ver s n
structure Pen (A:List (Bool × List Blk)) (L:List Blk) (ip:Nat) (a:AV) (td:AV) (cls:List AV):Prop where
 st:∃ rp,L[ip]?=some (.arr 3 0 [.agg [a,td,rp]])
 td:(td=.nils∧cls=[])∨∃ tx ver,td=.ref A.length tx ver 0 cls.length∧L[tx]?=some (.arr 1 ver cls)∧tx≠ip∧cls≠[]
theorem Pen.frm {A:List (Bool × List Blk)} {L L':List Blk} {ip:Nat} {a td:AV} {cls:List AV} (h:Pen A L ip a td cls) (g:∀ i,penX ip td i→L'[i]?=L[i]?):Pen A L' ip a td cls:=by
 obtain ⟨⟨rp,h1⟩,h2⟩:=h
 refine ⟨⟨rp,by rw [g ip (.inl rfl)];exact h1⟩,?_⟩
 rcases h2 with q|⟨tx,ver,e1,e2,e3⟩
 ·exact .inl q
 ·exact .inr ⟨tx,ver,e1,by rw [g tx (.inr ⟨_,_,_,_,e1⟩)];exact e2,e3⟩
theorem Pen.lt {A:List (Bool × List Blk)} {L:List Blk} {ip:Nat} {a td:AV} {cls:List AV} (h:Pen A L ip a td cls) {i:Nat} (hi:penX ip td i):i<L.length:=by
 obtain ⟨⟨rp,h1⟩,h2⟩:=h
 rcases hi with rfl|⟨lv,ver,s,n,e⟩
 ·exact (List.getElem?_eq_some_iff.1 h1).1
 ·rcases h2 with ⟨q,_⟩|⟨tx,ver2,e1,e2,e3⟩
  ·rw [q] at e;simp at e
  ·rw [e1] at e
   simp only [AV.ref.injEq] at e
   rw [← e.2.1]
   exact (List.getElem?_eq_some_iff.1 e2).1
theorem Pen.app {A:List (Bool × List Blk)} {L:List Blk} {ip:Nat} {a td:AV} {cls:List AV} (h:Pen A L ip a td cls) (T:List Blk):Pen A (L++T) ip a td cls :=
 h.frm fun i hi=>List.getElem?_append_left (h.lt hi)
def clV (n b0 b1 b2:Nat):AV:=.func (.func F_rope_Pen_putC1) [] [.ptr n b0 0 0 0,.ptr n b1 0 0 0,.ptr n b2 0 0 0]
inductive Cv (n:Nat):AV→Prop
 | one (x:Nat):Cv n (.func (.func F_rope_Pen_addC1) [] [.ptr n x 0 0 0])
 | two (x y:Nat):Cv n (.func (.func F_rope_Pen_addC2) [] [.ptr n x 0 0 0,.ptr n y 0 0 0])
def putB (n ip rx b:Nat) (cv:AV):List Blk:=[.arr 1 0 [.ptr n ip 0 0 0],.arr 1 0 [.ptr n rx 0 0 0],.arr 1 0 [cv],.arr 1 0 [clV n b (b+2) (b+1)]]
theorem put_c {A:List (Bool × List Blk)} {L:List Blk} {ip rx:Nat} {a td cv:AV} {cls:List AV} (h:Pen A L ip a td cls) (hcv:Cv A.length cv) (hl:cls.length<1000000) :
 ∃ L' td',S Tb F_rope_Pen_put [.ptr A.length ip 0 0 0,.ptr A.length rx 0 0 0,cv] ⟨A,false,L⟩=some (.tup [],⟨A,false,L'⟩)∧Pen A L' ip a td' (cls++[clV A.length L.length (L.length+2) (L.length+1)])∧Frm L (penX ip td) L' (penX ip td') ∧
  Fx L' (penX ip td') [(L.length,.arr 1 0 [.ptr A.length ip 0 0 0]),(L.length+1,.arr 1 0 [.ptr A.length rx 0 0 0]),(L.length+2,.arr 1 0 [cv])]:=by
 obtain ⟨⟨rp,h1⟩,h2⟩:=h
 have hip:=(List.getElem?_eq_some_iff.1 h1).1
 have e0:(⟨A,false,L⟩:St)=⟨A,false,L++[]⟩:=by rw [lN]
 have hg1:∀ T,(L++T)[ip]?=some (.arr 3 0 [.agg [a,td,rp]]):=fun T=>get_left h1
 rcases h2 with ⟨rfl,rfl⟩|⟨tx,ver,rfl,h3,h4,_⟩
 ·refine ⟨(L++(putB A.length ip rx L.length cv++[Blk.arr 1 0 [clV A.length L.length (L.length+2) (L.length+1)]])).set ip (Blk.arr 3 0 [.agg [a,.ref A.length (L.length+4) 0 0 1,rp]]),.ref A.length (L.length+4) 0 0 1,s_keep rfl ?_,?_⟩
  ·rw [e0]
   have hg1':∀ T,(L++T)[ip]?=some (.arr 3 0 [.agg [a,.nils,rp]]):=hg1
   unfold putB clV
   cases hcv
   all_goals repeat' (first|refine is_boxA rfl rfl rfl rfl rfl ?_|refine is_onlyLdA rfl rfl rfl rfl rfl ?_|refine is_ldA rfl rfl rfl rfl ?_|refine is_bsl1A rfl rfl rfl ?_|refine ruS rfl ?_|refine isS rfl ?_|refine rk_seq ?_|refine is_mkf rfl rfl ?_|refine is_ldc rfl (hg1' _) rfl rfl ?_)
   all_goals refine is_grow rfl rfl rfl (elemsA rfl rfl) rfl rfl ?_
   all_goals refine is_appNilG rfl rfl (elemsA rfl rfl) (by simp) (by decide) rfl ?_
   all_goals repeat' (refine isS rfl ?_)
   all_goals refine is_stn (by rw [List.append_assoc];exact hg1' _) rfl rfl rfl (seal_refL _ (Nat.lt_succ_self _)) rfl ?_
   all_goals refine is_nil rfl ?_
   all_goals refine rk_nil ?_
   all_goals refine (end_keep (.inl rfl) rfl rfl rfl rfl).trans ?_
   all_goals simp
  ·have hnX : ∀ i, L.length ≤ i → i ≠ L.length + 4 → ¬ penX ip (.ref A.length (L.length + 4) 0 0 1) i := by
    rintro i hi hne (q|⟨_,_,_,_,q⟩)
    ·omega
    ·simp only [AV.ref.injEq] at q;omega
   refine ⟨⟨⟨rp,List.getElem?_set_self (by simp;omega)⟩,.inr ⟨L.length+4,0,rfl,?_,by omega,by simp⟩⟩,⟨by simp,fun i hi hn=>?_,fun i hi=>?_⟩,?_⟩
   ·rw [List.getElem?_set_ne (by omega),get_app];rfl
   ·have:i≠ip:=fun q=>hn (.inl q)
    rw [List.getElem?_set_ne (fun q=>this q.symm),List.getElem?_append_left hi]
   ·rcases hi with q|⟨_,_,_,_,q⟩
    ·exact .inl (.inl q)
    ·simp only [AV.ref.injEq] at q;exact .inr (by omega)
   ·intro p hp
    simp only [List.mem_cons,List.not_mem_nil,or_false] at hp
    rcases hp with rfl|rfl|rfl
    ·refine ⟨?_,hnX _ (by simp) (by simp)⟩
     simp only
     rw [List.getElem?_set_ne (by omega)]
     exact get_app (i:=0)
    ·refine ⟨?_,hnX _ (by simp) (by simp)⟩
     simp only
     rw [List.getElem?_set_ne (by omega)]
     exact get_app (i:=1)
    ·refine ⟨?_,hnX _ (by simp) (by simp)⟩
     simp only
     rw [List.getElem?_set_ne (by omega)]
     exact get_app (i:=2)
 ·have htx:=(List.getElem?_eq_some_iff.1 h3).1
  refine ⟨((L++putB A.length ip rx L.length cv).set tx (Blk.arr 1 (ver+1) (cls++[clV A.length L.length (L.length+2) (L.length+1)]))).set ip (Blk.arr 3 0 [.agg [a,.ref A.length tx (ver+1) 0 (cls.length+1),rp]]),.ref A.length tx (ver+1) 0 (cls.length+1),s_keep rfl ?_,?_⟩
  ·rw [e0]
   have hgt:∀ T,(L++T)[tx]?=some (.arr 1 ver cls):=fun T=>get_left h3
   have hap:apartB (.ptr A.length (L.length+0) 0 0 0) (.ref A.length tx ver 0 cls.length)=true:=by
    simp [apartB,atPtr];omega
   have hgr:∀ f x y z,growOk (.ref A.length tx ver 0 cls.length) (some [.func (.func f) [] [.ptr A.length x 0 0 0,.ptr A.length y 0 0 0,.ptr A.length z 0 0 0]])=true:=by
    intro f x y z;simp [growOk,heldV,ylOk]
   have hsl:∀ (st:St) f x y z,mapSt (sealV deep (A.length+1)) st [.func (.func f) [] [.ptr A.length x 0 0 0,.ptr A.length y 0 0 0,.ptr A.length z 0 0 0]]=some ([.func (.func f) [] [.ptr A.length x 0 0 0,.ptr A.length y 0 0 0,.ptr A.length z 0 0 0]],st):=by
    intro st f x y z
    rw [mapSt,seal_fn3 _ (Nat.lt_succ_self _)];rfl
   unfold putB clV
   cases hcv
   all_goals repeat' (first|refine is_boxA rfl rfl rfl rfl rfl ?_|refine is_onlyLdA rfl rfl rfl rfl rfl ?_|refine is_ldA rfl rfl rfl rfl ?_|refine is_bsl1A rfl rfl rfl ?_|refine ruS rfl ?_|refine isS rfl ?_|refine rk_seq ?_|refine is_mkf rfl rfl ?_|refine is_ldc rfl (hg1 _) rfl rfl ?_)
   all_goals refine is_grow rfl rfl rfl (elemsA rfl rfl) hap (hgr _ _ _ _) ?_
   all_goals refine is_appG2 rfl rfl (by rw [get_app];rfl) (hgt _) rfl rfl (hsl _ _ _ _ _) (by simp;omega) (by decide) ?_
   all_goals repeat' (refine isS rfl ?_)
   all_goals refine is_stn (by rw [List.getElem?_set_ne h4];exact hg1 _) rfl rfl rfl (seal_refL _ (Nat.lt_succ_self _)) rfl ?_
   all_goals refine is_nil rfl ?_
   all_goals refine rk_nil ?_
   all_goals refine (end_keep (.inl rfl) rfl rfl rfl rfl).trans ?_
   all_goals simp
  ·have hnX : ∀ i, L.length ≤ i → ¬ penX ip (.ref A.length tx (ver + 1) 0 (cls.length + 1)) i := by
    rintro i hi (q|⟨_,_,_,_,q⟩)
    ·omega
    ·simp only [AV.ref.injEq] at q;omega
   refine ⟨⟨⟨rp,List.getElem?_set_self (by simp;omega)⟩,.inr ⟨tx,ver+1,by simp,?_,h4,by simp⟩⟩,⟨by simp,fun i hi hn=>?_,fun i hi=>?_⟩,?_⟩
   ·rw [List.getElem?_set_ne (fun q=>h4 q.symm),List.getElem?_set_self (by simp;omega)]
   ·have n1:i≠ip:=fun q=>hn (.inl q)
    have n2:i≠tx:=fun q=>hn (.inr ⟨A.length,ver,0,cls.length,by rw [q]⟩)
    rw [List.getElem?_set_ne (fun q=>n1 q.symm),List.getElem?_set_ne (fun q=>n2 q.symm),List.getElem?_append_left hi]
   ·rcases hi with q|⟨_,_,_,_,q⟩
    ·exact .inl (.inl q)
    ·simp only [AV.ref.injEq] at q
     exact .inl (.inr ⟨A.length,ver,0,cls.length,by rw [q.2.1]⟩)
   ·intro p hp
    simp only [List.mem_cons,List.not_mem_nil,or_false] at hp
    rcases hp with rfl|rfl|rfl
    ·refine ⟨?_,hnX _ (by simp)⟩
     simp only
     rw [List.getElem?_set_ne (by omega),List.getElem?_set_ne (by omega)]
     exact get_app (i:=0)
    ·refine ⟨?_,hnX _ (by simp)⟩
     simp only
     rw [List.getElem?_set_ne (by omega),List.getElem?_set_ne (by omega)]
     exact get_app (i:=1)
    ·refine ⟨?_,hnX _ (by simp)⟩
     simp only
     rw [List.getElem?_set_ne (by omega),List.getElem?_set_ne (by omega)]
     exact get_app (i:=2)
end Go.Q15
namespace Go.Q15
open Go Go.QAbs
set_option maxRecDepth 100000
set_option maxHeartbeats 8000000
inductive ItC where
 | leaf (s:List UInt8)
 | inn (h:Nat) (ks:List Nat)
structure It where
 rx:Nat
 c:ItC
def ptrs (n:Nat) (rs:List Nat):List AV:=rs.map fun r=>.ptr n r 0 0 0
def CvOk (n:Nat) (F:List (Nat × Blk)) (cv:AV):ItC→Prop
 | .leaf s=>∃ xb,cv=.func (.func F_rope_Pen_addC1) [] [.ptr n xb 0 0 0]∧(xb,Blk.arr 3 0 [.agg [.int .i64 0,.str s,.nils]])∈F
 | .inn h ks=>∃ tb kb kx,∃ t:Tr,cv=.func (.func F_rope_Pen_addC2) [] [.ptr n tb 0 0 0,.ptr n kb 0 0 0]∧t.h=h∧(tb,Blk.arr 7 0 [t.av])∈F∧(kb,Blk.arr 1 0 [.ref n kx ks.length 0 ks.length])∈F∧(kx,Blk.arr 1 ks.length (ptrs n ks))∈F
theorem CvOk.mono {n:Nat} {F G:List (Nat × Blk)} (hs:∀ p∈F,p∈G) {cv:AV}:∀ {c:ItC},CvOk n F cv c→CvOk n G cv c
 | .leaf s,⟨xb,h1,h2⟩=>⟨xb,h1,hs _ h2⟩
 | .inn h ks,⟨tb,kb,kx,t,h1,h2,h3,h4,h5⟩=>⟨tb,kb,kx,t,h1,h2,hs _ h3,hs _ h4,hs _ h5⟩
def ClOk (n ip:Nat) (F:List (Nat × Blk)) (cl:AV) (it:It):Prop :=
 ∃ b0 b1 b2 cv,cl=clV n b0 b1 b2∧(b0,Blk.arr 1 0 [.ptr n ip 0 0 0])∈F∧(b1,Blk.arr 1 0 [cv])∈F∧(b2,Blk.arr 1 0 [.ptr n it.rx 0 0 0])∈F∧CvOk n F cv it.c
theorem ClOk.mono {n ip:Nat} {F G:List (Nat × Blk)} (hs:∀ p∈F,p∈G) {cl:AV} {it:It} (h:ClOk n ip F cl it):ClOk n ip G cl it:=by
 obtain ⟨b0,b1,b2,cv,h1,h2,h3,h4,h5⟩:=h
 exact ⟨b0,b1,b2,cv,h1,hs _ h2,hs _ h3,hs _ h4,h5.mono hs⟩
inductive ClsOk (n ip:Nat) (F:List (Nat × Blk)):List AV→List It→Prop
 | nil:ClsOk n ip F [] []
 | cons {c i cs is} (h:ClOk n ip F c i) (t:ClsOk n ip F cs is):ClsOk n ip F (c::cs) (i::is)
theorem ClsOk.mono {n ip:Nat} {F G:List (Nat × Blk)} (hs:∀ p∈F,p∈G) {cs:List AV} {is:List It} (h:ClsOk n ip F cs is):ClsOk n ip G cs is:=by
 induction h with
 | nil=>exact .nil
 | cons h t ih=>exact .cons (h.mono hs) ih
theorem ClsOk.append {n ip:Nat} {F:List (Nat × Blk)} {cs ds:List AV} {is js:List It} (h:ClsOk n ip F cs is) (g:ClsOk n ip F ds js):ClsOk n ip F (cs++ds) (is++js):=by
 induction h with
 | nil=>exact g
 | cons h t ih=>exact .cons h ih
theorem ClsOk.len {n ip:Nat} {F:List (Nat × Blk)} {cs:List AV} {is:List It} (h:ClsOk n ip F cs is):cs.length=is.length:=by
 induction h with
 | nil=>rfl
 | cons h t ih=>simp [ih]
namespace Tr
mutual
def mea:Tr→Mea
 | .mk o h m s k=>if o≠0 then m else if h=0 then meaT s else sumM (meaO k)
def meaO:Option (List Tr)→List Mea
 | none=>[]
 | some l=>meaL l
def meaL:List Tr→List Mea
 | []=>[]
 | t::l=>t.mea::meaL l
end
theorem meaL_map:∀ l,meaL l=l.map mea
 | []=>rfl
 | t::l=>by rw [meaL,meaL_map l];rfl
end Tr
theorem mea_in (h:Nat) (l:List Tr):(Tr.mk 0 (h+1) .zero [] (some l)).mea=sumM (l.map Tr.mea):=by
 rw [Tr.mea,Tr.meaO,Tr.meaL_map];simp
theorem mea_leaf (s:List UInt8) (k:Option (List Tr)):(Tr.mk 0 0 .zero s k).mea=meaT s:=by rw [Tr.mea];simp
theorem mea_kept {o h:Nat} {m:Mea} {s:List UInt8} {k:Option (List Tr)} (h0:o≠0):(Tr.mk o h m s k).mea=m:=by rw [Tr.mea];simp [h0]
structure Mea.Chn (m:Mea):Prop where
 l0:0≤m.l
 lr:m.l≤m.r
 rb:m.r≤m.b
theorem sumM_chn:∀ {l:List Mea},(∀ m∈l,m.Chn)→(sumM l).Chn
 | [],_=>⟨by decide,by decide,by decide⟩
 | m::l,h=>by
  obtain ⟨a1,a2,a3⟩:=h m (by simp)
  obtain ⟨b1,b2,b3⟩:=sumM_chn (l:=l) (fun x hx=>h x (by simp [hx]))
  constructor<;>simp only [sumM,Mea.add]<;>omega
theorem meaT_chn (s:List UInt8):(meaT s).Chn:=by
 have h2:=feeds_begins s
 have h3:=List.countP_le_length (p:=beginsB) (l:=s)
 constructor<;>simp only [meaT]<;>omega
theorem NdOk.chn {x:Nd} (h:NdOk x):x.mea.Chn:=by
 rcases h with h|⟨n,ks,h⟩
 ·have hm:x.mea=meaT x.text:=by unfold Nd.mea;rw [if_pos h.h]
  rw [hm];exact meaT_chn _
 ·have e:=h.eq
  subst e
  have hms:Nd.mea ⟨n+1,[],some ks⟩=sumM (ks.map Kid.m):=rfl
  rw [hms]
  refine sumM_chn (fun m hm=>?_)
  obtain ⟨k,hk,rfl⟩:=List.mem_map.1 hm
  have:=h.kid k hk
  exact ⟨this.l0,this.lr,this.rb⟩
theorem sumM_b:∀ l:List Tr,(∀ t∈l,t.mea.b=t.bytes)→(sumM (l.map Tr.mea)).b=Tr.bytesL l
 | [],_=>rfl
 | t::l,h=>by
  rw [List.map_cons,sumM,Mea.add,Tr.bytesL]
  simp only
  rw [h t (by simp),sumM_b l (fun u hu=>h u (by simp [hu]))]
theorem Val.mea_ok {N:Nodes} {t:Tr} (hv:Val N t):t.mea.b=t.bytes∧t.mea.Chn:=by
 induction hv with
 | @kept o h m k x h0 hx hok hh hm hk =>
  rw [mea_kept h0]
  refine ⟨?_,by rw [← hm];exact hok.chn⟩
  rw [Tr.bytes,Tr.bytesO_getD,hk];simp [Tr.bytesL]
 | @leaf s k h1 h2 hk =>
  rw [mea_leaf]
  refine ⟨?_,meaT_chn s⟩
  rw [Tr.bytes,Tr.bytesO_getD,hk];simp [Tr.bytesL,meaT,Mea.zero]
 | @inner h l hh h2 h4 hl hb hv ih =>
  rw [mea_in]
  refine ⟨?_,sumM_chn (fun m hm=>?_)⟩
  ·rw [sumM_b l (fun u hu=>(ih u hu).1),Tr.bytes,Tr.bytesO];simp [Mea.zero]
  ·obtain ⟨u,hu,rfl⟩:=List.mem_map.1 hm
   exact (ih u hu).2
theorem Val.mea_fit {N:Nodes} {t:Tr} (hv:Val N t) (hb:t.bytes≤65536):t.mea.Fit 65536:=by
 obtain ⟨h1,h2⟩:=hv.mea_ok
 obtain ⟨c1,c2,c3⟩:=h2
 constructor<;>omega
mutual
inductive AddT:Tr→Nat→List It→List (Nat × Ro)→Prop
 | kept {o h m k rx} (h0:o≠0):AddT (.mk o h m [] k) rx [] [(rx,⟨o,h,m⟩)]
 | leaf {s k rx}:AddT (.mk 0 0 .zero s k) rx [⟨rx,.leaf s⟩] [(rx,⟨0,0,meaT s⟩)]
 | inner {h l rx rs its R} (hl:AddL l rs its R) (hn:(R.map Prod.fst).Nodup) (hx:rx∉R.map Prod.fst):AddT (.mk 0 (h+1) .zero [] (some l)) rx (its++[⟨rx,.inn (h+1) rs⟩]) (R++[(rx,⟨0,h+1,sumM (l.map Tr.mea)⟩)])
inductive AddL:List Tr→List Nat→List It→List (Nat × Ro)→Prop
 | nil:AddL [] [] [] []
 | cons {t l rx rs i1 i2 R1 R2} (ht:AddT t rx i1 R1) (hl:AddL l rs i2 R2):AddL (t::l) (rx::rs) (i1++i2) (R1++R2)
end
theorem AddL.snoc {t:Tr} {rx:Nat} {i1:List It} {R1:List (Nat × Ro)} (ht:AddT t rx i1 R1):∀ {l:List Tr} {rs:List Nat} {its:List It} {R:List (Nat × Ro)},AddL l rs its R→AddL (l++[t]) (rs++[rx]) (its++i1) (R++R1)
 | _,_,_,_,.nil=>by have:=AddL.cons ht .nil;simpa using this
 | _,_,_,_,.cons h g=>by
  have:=AddL.cons h (AddL.snoc ht g)
  simpa [List.append_assoc] using this
theorem AddL.len:∀ {l:List Tr} {rs:List Nat} {its:List It} {R:List (Nat × Ro)},AddL l rs its R→rs.length=l.length
 | _,_,_,_,.nil=>rfl
 | _,_,_,_,.cons h g=>by simp [g.len]
mutual
theorem AddT.cnt:∀ {t:Tr} {rx:Nat} {its:List It} {R:List (Nat × Ro)},AddT t rx its R→its.length≤t.cnt
 | _,_,_,_,.kept h0=>Nat.zero_le _
 | _,_,_,_,.leaf=>by rw [Tr.cnt];simp
 | _,_,_,_,.inner hl hn hx=>by
  have:=AddL.cnt hl
  rw [Tr.cnt,Tr.cntO];simp;omega
theorem AddL.cnt:∀ {l:List Tr} {rs:List Nat} {its:List It} {R:List (Nat × Ro)},AddL l rs its R→its.length≤Tr.cntL l
 | _,_,_,_,.nil=>Nat.le_refl _
 | _,_,_,_,.cons h g=>by
  have h1:=h.cnt
  have h2:=g.cnt
  rw [Tr.cntL];simp;omega
end
def No5 (F:List (Nat × Blk)):Prop:=∀ p∈F,∃ w v es,p.2=Blk.arr w v es∧w≠5
theorem No5.nil:No5 []:=fun p hp=>by simp at hp
theorem No5.cons {F:List (Nat × Blk)} {i w v:Nat} {es:List AV} (hw:w≠5) (h:No5 F):No5 ((i,Blk.arr w v es)::F):=fun p hp=>by
 rcases List.mem_cons.1 hp with rfl|q
 ·exact ⟨w,v,es,rfl,hw⟩
 ·exact h p q
theorem No5.append {F G:List (Nat × Blk)} (h:No5 F) (g:No5 G):No5 (F++G):=fun p hp=>by
 rcases List.mem_append.1 hp with q|q
 ·exact h p q
 ·exact g p q
structure Added (A:List (Bool × List Blk)) (L:List Blk) (ip:Nat) (a td:AV) (cls:List AV) (t:Tr) (L':List Blk) (td':AV) (rx:Nat) (its:List It) (cs:List AV) (R:List (Nat × Ro)) (F:List (Nat × Blk)):Prop where
 pen:Pen A L' ip a td' (cls++cs)
 frm:Frm L (penX ip td) L' (penX ip td')
 fx:Fx L' (penX ip td') F
 rts:Rx L' (penX ip td') R
 flo:∀ p∈F,L.length≤p.1
 rlo:∀ p∈R,L.length≤p.1
 cl:ClsOk A.length ip F cs its
 tr:AddT t rx its R
 nd:(R.map Prod.fst).Nodup
 fw:No5 F
theorem Rx.one {L:List Blk} {X:Nat→Prop} {i:Nat} {r:Ro} (h:L[i]?=some (.arr 5 0 [r.av])) (hn:¬ X i):Rx L X [(i,r)]:=by
 intro p hp
 simp only [List.map_cons,List.map_nil,List.mem_singleton] at hp
 subst hp
 exact ⟨h,hn⟩
theorem add_kept {A:List (Bool × List Blk)} {L:List Blk} {ip:Nat} {a td:AV} {cls:List AV} (h:Pen A L ip a td cls) {o hh:Nat} {m:Mea} {k:Option (List Tr)} (h0:o≠0) (hk:k.getD []=[]) :
 ∃ L' td' rx its cs R F,S Tb F_rope_Pen_add [.ptr A.length ip 0 0 0,(Tr.mk o hh m [] k).av] ⟨A,false,L⟩=some (.ptr A.length rx 0 0 0,⟨A,false,L'⟩)∧Added A L ip a td cls (.mk o hh m [] k) L' td' rx its cs R F:=by
 refine ⟨L++[.arr 7 0 [(Tr.mk o hh m [] k).av],.arr 5 0 [Ro.av ⟨o,hh,m⟩]],td,L.length+1,[],[],[(L.length+1,⟨o,hh,m⟩)],[],s_keep rfl ?_,?_⟩
 ·have e0:(⟨A,false,L⟩:St)=⟨A,false,L++[]⟩:=by rw [lN]
  rw [e0]
  obtain ⟨ka,hka,hka2⟩:∃ ka,Tr.avO k=ka∧(ka=.nils∨ka=.lit []):=by
   cases k with
   | none=>exact ⟨_,rfl,.inl rfl⟩
   | some l=>have:l=[]:=hk;subst this;exact ⟨_,rfl,.inr rfl⟩
  simp only [Tr.av,hka] at *
  rcases hka2 with rfl|rfl
  all_goals repeat' (first|refine is_boxA rfl rfl rfl rfl rfl ?_|refine is_ldA rfl rfl rfl rfl ?_|refine ruS rfl ?_|refine isS rfl ?_|refine rkS rfl ?_|(refine is_neq rfl rfl (fun _=>?_) (fun _=>?_)<;>try (exfalso;omega))|refine is_buildO rfl rfl rfl ?_)
  all_goals try (exfalso;omega)
  all_goals refine (end_keep (.inr rfl) rfl rfl rfl rfl).trans ?_
  all_goals rfl
 ·refine ⟨by rw [lN];exact h.app _,.app _,fun p hp=>by simp at hp,Rx.one ?_ (fun q=>by have:=h.lt q;omega),fun p hp=>by simp at hp,fun p hp=>?_,.nil,.kept h0,by simp,.nil⟩
  ·exact get_app (i:=1)
  ·simp only [List.mem_singleton] at hp;subst hp;simp
theorem add_leaf {A:List (Bool × List Blk)} {L:List Blk} {ip:Nat} {a td:AV} {cls:List AV} (h:Pen A L ip a td cls) (hl:cls.length<1000000) {s:List UInt8} {k:Option (List Tr)} (hs:leafP s) (hk:k.getD []=[]) :
 ∃ L' td' rx its cs R F,S Tb F_rope_Pen_add [.ptr A.length ip 0 0 0,(Tr.mk 0 0 .zero s k).av] ⟨A,false,L⟩=some (.ptr A.length rx 0 0 0,⟨A,false,L'⟩)∧Added A L ip a td cls (.mk 0 0 .zero s k) L' td' rx its cs R F:=by
 obtain ⟨T,hT⟩:∃ T:List Blk,T=[.arr 7 0 [(Tr.mk 0 0 .zero s k).av],.arr 5 0 [Ro.av ⟨0,0,meaT s⟩],.arr 3 0 [.agg [.int .i64 0,.str s,.nils]]]:=⟨_,rfl⟩
 have hlen:T.length=3:=by rw [hT];rfl
 obtain ⟨L1,td1,hS,hp,hf,hx⟩:=put_c (h.app T) (rx:=L.length+1) (Cv.one (n:=A.length) (L.length+2)) hl
 have hM:=fun st=>nMeasure_c ⟨0,s,none⟩ (.inl ⟨rfl,hs.1,hs.2,rfl⟩) st
 have hm0:Nd.mea ⟨0,s,none⟩=meaT s:=rfl
 rw [hm0] at hM
 have hne:s≠[]:=fun q=>by rw [q] at hs;have:=hs.1;simp at this
 have hff:=(Frm.app (L:=L) (X:=penX ip td) T).trans hf
 have hltX:∀ i,penX ip td i→i<L.length:=fun i hi=>h.lt hi
 have hnX:∀ i,L.length≤i→i<L.length+3→¬ penX ip td1 i:=fun i h1 h2 q=>by
  rcases hf.own i q with w|w
  ·have:=hltX i w;omega
  ·rw [lL] at w;omega
 have hg:∀ j b,T[j]?=some b→L1[L.length+j]?=some b:=fun j b hb=>by
  have hj:=(List.getElem?_eq_some_iff.1 hb).1
  rw [hf.old _ (by rw [lL];omega) (fun q=>by have:=hltX _ q;omega),get_app];exact hb
 refine ⟨L1,td1,L.length+1,[⟨L.length+1,.leaf s⟩],_,[(L.length+1,⟨0,0,meaT s⟩)],(L.length+2,Blk.arr 3 0 [.agg [.int .i64 0,.str s,.nils]])::[((L++T).length,Blk.arr 1 0 [.ptr A.length ip 0 0 0]),((L++T).length+1,Blk.arr 1 0 [.ptr A.length (L.length+1) 0 0 0]),((L++T).length+2,Blk.arr 1 0 [.func (.func F_rope_Pen_addC1) [] [.ptr A.length (L.length+2) 0 0 0]])],s_keep rfl ?_,⟨hp,hff,?_,Rx.one (hg 1 _ (by rw [hT];rfl)) (hnX _ (by omega) (by omega)),?_,?_,.cons ⟨_,_,_,_,rfl,List.mem_cons_of_mem _ ?_,List.mem_cons_of_mem _ ?_,List.mem_cons_of_mem _ ?_,⟨L.length+2,rfl,?_⟩⟩ .nil,.leaf,by simp,.cons (by decide) (.cons (by decide) (.cons (by decide) (.cons (by decide) .nil)))⟩⟩
 ·have e0:(⟨A,false,L⟩:St)=⟨A,false,L++[]⟩:=by rw [lN]
  rw [e0]
  obtain ⟨ka,hka,hka2⟩:∃ ka,Tr.avO k=ka∧(ka=.nils∨ka=.lit []):=by
   cases k with
   | none=>exact ⟨_,rfl,.inl rfl⟩
   | some l=>have:l=[]:=hk;subst this;exact ⟨_,rfl,.inr rfl⟩
  rw [hT] at hS
  simp only [Tr.av,Nd.av,slV,Mea.zero,hka] at *
  rcases hka2 with rfl|rfl
  all_goals repeat' (first|refine is_boxA rfl rfl rfl rfl rfl ?_|refine is_ldA rfl rfl rfl rfl ?_|refine is_stA rfl rfl rfl rfl rfl rfl rfl ?_|refine ruS rfl ?_|refine isS rfl ?_|refine rkS rfl ?_|(refine is_eql rfl rfl (fun _=>?_) (fun _=>?_)<;>try (exfalso;omega))|(refine is_neq rfl rfl (fun _=>?_) (fun _=>?_)<;>try (exfalso;omega))|(refine is_eqlS rfl rfl (fun _=>?_) (fun _=>?_)<;>try contradiction)|refine is_buildO rfl rfl rfl ?_|refine is_mkf rfl rfl ?_|refine is_callE rfl rfl rfl (hM _) ?_|refine is_callE rfl rfl rfl (hS) ?_)
  all_goals try contradiction
  all_goals exact end_keep (.inr rfl) rfl rfl rfl rfl
 ·intro p hp
  rcases List.mem_cons.1 hp with rfl|q
  ·exact ⟨hg 2 _ (by rw [hT];rfl),hnX _ (by omega) (by omega)⟩
  ·exact hx p q
 ·intro p hp
  simp only [List.mem_cons,List.not_mem_nil,or_false,lL] at hp
  rcases hp with rfl|rfl|rfl|rfl<;>simp only<;>omega
 ·intro p hp
  simp only [List.mem_singleton] at hp;subst hp;simp
 ·simp
 ·simp
 ·simp
 ·simp
theorem add_sum {k:List Fr} {Q:Post} {A:List (Bool × List Blk)} {X:List Blk} {jb rx:Nat} {o hh v0 v3 v7 v20 v21 v22:AV} {mb mr ml:Int} {r:Ro} (h1:X[jb]?=some (Blk.arr 5 0 [.agg [o,hh,.int .i64 mb,.int .i64 mr,.int .i64 ml]])) (h2:X[rx]?=some (Blk.arr 5 0 [r.av])) (hne:jb≠rx)
 (hb:0≤mb∧mb≤262144∧0≤mr∧mr≤262144∧0≤ml∧ml≤262144) (hr:0≤r.m.b∧r.m.b≤65536∧0≤r.m.r∧r.m.r≤65536∧0≤r.m.l∧r.m.l≤65536)
 (h:Rk (S Tb) k Q .norm [(0,v0),(3,v3),(5,.ptr A.length jb 0 0 0),(7,v7),(20,v20),(21,v21),(22,v22)] ⟨A,false,X.set jb (.arr 5 0 [.agg [o,hh,.int .i64 (mb+r.m.b),.int .i64 (mr+r.m.r),.int .i64 (ml+r.m.l)]])⟩) :
 Ru (S Tb) (.seq p_rope_Pen_add_13 (.seq p_rope_Pen_add_14 p_rope_Pen_add_15)) k Q [(0,v0),(3,v3),(5,.ptr A.length jb 0 0 0),(7,v7),(10,.ptr A.length rx 0 0 0),(20,v20),(21,v21),(22,v22)] ⟨A,false,X⟩:=by
 have hlt:=(List.getElem?_eq_some_iff.1 h1).1
 have h3:∀ b,(X.set jb b)[rx]?=some (Blk.arr 5 0 [r.av]):=fun b=>by rw [List.getElem?_set_ne hne];exact h2
 unfold Ro.av at h2 h3
 repeat' (first|refine is_ldc rfl h1 rfl rfl ?_|refine is_ldc rfl h2 rfl rfl ?_|refine ruS rfl ?_|refine isS rfl ?_|refine is_addS rfl rfl (by omega) ?_)
 refine is_stn h1 rfl rfl rfl rfl rfl ?_
 repeat' (first|refine is_ldc rfl (List.getElem?_set_self hlt) rfl rfl ?_|refine is_ldc rfl (h3 _) rfl rfl ?_|refine ruS rfl ?_|refine isS rfl ?_|refine rk_seq ?_|refine is_addS rfl rfl (by omega) ?_)
 refine is_stn (List.getElem?_set_self hlt) rfl rfl rfl rfl rfl ?_
 rw [List.set_set]
 repeat' (first|refine is_ldc rfl (List.getElem?_set_self hlt) rfl rfl ?_|refine is_ldc rfl (h3 _) rfl rfl ?_|refine ru_reg ?_|refine isS rfl ?_|refine rk_seq ?_|refine is_addS rfl rfl (by omega) ?_)
 refine is_stn (List.getElem?_set_self hlt) rfl rfl rfl rfl rfl ?_
 rw [List.set_set]
 refine is_nil rfl ?_
 exact h
end Go.Q15
namespace Go.Q15
open Go Go.QAbs
set_option maxRecDepth 100000
set_option maxHeartbeats 8000000
structure AInv (A:List (Bool × List Blk)) (L:List Blk) (ip:Nat) (a td:AV) (cls:List AV) (h:Nat) (l:List Tr) (i:Nat) (Li:List Blk) (td':AV) (rs:List Nat) (its:List It) (cs:List AV) (R:List (Nat × Ro)) (F:List (Nat × Blk)):Prop where
 le:i≤l.length
 pen:Pen A Li ip a td' (cls++cs)
 frm:Frm L (penX ip td) Li (penX ip td')
 fx:Fx Li (penX ip td') F
 rts:Rx Li (penX ip td') R
 flo:∀ p∈F,L.length+4≤p.1
 rlo:∀ p∈R,L.length+4≤p.1
 plo:∀ j,penX ip td' j→penX ip td j∨L.length+4≤j
 nd:(R.map Prod.fst).Nodup
 cl:ClsOk A.length ip F cs its
 tr:AddL (l.take i) rs its R
 len:L.length+4≤Li.length
 b0:Li[L.length]?=some (.arr 7 0 [(Tr.mk 0 (h+1) .zero [] (some l)).av])
 b1:Li[L.length+1]?=some (.arr 5 0 [Ro.av ⟨0,h+1,sumM ((l.take i).map Tr.mea)⟩])
 b2:Li[L.length+2]?=some (.arr 1 i (ptrs A.length rs))
 b3:Li[L.length+3]?=some (.arr 1 0 [.ref A.length (L.length+2) i 0 i])
 fw:No5 F
theorem ptr_seal (n:Nat) (st:St) (r:Nat):mapSt (sealV deep (n+1)) st [.ptr n r 0 0 0]=some ([.ptr n r 0 0 0],st):=by
 simp only [mapSt,sealV,deep,if_pos (Nat.lt_succ_self n),oS,consK]
theorem wkPT0 {a:AV} (h:weak a=a) (t:Tr):forceL (weaks ([]++[a,t.av]++[]))=some [a,t.av]:=by
 simp only [lE,lN,lC,weaks,tr_weak,forceL,h]
theorem keys_lt {L:List Blk} {X:Nat→Prop} {R:List (Nat × Ro)} (h:Rx L X R):∀ k∈R.map Prod.fst,k<L.length:=by
 intro k hk
 obtain ⟨p,hp,rfl⟩:=List.mem_map.1 hk
 exact (List.getElem?_eq_some_iff.1 (h.get hp).1).1
theorem AInv.step {A:List (Bool × List Blk)} {L:List Blk} {ip:Nat} {a td:AV} {cls:List AV} (hP:Pen A L ip a td cls) {h:Nat} {l:List Tr} {i:Nat} {Li:List Blk} {td1:AV} {rs:List Nat} {its:List It} {cs:List AV} {R:List (Nat × Ro)} {F:List (Nat × Blk)}
 (hi:AInv A L ip a td cls h l i Li td1 rs its cs R F) {u:Tr} (hu:l[i]?=some u) {B:Blk} {L1:List Blk} {td2:AV} {rx:Nat} {its2:List It} {cs2:List AV} {R2:List (Nat × Ro)} {F2:List (Nat × Blk)} (ha:Added A (Li++[B]) ip a td1 (cls++cs) u L1 td2 rx its2 cs2 R2 F2)
 {T:List Blk} {L2:List Blk} (hl2:L2.length=(L1++T).length) (hold:∀ j,j<L1.length→j≠L.length+1→j≠L.length+2→j≠L.length+3→L2[j]?=L1[j]?)
 (b1:L2[L.length+1]?=some (.arr 5 0 [Ro.av ⟨0,h+1,sumM ((l.take (i+1)).map Tr.mea)⟩])) (b2:L2[L.length+2]?=some (.arr 1 (i+1) (ptrs A.length (rs++[rx])))) (b3:L2[L.length+3]?=some (.arr 1 0 [.ref A.length (L.length+2) (i+1) 0 (i+1)])) :
 AInv A L ip a td cls h l (i+1) L2 td2 (rs++[rx]) (its++its2) (cs++cs2) (R++R2) (F++F2):=by
 have hlt:=(List.getElem?_eq_some_iff.1 hu).1
 have hlen:=hi.len
 have hl1:=ha.frm.len
 rw [lL,List.length_singleton] at hl1
 rw [lL] at hl2
 have hX1:∀ j,penX ip td1 j→j<Li.length:=fun j hj=>hi.pen.lt hj
 have plo2:∀ j,penX ip td2 j→penX ip td j∨L.length+4≤j:=fun j hj=>by
  rcases ha.frm.own j hj with q|q
  ·exact hi.plo j q
  ·rw [lL,List.length_singleton] at q;exact .inr (by omega)
 have hltL:∀ j,penX ip td j→j<L.length:=fun j hj=>hP.lt hj
 have hfrm:Frm L1 (penX ip td2) L2 (penX ip td2)→Frm L1 (penX ip td2) L2 (penX ip td2):=id
 -- what is known of L1 stays in L2
 have keep:∀ {j:Nat} {b:Blk},L1[j]?=some b→j≠L.length+1→j≠L.length+2→j≠L.length+3→L2[j]?=some b:=fun {j b} hb n1 n2 n3=>by
  rw [hold j (List.getElem?_eq_some_iff.1 hb).1 n1 n2 n3];exact hb
 have f1:=(Frm.app (L:=Li) (X:=penX ip td1) [B]).trans ha.frm
 have k1:Fx L1 (penX ip td2) F:=hi.fx.frm f1
 have k2:Rx L1 (penX ip td2) R:=hi.rts.frm f1
 have lo2:∀ p∈R2,Li.length+1≤p.1:=fun p hp=>by have:=ha.rlo p hp;rwa [lL,List.length_singleton] at this
 have flo2:∀ p∈F2,Li.length+1≤p.1:=fun p hp=>by have:=ha.flo p hp;rwa [lL,List.length_singleton] at this
 refine ⟨hlt,?_,?_,?_,?_,?_,?_,plo2,?_,?_,?_,by omega,?_,b1,b2,b3,hi.fw.append ha.fw⟩
 ·rw [← List.append_assoc]
  refine ha.pen.frm fun j hj=>hold j (ha.pen.lt hj) ?_ ?_ ?_<;>intro q<;>rcases plo2 j hj with w|w<;>first|omega|(have:=hltL j w;omega)
 ·refine ⟨by have:=hi.frm.len;omega,fun j hj hn=>?_,fun j hj=>?_⟩
  ·have hn1:¬ penX ip td1 j:=fun q=>by rcases hi.plo j q with w|w;exact hn w;omega
   rw [hold j (by omega) (by omega) (by omega) (by omega),f1.old j (by omega) hn1,hi.frm.old j hj hn]
  ·rcases plo2 j hj with q|q
   ·exact .inl q
   ·exact .inr (by omega)
 ·refine Fx.append (fun p hp=>?_) (fun p hp=>?_)
  ·have:=hi.flo p hp
   exact ⟨keep (k1 p hp).1 (by omega) (by omega) (by omega),(k1 p hp).2⟩
  ·have:=flo2 p hp
   exact ⟨keep (ha.fx p hp).1 (by omega) (by omega) (by omega),(ha.fx p hp).2⟩
 ·refine Rx.append (fun p hp=>?_) (fun p hp=>?_)
  ·obtain ⟨q,hq,rfl⟩:=List.mem_map.1 hp
   have:=hi.rlo q hq
   exact ⟨keep (k2.get hq).1 (by simp only;omega) (by simp only;omega) (by simp only;omega),(k2.get hq).2⟩
  ·obtain ⟨q,hq,rfl⟩:=List.mem_map.1 hp
   have:=lo2 q hq
   exact ⟨keep (ha.rts.get hq).1 (by simp only;omega) (by simp only;omega) (by simp only;omega),(ha.rts.get hq).2⟩
 ·intro p hp
  rcases List.mem_append.1 hp with q|q
  ·exact hi.flo p q
  ·have:=flo2 p q;omega
 ·intro p hp
  rcases List.mem_append.1 hp with q|q
  ·exact hi.rlo p q
  ·have:=lo2 p q;omega
 ·rw [List.map_append,List.nodup_append]
  refine ⟨hi.nd,?_,?_⟩
  ·exact ha.nd
  ·intro x hx y hy e
   subst e
   have h1:=keys_lt hi.rts x hx
   obtain ⟨p,hp,rfl⟩:=List.mem_map.1 hy
   have:=lo2 p hp
   omega
 ·exact (hi.cl.mono (fun p hp=>by simp [hp])).append (ha.cl.mono (fun p hp=>by simp [hp]))
 ·rw [take_succ_get hu]
  exact hi.tr.snoc ha.tr
 ·have hb0:=hi.b0
  rw [← f1.old _ (by omega) (fun q=>by rcases hi.plo _ q with w|w;have:=hltL _ w;omega;omega)] at hb0
  exact keep hb0 (by omega) (by omega) (by omega)
theorem AddT.root {t:Tr} {rx:Nat} {its:List It} {R:List (Nat × Ro)} (h:AddT t rx its R):∃ r:Ro,(rx,r)∈R∧r.m=t.mea∧r.h=t.h:=by
 cases h with
 | @kept o h m k _ h0=>exact ⟨⟨o,h,m⟩,by simp,(mea_kept h0).symm,rfl⟩
 | @leaf s k _=>exact ⟨⟨0,0,meaT s⟩,by simp,(mea_leaf _ _).symm,rfl⟩
 | @inner h l _ rs its R hl hn hx=>exact ⟨⟨0,h+1,sumM (l.map Tr.mea)⟩,by simp,(mea_in _ _).symm,rfl⟩
theorem add_in {l:List Tr} {A:List (Bool × List Blk)} (ih:∀ u∈l,∀ {L:List Blk} {ip:Nat} {a td:AV} {cls:List AV},Pen A L ip a td cls→cls.length+u.cnt<1000000 →
 ∃ L' td' rx its cs R F,S Tb F_rope_Pen_add [.ptr A.length ip 0 0 0,u.av] ⟨A,false,L⟩=some (.ptr A.length rx 0 0 0,⟨A,false,L'⟩)∧Added A L ip a td cls u L' td' rx its cs R F)
 (hl4:1≤l.length∧l.length≤4) (hfit:∀ u∈l,u.mea.Fit 65536) {h:Nat} (hh:h≤16) {L:List Blk} {ip:Nat} {a td:AV} {cls:List AV} (hP:Pen A L ip a td cls) (hc:cls.length+(Tr.mk 0 (h+1) .zero [] (some l)).cnt<1000000) :
 ∃ L' td' rx its cs R F,S Tb F_rope_Pen_add [.ptr A.length ip 0 0 0,(Tr.mk 0 (h+1) .zero [] (some l)).av] ⟨A,false,L⟩=some (.ptr A.length rx 0 0 0,⟨A,false,L'⟩)∧Added A L ip a td cls (.mk 0 (h+1) .zero [] (some l)) L' td' rx its cs R F:=by
 have hav:(Tr.mk 0 (h+1) .zero [] (some l)).av=.agg [.int .u64 (0:Nat),.int .i64 ((h+1:Nat):Int),.int .i64 0,.int .i64 0,.int .i64 0,.str [],.lit (l.map Tr.av)]:=by
  rw [Tr.av,Tr.avO_sl];rfl
 have hcn:(Tr.mk 0 (h+1) .zero [] (some l)).cnt=1+Tr.cntL l:=by rw [Tr.cnt,Tr.cntO];simp
 rw [hcn] at hc
 have hltL:∀ j,penX ip td j→j<L.length:=fun j hj=>hP.lt hj
 have hmain:Sp Tb F_rope_Pen_add [.ptr A.length ip 0 0 0,(Tr.mk 0 (h+1) .zero [] (some l)).av] ⟨A,false,L⟩ fun v st'=>∃ L' td' rx its cs R F,v=.ptr A.length rx 0 0 0∧st'=⟨A,false,L'⟩∧Added A L ip a td cls (.mk 0 (h+1) .zero [] (some l)) L' td' rx its cs R F:=by
  refine sp_keep rfl ?_
  have e0:(⟨A,false,L⟩:St)=⟨A,false,L++[]⟩:=by rw [lN]
  rw [e0,hav]
  repeat' (first|refine is_boxA rfl rfl rfl rfl rfl ?_|refine is_ldA rfl rfl rfl rfl ?_|refine is_boxnilA rfl ?_|refine ruS rfl ?_|refine isS rfl ?_|refine rk_seq ?_|refine is_lenM rfl ?_|(refine is_eql rfl rfl (fun _=>?_) (fun _=>?_)<;>try (exfalso;omega))|(refine is_neq rfl rfl (fun _=>?_) (fun _=>?_)<;>try (exfalso;omega))|(refine is_eqlS rfl rfl (fun _=>?_) (fun _=>?_)<;>try contradiction)|refine is_buildO rfl rfl rfl ?_)
  refine ru_loopP (α:=Nat × List Blk) (fun p=>[(0,.ptr A.length ip 0 0 0),(3,.ptr A.length L.length 0 0 0),(5,.ptr A.length (L.length+1) 0 0 0),(7,.ptr A.length (L.length+3) 0 0 0),(20,.lit (l.map Tr.av)),(21,.int .i64 l.length),(22,.int .i64 p.1)])
   (fun p=>⟨A,false,p.2⟩) (fun p=>∃ td' rs its cs R F,AInv A L ip a td cls h l p.1 p.2 td' rs its cs R F) (fun p=>l.length-p.1) (0,_) ?_ rfl ?_ ?_
  ·simp
  ·refine ⟨td,[],[],[],[],[],Nat.zero_le _,?_,.app _,fun p hp=>by simp at hp,fun p hp=>by simp at hp,fun p hp=>by simp at hp,fun p hp=>by simp at hp,fun j hj=>.inl hj,by simp,.nil,.nil,by simp,?_,?_,?_,?_,.nil⟩
   ·rw [lN];exact hP.app _
   ·exact (get_app (i:=0)).trans (by rw [hav];rfl)
   ·exact get_app (i:=1)
   ·exact get_app (i:=2)
   ·exact get_app (i:=3)
  rintro ⟨i,Li⟩ ⟨td1,rs,its,cs,R,F,hi⟩
  simp only at hi ⊢
  have hle:=hi.le
  have hrs:rs.length=i:=by rw [hi.tr.len,List.length_take];omega
  have hplen:i=(ptrs A.length rs).length:=by simp [ptrs,hrs]
  have hll:=hi.len
  rcases Nat.lt_or_ge i l.length with hlt|hge
  ·obtain ⟨u,hu⟩:∃ u,l[i]?=some u:=⟨l[i]'hlt,by simp [hlt]⟩
   have hum:=List.mem_of_getElem? hu
   have ht1:0≤((i:Nat):Int)∧l[((i:Nat):Int).toNat]?=some u:=⟨by omega,by rw [show ((i:Nat):Int).toNat=i by omega];exact hu⟩
   have hc1:(cls++cs).length+u.cnt<1000000:=by
    have h1:=hi.cl.len
    have h2:=hi.tr.cnt
    have h3:Tr.cntL l=Tr.cntL (l.take i)+(u.cnt+Tr.cntL (l.drop (i+1))):=by
     conv=>lhs;rw [← List.take_append_drop (i+1) l,take_succ_get hu,Tr.cntL_append,Tr.cntL_append]
     simp [Tr.cntL];omega
    rw [lL];omega
   obtain ⟨L1,td2,rx,its2,cs2,R2,F2,hS,ha⟩:=ih u hum (hi.pen.app [Blk.arr 7 0 [u.av]]) hc1
   obtain ⟨r,hr,hrm,hrh⟩:=ha.tr.root
   have hrx:=ha.rlo _ hr
   have hrg:=(ha.rts.get hr).1
   simp only at hrx hrg
   rw [lL,List.length_singleton] at hrx
   have f1:=(Frm.app (L:=Li) (X:=penX ip td1) [Blk.arr 7 0 [u.av]]).trans ha.frm
   have hnx:∀ j,j<4→¬ penX ip td1 (L.length+j):=fun j hj q=>by
    rcases hi.plo _ q with w|w
    ·have:=hltL _ w;omega
    ·omega
   have g1:=hi.b1
   have g2:=hi.b2
   have g3:=hi.b3
   rw [← f1.old _ (by omega) (hnx 1 (by omega))] at g1
   rw [← f1.old _ (by omega) (hnx 2 (by omega))] at g2
   rw [← f1.old _ (by omega) (hnx 3 (by omega))] at g3
   have hl1:=ha.frm.len
   rw [lL,List.length_singleton] at hl1
   have gA2:∀ T,(L1++T)[L.length+2]?=some (.arr 1 i (ptrs A.length rs)):=fun T=>get_left g2
   have gA3:∀ T b,((L1++T).set (L.length+2) b)[L.length+3]?=some (.arr 1 0 [.ref A.length (L.length+2) i 0 i]):=fun T b=>by
    rw [List.getElem?_set_ne (by omega)];exact get_left g3
   have gA1:∀ T b c,(((L1++T).set (L.length+2) b).set (L.length+3) c)[L.length+1]?=some (.arr 5 0 [.agg [.int .u64 (0:Nat),.int .i64 ((h+1:Nat):Int),.int .i64 (sumM ((l.take i).map Tr.mea)).b,.int .i64 (sumM ((l.take i).map Tr.mea)).r,.int .i64 (sumM ((l.take i).map Tr.mea)).l]]):=fun T b c=>by
    rw [List.getElem?_set_ne (by omega),List.getElem?_set_ne (by omega)];exact get_left g1
   have gAr:∀ T b c,(((L1++T).set (L.length+2) b).set (L.length+3) c)[rx]?=some (.arr 5 0 [r.av]):=fun T b c=>by
    rw [List.getElem?_set_ne (by omega),List.getElem?_set_ne (by omega)];exact get_left hrg
   have hsf:=sumM_fit (l:=(l.take i).map Tr.mea) (fun m hm=>by obtain ⟨w,hw,rfl⟩:=List.mem_map.1 hm;exact hfit w (List.mem_of_mem_take hw))
   have hsl:(((l.take i).map Tr.mea).length:Int)*65536≤262144:=by simp;omega
   have huf:=hfit u hum
   rw [← hrm] at huf
   obtain ⟨s1,s2,s3,s4,s5,s6⟩:=hsf
   obtain ⟨m1,m2,m3,m4,m5,m6⟩:=huf
   have hbb:0≤(sumM ((l.take i).map Tr.mea)).b∧(sumM ((l.take i).map Tr.mea)).b≤262144∧0≤(sumM ((l.take i).map Tr.mea)).r∧(sumM ((l.take i).map Tr.mea)).r≤262144∧0≤(sumM ((l.take i).map Tr.mea)).l∧(sumM ((l.take i).map Tr.mea)).l≤262144:=⟨s1,by omega,s3,by omega,s5,by omega⟩
   have hpl:(ptrs A.length rs).length+[AV.ptr A.length rx 0 0 0].length<4294967296:=by simp;omega
   repeat' (first|refine is_ixKn rfl rfl ht1 tr_wide ?_|refine add_sum (gA1 _ _ _) (gAr _ _ _) (by omega) hbb ⟨m1,m2,m3,m4,m5,m6⟩ ?_|refine ruS rfl ?_|refine isS rfl ?_|refine rkS rfl ?_|(refine is_lss rfl rfl (fun _=>?_) (fun _=>?_)<;>try (exfalso;omega))|refine is_addS rfl rfl (by omega) ?_|refine is_boxG rfl rfl rfl ?_|refine is_ldl rfl (tr_part _) ?_|refine is_ldT rfl rfl (tr_part _) ?_|refine is_stT rfl rfl rfl (tr_seal _ _ _) (tr_put _ _) rfl ?_|refine is_callE rfl rfl (by first|rfl|(simp only [lE,lN,lC,weaks,tr_weak,forceL];first|done|rfl)) (hS) ?_|refine is_ldc rfl g3 rfl rfl ?_|refine is_bsl1 rfl rfl ?_|refine is_appG2 (ys:=[.ptr A.length rx 0 0 0]) rfl rfl (get_at _ _ []) (gA2 _) hplen rfl (ptr_seal _ _ _) hpl (by decide) ?_|refine is_stn (gA3 _ _) rfl rfl rfl (seal_refL _ (Nat.lt_succ_self _)) rfl ?_)
   have hT3:(((L1++[Blk.arr 1 0 [.ptr A.length rx 0 0 0]]).set (L.length+2) (.arr 1 (i+1) (ptrs A.length rs++[.ptr A.length rx 0 0 0]))).set (L.length+3) (.arr 1 0 ([AV.ref A.length (L.length+2) i 0 i].set 0 (.ref A.length (L.length+2) (i+1) 0 (i+[AV.ptr A.length rx 0 0 0].length))))).length=(L1++[Blk.arr 1 0 [.ptr A.length rx 0 0 0]]).length:=by simp
   refine ⟨(i+1,_),⟨rfl,rfl⟩,⟨td2,rs++[rx],its++its2,cs++cs2,R++R2,F++F2,hi.step hP hu ha (T:=[Blk.arr 1 0 [.ptr A.length rx 0 0 0]]) (by simp) ?_ ?_ ?_ ?_⟩,by simp only;omega⟩
   ·intro j hj n1 n2 n3
    rw [List.getElem?_set_ne (by omega),List.getElem?_set_ne (by omega),List.getElem?_set_ne (by omega),List.getElem?_append_left hj]
   ·rw [List.getElem?_set_self (by rw [hT3,lL];omega),take_succ_get hu,List.map_append,sumM_append]
    rw [List.map_cons,List.map_nil,sumM,sumM,Mea.add_zero,← hrm]
    rfl
   ·rw [List.getElem?_set_ne (by omega),List.getElem?_set_ne (by omega),List.getElem?_set_self (by rw [lL];omega)]
    simp [ptrs]
   ·rw [List.getElem?_set_ne (by omega),List.getElem?_set_self (by rw [List.length_set,lL];omega)]
    rfl
  ·obtain rfl:i=l.length:=by omega
   have htr:=hi.tr
   have g1:=hi.b1
   rw [List.take_length] at htr g1
   have g0:=hi.b0
   have g2:Li[L.length+2]?=some (.arr 1 rs.length (ptrs A.length rs)):=by rw [hrs];exact hi.b2
   have g3:Li[L.length+3]?=some (.arr 1 0 [.ref A.length (L.length+2) rs.length 0 rs.length]):=by rw [hrs];exact hi.b3
   have hcl:(cls++cs).length<1000000:=by
    have h1:=hi.cl.len
    have h2:=htr.cnt
    rw [lL];omega
   have hnx:∀ j,j<4→¬ penX ip td1 (L.length+j):=fun j hj q=>by
    rcases hi.plo _ q with w|w
    ·have:=hltL _ w;omega
    ·omega
   obtain ⟨L1,td2,hS,hp,hf,hx⟩:=put_c hi.pen (rx:=L.length+1) (Cv.two (n:=A.length) L.length (L.length+3)) hcl
   have hnx2:∀ j,j<4→¬ penX ip td2 (L.length+j):=fun j hj q=>by
    rcases hf.own _ q with w|w
    ·exact hnx j hj w
    ·omega
   rw [← hf.old L.length (by omega) (hnx 0 (by omega))] at g0
   rw [← hf.old _ (by omega) (hnx 1 (by omega))] at g1
   rw [← hf.old _ (by omega) (hnx 2 (by omega))] at g2
   rw [← hf.old _ (by omega) (hnx 3 (by omega))] at g3
   have hkl:∀ k∈R.map Prod.fst,L.length+4≤k:=fun k hk=>by
    obtain ⟨p,hp,rfl⟩:=List.mem_map.1 hk
    exact hi.rlo p hp
   repeat' (first|refine ruS rfl ?_|refine isS rfl ?_|refine rkS rfl ?_|(refine is_lss rfl rfl (fun _=>?_) (fun _=>?_)<;>try (exfalso;omega))|refine is_mkf rfl rfl ?_|refine is_callE rfl rfl rfl (hS) ?_)
   all_goals try (exfalso;omega)
   refine ⟨_,_,end_keep (.inr rfl) rfl rfl rfl rfl,L1,td2,L.length+1,its++[⟨L.length+1,.inn (h+1) rs⟩],cs++[clV A.length Li.length (Li.length+2) (Li.length+1)],R++[(L.length+1,⟨0,h+1,sumM (l.map Tr.mea)⟩)],
    (F++[(L.length,Blk.arr 7 0 [(Tr.mk 0 (h+1) .zero [] (some l)).av]),(L.length+3,Blk.arr 1 0 [.ref A.length (L.length+2) rs.length 0 rs.length]),(L.length+2,Blk.arr 1 rs.length (ptrs A.length rs))]) ++
     [(Li.length,Blk.arr 1 0 [.ptr A.length ip 0 0 0]),(Li.length+1,Blk.arr 1 0 [.ptr A.length (L.length+1) 0 0 0]),(Li.length+2,Blk.arr 1 0 [.func (.func F_rope_Pen_addC2) [] [.ptr A.length L.length 0 0 0,.ptr A.length (L.length+3) 0 0 0]])],rfl,rfl,
    ⟨by rw [← List.append_assoc];exact hp,hi.frm.trans hf,?_,?_,?_,?_,?_,.inner htr hi.nd (fun q=>by have:=hkl _ q;omega),?_,(hi.fw.append (.cons (by decide) (.cons (by decide) (.cons (by decide) .nil)))).append (.cons (by decide) (.cons (by decide) (.cons (by decide) .nil)))⟩⟩
   ·refine Fx.append (Fx.append (hi.fx.frm hf) (fun p hp=>?_)) hx
    simp only [List.mem_cons,List.not_mem_nil,or_false] at hp
    rcases hp with rfl|rfl|rfl
    ·exact ⟨g0,hnx2 0 (by omega)⟩
    ·exact ⟨g3,hnx2 3 (by omega)⟩
    ·exact ⟨g2,hnx2 2 (by omega)⟩
   ·exact Rx.append (hi.rts.frm hf) (Rx.one g1 (hnx2 1 (by omega)))
   ·intro p hp
    simp only [List.mem_append,List.mem_cons,List.not_mem_nil,or_false] at hp
    rcases hp with (q|rfl|rfl|rfl)|rfl|rfl|rfl
    ·have:=hi.flo p q;omega
    all_goals simp only
    all_goals omega
   ·intro p hp
    simp only [List.mem_append,List.mem_singleton] at hp
    rcases hp with q|rfl
    ·have:=hi.rlo p q;omega
    ·simp only;omega
   ·refine (hi.cl.mono (fun p hp=>by simp [hp])).append (.cons ⟨Li.length,Li.length+2,Li.length+1,.func (.func F_rope_Pen_addC2) [] [.ptr A.length L.length 0 0 0,.ptr A.length (L.length+3) 0 0 0],rfl,by simp,by simp,by simp,⟨L.length,L.length+3,L.length+2,Tr.mk 0 (h+1) .zero [] (some l),rfl,rfl,by simp,by simp,by simp⟩⟩ .nil)
   ·rw [List.map_append,List.nodup_append]
    refine ⟨hi.nd,by simp,?_⟩
    intro x hx y hy e
    simp only [List.map_cons,List.map_nil,List.mem_singleton] at hy
    have:=hkl x hx
    omega
 obtain ⟨v,st',h1,L',td',rx,its,cs,R,F,rfl,rfl,h2⟩:=hmain
 exact ⟨L',td',rx,its,cs,R,F,h1,h2⟩
theorem add_c {N:Nodes} {t:Tr} {A:List (Bool × List Blk)} (hv:Val N t):t.bytes≤65536→∀ {L:List Blk} {ip:Nat} {a td:AV} {cls:List AV},Pen A L ip a td cls→cls.length+t.cnt<1000000 →
 ∃ L' td' rx its cs R F,S Tb F_rope_Pen_add [.ptr A.length ip 0 0 0,t.av] ⟨A,false,L⟩=some (.ptr A.length rx 0 0 0,⟨A,false,L'⟩)∧Added A L ip a td cls t L' td' rx its cs R F:=by
 induction hv with
 | @kept o h m k x h0 hx hok hh hm hk=>intro _ L ip a td cls hP hc;exact add_kept hP h0 hk
 | @leaf s k h1 h2 hk=>intro _ L ip a td cls hP hc;exact add_leaf hP (by omega) ⟨h1,h2⟩ hk
 | @inner h l hh h2 h4 hl hb hv ih =>
  intro hb2 L ip a td cls hP hc
  have hbs:∀ u∈l,u.bytes≤65536:=fun u hu=>by
   obtain ⟨i,hi,rfl⟩:=List.getElem_of_mem hu
   have h3:Tr.bytesL l=Tr.bytesL (l.take i)+(l[i].bytes+Tr.bytesL (l.drop (i+1))):=by
    conv=>lhs;rw [← List.take_append_drop (i+1) l,take_succ_get (List.getElem?_eq_getElem hi),Tr.bytesL_append,Tr.bytesL_append]
    simp [Tr.bytesL];omega
   have n1:=Tr.bytesL_nonneg (l:=l.take i) (fun t ht=>by have:=(hv t (List.mem_of_mem_take ht)).pos.2;omega)
   have n2:=Tr.bytesL_nonneg (l:=l.drop (i+1)) (fun t ht=>by have:=(hv t (List.mem_of_mem_drop ht)).pos.2;omega)
   rw [Tr.bytes,Tr.bytesO] at hb2
   simp [Mea.zero] at hb2
   omega
  exact add_in (fun u hu=>ih u hu (hbs u hu)) ⟨by omega,h4⟩ (fun u hu=>(hv u hu).mea_fit (hbs u hu)) (by omega) hP hc
end Go.Q15
namespace Go.Q15
open Go Go.QAbs
set_option maxRecDepth 100000
set_option maxHeartbeats 8000000
theorem addC1_c {st:St} {n xb:Nat} {s:List UInt8} (h:st.get n xb=some (.arr 3 0 [.agg [.int .i64 0,.str s,.nils]])):S Tb F_rope_Pen_addC1 [.ptr n xb 0 0 0] st=some (Nd.av ⟨0,s,none⟩,st):=by
 refine s_of rfl (fun A hA=>?_)
 have g:=fun L=>get_old hA (ro:=false) (L:=L) h
 repeat' (first|refine ruS rfl ?_|refine is_nil rfl ?_|refine rkS rfl ?_|refine is_box rfl rfl rfl ?_|refine is_stb rfl rfl rfl rfl rfl rfl ?_|refine is_ld rfl (g _) rfl rfl ?_)
 refine end_c hA (by first|exact .inl rfl|exact .inr rfl) rfl rfl rfl rfl rfl ?_
 rfl
theorem kids_sealN (n b:Nat) (st:St):∀ l:List Kid,mapSt (sealV (n+2) b) st (l.map Kid.av)=some (l.map Kid.av,st)
 | []=>rfl
 | k::l=>by
  rw [List.map_cons,mapSt]
  show ((some (k.av,st)).bind fun r=>(mapSt (sealV (n+2) b) r.2 (l.map Kid.av)).bind (consK r.1))=_
  rw [oS,kids_sealN n b st l];rfl
theorem seal_ndR {b lv ix ver q n:Nat} {h:Int} {s:List UInt8} (st:St) (hl:lv<b):sealV deep b st (.agg [.int .i64 h,.str s,.ref lv ix ver q n])=some (.agg [.int .i64 h,.str s,.ref lv ix ver q n],st):=by
 show (mapSt (keepN (sealV 5 b)) _ _).bind aggK=_
 simp only [mapSt,keepN,isNils,Bool.false_eq_true,if_false,sealV,oS,if_pos hl,consK,aggK]
theorem nd_end {A:List (Bool × List Blk)} {L:List Blk} {ix ver n:Nat} {l:List Kid} {h:Int} {s:List UInt8} (hg:L[ix]?=some (.arr 4 ver (l.map Kid.av))) (hn:n=l.length) :
 sealV deep A.length ⟨A,false,L⟩ (.agg [.int .i64 h,.str s,.ref A.length ix ver 0 n])=some (.agg [.int .i64 h,.str s,.lit (l.map Kid.av)],⟨A,false,L.set ix .dead⟩):=by
 subst hn
 have h1:=seal_refO (n:=4) (A:=A) (s:=0) (m:=l.length) hg (by simp) (es':=l.map Kid.av) (by rw [List.drop_zero,List.take_of_length_le (by simp)];exact kids_sealN 2 0 _ l)
 show (mapSt (keepN (sealV 5 A.length)) _ _).bind aggK=_
 simp only [mapSt,keepN,isNils,Bool.false_eq_true,if_false,sealV,oS] at h1 ⊢
 rw [h1]
 simp only [oS,consK,aggK]
def kgV (lv kx:Nat):Nat→AV
 | 0=>.nils
 | i+1=>.ref lv kx i 0 (i+1)
def kgB (ks:List Kid):Nat→List Blk
 | 0=>[]
 | i+1=>[.arr 4 i ((ks.take (i+1)).map Kid.av)]
def Ro.kid (r:Ro):Kid:=⟨r.at_,r.m⟩
theorem addC2_c {st:St} {n tb kb kx:Nat} {t:Tr} {rs:List Nat} {ρ:Nat→Ro} (h1:st.get n tb=some (.arr 7 0 [t.av])) (h2:st.get n kb=some (.arr 1 0 [.ref n kx rs.length 0 rs.length])) (h3:st.get n kx=some (.arr 1 rs.length (ptrs n rs))) (h4:∀ r∈rs,st.get n r=some (.arr 5 0 [(ρ r).av]))
 (hl:1≤rs.length∧rs.length≤4):S Tb F_rope_Pen_addC2 [.ptr n tb 0 0 0,.ptr n kb 0 0 0] st=some (Nd.av ⟨t.h,[],some (rs.map fun r=>(ρ r).kid)⟩,st):=by
 refine s_of rfl (fun A hA=>?_)
 have g1:=fun L=>get_old hA (ro:=false) (L:=L) h1
 have g2:=fun L=>get_old hA (ro:=false) (L:=L) h2
 have g3:=fun L=>get_old hA (ro:=false) (L:=L) h3
 obtain ⟨ks,hks⟩:∃ ks,ks=rs.map fun r=>(ρ r).kid:=⟨_,rfl⟩
 rw [← hks]
 have hkl:ks.length=rs.length:=by rw [hks,List.length_map]
 have hwi:∀ L,wIs 1 rs.length (St.get ⟨A,false,L⟩ n kx)=true:=fun L=>by rw [g3];simp [wIs]
 repeat' (first|refine ruS rfl ?_|refine isS rfl ?_|refine rk_seq ?_|refine is_lenR rfl ?_|refine is_buildO rfl rfl rfl ?_|refine is_box rfl rfl rfl ?_|refine is_stb rfl rfl rfl rfl rfl rfl ?_|refine is_ld rfl (g1 _) rfl (tr_hpart _) ?_|refine is_ld rfl (g2 _) rfl rfl ?_)
 refine ru_loopP (α:=Nat) (fun i=>[(2,.ptr A.length 0 0 0 0),(3,.ptr A.length 1 0 0 0),(9,.ref n kx rs.length 0 rs.length),(10,.int .i64 rs.length),(11,.int .i64 i)])
  (fun i=>⟨A,false,[.arr 3 0 [.agg [.int .i64 0,.str [],.nils]],.arr 3 0 [.agg [.int .i64 t.h,.str [],kgV A.length 2 i]]]++kgB ks i⟩) (fun i=>i≤rs.length) (fun i=>rs.length-i) 0 rfl rfl (Nat.zero_le _) ?_
 intro i hi
 replace hi:i≤rs.length:=hi
 rcases Nat.lt_or_ge i rs.length with hlt|hge
 ·obtain ⟨r,hr⟩:∃ r,rs[i]?=some r:=⟨rs[i]'hlt,by simp [hlt]⟩
  have g4:=fun L=>get_old hA (ro:=false) (L:=L) (h4 r (List.mem_of_getElem? hr))
  have hp:(ptrs n rs)[0+((i:Nat):Int).toNat]?=some (.ptr n r 0 0 0):=by
   rw [show 0+((i:Nat):Int).toNat=i by omega,ptrs,List.getElem?_map,hr];rfl
  have hki:ks[i]?=some (ρ r).kid:=by rw [hks,List.getElem?_map,hr];rfl
  have htk:=take_succ_get hki
  unfold Ro.av at g4
  cases i with
  | zero =>
   simp only [kgV,kgB]
   repeat' (first|refine ruS rfl ?_|refine isS rfl ?_|refine is_ldc rfl rfl rfl rfl ?_|refine rkS rfl ?_|(refine is_lss rfl rfl (fun _=>?_) (fun _=>?_)<;>try (exfalso;omega))|refine is_addS rfl rfl (by omega) ?_|refine is_buildO rfl rfl rfl ?_|refine is_stb rfl rfl rfl (seal_refL _ (Nat.lt_succ_self _)) rfl rfl ?_|refine is_ixR rfl rfl (by omega) (hwi _) ?_|refine is_ld rfl (g3 _) hp rfl ?_|refine is_ld rfl (g4 _) rfl rfl ?_|refine is_imm1 rfl rfl rfl ?_|refine is_appNilG rfl rfl rfl (by simp) (by decide) rfl ?_)
   refine ⟨0+1,⟨rfl,?_⟩,by omega,by omega⟩
   simp only [kgB,htk]
   rfl
  | succ i =>
   simp only [kgV,kgB]
   have hl2:∀ x:AV,((ks.take (i+1)).map Kid.av).length+[x].length<4294967296:=fun x=>by simp;omega
   have hn2:i+1=((ks.take (i+1)).map Kid.av).length:=by simp;omega
   repeat' (first|refine is_appG rfl rfl rfl hn2 rfl rfl (hl2 _) (by decide) ?_|refine ruS rfl ?_|refine isS rfl ?_|refine is_ldc rfl rfl rfl rfl ?_|refine rkS rfl ?_|(refine is_lss rfl rfl (fun _=>?_) (fun _=>?_)<;>try (exfalso;omega))|refine is_addS rfl rfl (by omega) ?_|refine is_buildO rfl rfl rfl ?_|refine is_stb rfl rfl rfl (seal_refL _ (Nat.lt_succ_self _)) rfl rfl ?_|refine is_ixR rfl rfl (by omega) (hwi _) ?_|refine is_ld rfl (g3 _) hp rfl ?_|refine is_ld rfl (g4 _) rfl rfl ?_|refine is_imm1 rfl rfl rfl ?_)
   refine ⟨i+1+1,⟨rfl,?_⟩,by omega,by omega⟩
   simp only [kgB,htk,List.map_append]
   rfl
 ·obtain rfl:i=rs.length:=by omega
  obtain ⟨m,hm⟩:∃ m,rs.length=m+1:=⟨rs.length-1,by omega⟩
  have htk:ks.take (m+1)=ks:=List.take_of_length_le (by omega)
  rw [hm]
  simp only [kgV,kgB,htk]
  repeat' (first|refine ruS rfl ?_|refine is_ldc rfl rfl rfl rfl ?_|refine is_nil rfl ?_|refine rkS rfl ?_|(refine is_lss rfl rfl (fun _=>?_) (fun _=>?_)<;>try (exfalso;omega))|refine is_stb rfl rfl rfl (seal_ndR _ (Nat.lt_succ_self _)) rfl rfl ?_)
  all_goals try (exfalso;omega)
  refine end_c hA (.inr rfl) rfl rfl rfl (nd_end (l:=ks) rfl (by omega)) rfl ?_
  rfl
end Go.Q15
namespace Go.Q15
open Go Go.QAbs
set_option maxRecDepth 100000
set_option maxHeartbeats 8000000
def ndOf (ρ:Nat→Ro):ItC→Nd
 | .leaf s=>⟨0,s,none⟩
 | .inn h ks=>⟨h,[],some (ks.map fun k=>(ρ k).kid)⟩
def itKs:ItC→List Nat
 | .leaf _=>[]
 | .inn _ ks=>ks
theorem nd_weak (x:Nd):weak x.av=x.av:=by
 obtain ⟨h,s,k⟩:=x
 cases k<;>rfl
theorem wkPN {a:AV} (h:weak a=a) (x:Nd):forceL (weaks ([]++[a,x.av]++[]))=some [a,x.av]:=by
 simp only [lE,lN,lC,weaks,nd_weak,forceL,h]
theorem ndOf_kids {ρ:Nat→Ro} {c:ItC} (h:NdOk (ndOf ρ c)):((ndOf ρ c).h=0→(ndOf ρ c).kids=none)∧∀ hh ks,c=.inn hh ks→1≤ks.length∧ks.length≤4:=by
 cases c with
 | leaf s=>exact ⟨fun _=>rfl,fun hh ks q=>by simp at q⟩
 | inn hh ks =>
  rcases h with q|⟨n,l,q⟩
  ·have:=q.lo;simp [ndOf] at this
  ·have e:=q.eq
   have h1:=q.lo
   have h2:=q.hi
   simp only [ndOf,Nd.mk.injEq,oJ] at e
   obtain ⟨e1,_,e3⟩:=e
   refine ⟨fun w=>by simp [ndOf] at w;omega,fun hh' ks' q2=>?_⟩
   simp only [ItC.inn.injEq] at q2
   obtain ⟨rfl,rfl⟩:=q2
   rw [← e3,List.length_map] at h1 h2
   omega
theorem content_c {st:St} {n:Nat} {F:List (Nat × Blk)} {ρ:Nat→Ro} {cv:AV} {c:ItC} (hcv:CvOk n F cv c) (hF:∀ p∈F,st.get n p.1=some p.2) (hR:∀ r∈itKs c,st.get n r=some (.arr 5 0 [(ρ r).av])) (hl:∀ h ks,c=.inn h ks→1≤ks.length∧ks.length≤4) :
 S Tb (match cv with|.func (.func g) _ _=>g|_=>0) (match cv with|.func _ _ cap=>cap|_=>[]) st=some ((ndOf ρ c).av,st):=by
 cases c with
 | leaf s =>
  obtain ⟨xb,rfl,h2⟩:=hcv
  exact addC1_c (hF _ h2)
 | inn h ks =>
  obtain ⟨tb,kb,kx,t,rfl,h2,h3,h4,h5⟩:=hcv
  subst h2
  exact addC2_c (hF _ h3) (hF _ h4) (hF _ h5) hR (hl _ _ rfl)
theorem CvOk.form {n:Nat} {F:List (Nat × Blk)} {cv:AV} {c:ItC} (h:CvOk n F cv c):Cv n cv:=by
 cases c with
 | leaf s=>obtain ⟨xb,rfl,_⟩:=h;exact .one _
 | inn h ks=>obtain ⟨tb,kb,kx,t,rfl,_⟩:=h;exact .two _ _
def Ro.wr (r:Ro) (h:Nat):Ro:=⟨h,r.h,r.m⟩
theorem putC1_c {st:St} {n ip la b b0 b1 b2:Nat} {td rp cv:AV} {r:AR} {F:List (Nat × Blk)} {ρ:Nat→Ro} {it:It} (hb0:st.get n b0=some (.arr 1 0 [.ptr n ip 0 0 0])) (hb1:st.get n b1=some (.arr 1 0 [cv])) (hb2:st.get n b2=some (.arr 1 0 [.ptr n it.rx 0 0 0]))
 (hip:st.get n ip=some (.arr 3 0 [.agg [.ptr la (b+5) 0 0 0,td,rp]])) (hcv:CvOk n F cv it.c) (hF:∀ p∈F,st.get n p.1=some p.2) (hR:∀ k∈itKs it.c,st.get n k=some (.arr 5 0 [(ρ k).av])) (hrx:st.get n it.rx=some (.arr 5 0 [(ρ it.rx).av]))
 (hA:Has st la b r) (ho:AROk r) (hn:0<r.n) (hx:NdOk (ndOf ρ it.c)) (hL:∀ k∈(ndOf ρ it.c).ks,∃ y,lk r.nodes k.at_=some y∧NdOk y∧y.h+1=(ndOf ρ it.c).h∧y.mea=k.m) (hw:st.wr n)
 (hs:∀ i,i=it.rx∨i=b2→¬ (n=la∧b≤i∧i≤b+5)) :
 S Tb F_rope_Pen_putC1 [.ptr n b0 0 0 0,.ptr n b1 0 0 0,.ptr n b2 0 0 0] st=some (.tup [.int .u64 r.next,.int .i64 0],(arSt st la b (r.add (ndOf ρ it.c))).upd n it.rx (.arr 5 0 [((ρ it.rx).wr r.next).av])):=by
 obtain ⟨hk0,hk4⟩:=ndOf_kids hx
 refine s_ofW rfl (fun A hA'=>?_)
 have g0:=fun L=>get_old hA' (ro:=false) (L:=L) hb0
 have g1:=fun L=>get_old hA' (ro:=false) (L:=L) hb1
 have g2:=fun L=>get_old hA' (ro:=false) (L:=L) hb2
 have g3:=fun L=>get_old hA' (ro:=false) (L:=L) hip
 have hC:=fun L=>content_c (st:=St.allRo ⟨A,false,L⟩) (ρ:=ρ) hcv (fun p hp=>by rw [allRo_get];exact get_old hA' (hF p hp)) (fun k hk=>by rw [allRo_get];exact get_old hA' (hR k hk)) hk4
 have hAl:=fun L=>Alloc_nd (hA.push hA' (ro:=false) (L:=L)) ho hn hx hk0 hL
 have hle:=hA.le
 have hP:=hA.put (r.add (ndOf ρ it.c))
 have hw1:(arSt st la b (r.add (ndOf ρ it.c))).wr n:=putC_wr hA.cl.wr hw
 have hg2:(arSt st la b (r.add (ndOf ρ it.c))).get n b2=some (.arr 1 0 [.ptr n it.rx 0 0 0]):=by rw [hA.out _ (hs _ (.inr rfl))];exact hb2
 have hgr:(arSt st la b (r.add (ndOf ρ it.c))).get n it.rx=some (.arr 5 0 [(ρ it.rx).av]):=by rw [hA.out _ (hs _ (.inl rfl))];exact hrx
 cases hcv.form
 all_goals simp only at hC
 all_goals repeat' (first|refine is_callE rfl rfl (wkPN rfl _) (hAl _) ?_|refine ruS rfl ?_|refine isS rfl ?_|refine rk_seq ?_|(refine is_eql rfl rfl (fun _=>?_) (fun _=>?_)<;>try (exfalso;omega))|refine is_ld rfl (g0 _) rfl rfl ?_|refine is_ld rfl (g1 _) rfl rfl ?_|refine is_ld rfl (g3 _) rfl rfl ?_|refine is_callP rfl rfl rfl (hC _) ?_)
 all_goals rw [arSt_push hA' hle]
 all_goals obtain ⟨A1,hA1⟩:∃ A1,A1=(arSt st la b (r.add (ndOf ρ it.c))).ps:=⟨_,rfl⟩
 all_goals rw [← hA1]
 all_goals generalize arSt st la b (r.add (ndOf ρ it.c))=st1 at *
 all_goals have q2:=fun L=>get_old hA1 (ro:=false) (L:=L) hg2
 all_goals repeat' (first|refine isS rfl ?_|refine is_ld rfl (q2 _) rfl rfl ?_)
 all_goals refine is_stP hA1 rfl rfl hw1 hgr rfl rfl rfl (fun A2 hA2=>?_)
 all_goals repeat' (first|refine ruS rfl ?_|refine isS rfl ?_|refine rkS rfl ?_)
 all_goals refine end_st hA2 (.inr rfl) rfl rfl rfl rfl ?_
 all_goals rfl
theorem Step_c {st:St} {n ip la b b0 b1 b2 tx ver j:Nat} {rp cv cl:AV} {cls:List AV} {r:AR} {F:List (Nat × Blk)} {ρ:Nat→Ro} {it:It} (htd:st.get n tx=some (.arr 1 ver cls)) (hj:cls[j]?=some cl) (hcl:ClOk n ip F cl it) (hlen:cls.length<1000000)
 (hip:st.get n ip=some (.arr 3 0 [.agg [.ptr la (b+5) 0 0 0,.ref n tx ver j (cls.length-j),rp]])) (hF:∀ p∈F,st.get n p.1=some p.2) (hR:∀ k∈itKs it.c,st.get n k=some (.arr 5 0 [(ρ k).av])) (hrx:st.get n it.rx=some (.arr 5 0 [(ρ it.rx).av]))
 (hA:Has st la b r) (ho:AROk r) (hn:0<r.n) (hx:NdOk (ndOf ρ it.c)) (hL:∀ k∈(ndOf ρ it.c).ks,∃ y,lk r.nodes k.at_=some y∧NdOk y∧y.h+1=(ndOf ρ it.c).h∧y.mea=k.m) (hw:st.wr n)
 (hs:∀ i,i=it.rx∨i=ip∨i=tx∨(∃ p∈F,i=p.1)→¬ (n=la∧b≤i∧i≤b+5)) (hne:it.rx≠ip∧it.rx≠tx∧tx≠ip) :
 S Tb F_rope_Pen_Step [.ptr n ip 0 0 0] st=some (.tup [.int .u64 r.next,.bool (decide (cls.length=j+1)),.int .i64 0],
  ((arSt st la b (r.add (ndOf ρ it.c))).upd n it.rx (.arr 5 0 [((ρ it.rx).wr r.next).av])).upd n ip (.arr 3 0 [.agg [.ptr la (b+5) 0 0 0,.ref n tx ver (j+1) (cls.length-j-1),rp]])):=by
 obtain ⟨b0,b1,b2,cv,rfl,h0,h1,h2,hcv⟩:=hcl
 have hjl:=(List.getElem?_eq_some_iff.1 hj).1
 refine s_ofW rfl (fun A hA'=>?_)
 have g3:=fun L=>get_old hA' (ro:=false) (L:=L) hip
 have gt:=fun L=>get_old hA' (ro:=false) (L:=L) htd
 have hwi:∀ L,wIs 1 ver (St.get ⟨A,false,L⟩ n tx)=true:=fun L=>by rw [gt];simp [wIs]
 have hle:=hA.le
 have hnl:n≤st.A.length:=St.get_le hip
 have hP:=hA.put (r.add (ndOf ρ it.c))
 have hw1:(arSt st la b (r.add (ndOf ρ it.c))).wr n:=putC_wr hA.cl.wr hw
 have hp1:=hs ip (.inr (.inl rfl))
 have hp2:=hs tx (.inr (.inr (.inl rfl)))
 have hp3:=hs it.rx (.inl rfl)
 have k1:(arSt st la b (r.add (ndOf ρ it.c))).get n it.rx=_:=(hA.out _ hp3).trans hrx
 have k2:(arSt st la b (r.add (ndOf ρ it.c))).get n ip=_:=(hA.out _ hp1).trans hip
 have k3:(arSt st la b (r.add (ndOf ρ it.c))).get n tx=_:=(hA.out _ hp2).trans htd
 have hput:=fun L=>putC1_c (st:=⟨A,false,L⟩) (ρ:=ρ) (get_old hA' (hF _ h0)) (get_old hA' (hF _ h1)) (get_old hA' (hF _ h2)) (g3 L) hcv (fun p hp=>get_old hA' (hF p hp)) (fun k hk=>get_old hA' (hR k hk)) (get_old hA' hrx) (hA.push hA' (ro:=false) (L:=L)) ho hn hx hL (wr_push hA' hnl hw)
  (fun i hi=>by
   rcases hi with rfl|rfl
   ·exact hp3
   ·exact hs _ (.inr (.inr (.inr ⟨_,h2,rfl⟩))))
 have e1:∀ L,(arSt ⟨A,false,L⟩ la b (r.add (ndOf ρ it.c))).upd n it.rx (.arr 5 0 [((ρ it.rx).wr r.next).av])=⟨((arSt st la b (r.add (ndOf ρ it.c))).upd n it.rx (.arr 5 0 [((ρ it.rx).wr r.next).av])).ps,false,L⟩:=fun L=>by
  rw [arSt_push hA' hle]
  exact upd_push rfl (by rw [arSt_A];exact hnl)
 simp only [e1] at hput
 clear e1
 have m1:∀ l' i',((arSt st la b (r.add (ndOf ρ it.c))).upd n it.rx (.arr 5 0 [((ρ it.rx).wr r.next).av])).get l' i'=if l'=n∧i'=it.rx then some (.arr 5 0 [((ρ it.rx).wr r.next).av]) else (arSt st la b (r.add (ndOf ρ it.c))).get l' i':=fun l' i'=>St.get_upd k1 rfl
 have n2:=(m1 n ip).trans ((if_neg (fun q=>hne.1 q.2.symm)).trans k2)
 have n3:=(m1 n tx).trans ((if_neg (fun q=>hne.2.1 q.2.symm)).trans k3)
 have hw2:((arSt st la b (r.add (ndOf ρ it.c))).upd n it.rx (.arr 5 0 [((ρ it.rx).wr r.next).av])).wr n:=St.wr_upd hw1 hw1
 clear m1 k1 k2 k3
 generalize (arSt st la b (r.add (ndOf ρ it.c))).upd n it.rx (.arr 5 0 [((ρ it.rx).wr r.next).av])=st1 at *
 have hj2:cls[j+((0:Nat):Int).toNat]?=some (clV n b0 b1 b2):=by simpa using hj
 unfold clV at hj2
 repeat' (first|refine ruS rfl ?_|refine isS rfl ?_|refine rk_seq ?_|refine is_lenR rfl ?_|(refine is_eql rfl rfl (fun _=>?_) (fun _=>?_)<;>try (exfalso;omega))|refine is_eqs rfl rfl rfl rfl ?_|refine is_ld rfl (g3 _) rfl rfl ?_|refine is_ixR rfl rfl (by omega) (hwi _) ?_|refine is_ld rfl (gt _) hj2 rfl ?_)
 all_goals try (exfalso;omega)
 refine is_callE rfl rfl rfl (hput _) ?_
 obtain ⟨A1,hA1⟩:∃ A1,A1=st1.ps:=⟨_,rfl⟩
 rw [← hA1]
 have q2:=fun L=>get_old hA1 (ro:=false) (L:=L) n2
 have q3:=fun L=>get_old hA1 (ro:=false) (L:=L) n3
 have hwi1:∀ L,wIs 1 ver (St.get ⟨A1,false,L⟩ n tx)=true:=fun L=>by rw [q3];simp [wIs]
 repeat' (first|refine ruS rfl ?_|refine isS rfl ?_|refine rk_seq ?_|(refine is_neq rfl rfl (fun _=>?_) (fun _=>?_)<;>try (exfalso;omega))|refine is_ld rfl (q2 _) rfl rfl ?_|refine is_slcR_lo rfl rfl (by omega) (hwi1 _) ?_)
 all_goals try contradiction
 refine is_stP hA1 rfl rfl hw2 n2 rfl (seal_refL _ (Nat.lt_succ_self _)) rfl (fun A2 hA2=>?_)
 have eB:Blk.arr 3 0 ([AV.agg [.ptr la (b+5) 0 0 0,.ref n tx ver j (cls.length-j),rp]].set 0 (.agg [.ptr la (b+5) 0 0 0,.ref n tx ver (j+(1:Int).toNat) (cls.length-j-(1:Int).toNat),rp]))=Blk.arr 3 0 [.agg [.ptr la (b+5) 0 0 0,.ref n tx ver (j+1) (cls.length-j-1),rp]]:=rfl
 rw [eB] at hA2
 have r2:(st1.upd n ip (Blk.arr 3 0 [.agg [.ptr la (b+5) 0 0 0,.ref n tx ver (j+1) (cls.length-j-1),rp]])).get n ip=_:=(St.get_upd n2 rfl).trans (if_pos ⟨rfl,rfl⟩)
 have p2:=fun L=>get_old hA2 (ro:=false) (L:=L) r2
 repeat' (first|refine ruS rfl ?_|refine isS rfl ?_|refine rkS rfl ?_|refine is_lenR rfl ?_|(refine is_eql rfl rfl (fun _=>?_) (fun _=>?_)<;>try (exfalso;omega))|refine is_ld rfl (p2 _) rfl rfl ?_)
 ·rename_i hz
  rw [decide_eq_true (show cls.length=j+1 by omega)]
  exact end_st hA2 (.inr rfl) rfl rfl rfl rfl rfl
 ·rename_i hz
  rw [decide_eq_false (show ¬ cls.length=j+1 by omega)]
  exact end_st hA2 (.inr rfl) rfl rfl rfl rfl rfl
end Go.Q15
namespace Go.Q15
open Go Go.QAbs
set_option maxRecDepth 100000
def Ext (N M:Nodes):Prop:=∀ o x,lk N o=some x→lk M o=some x
theorem Ext.refl (N:Nodes):Ext N N:=fun _ _ h=>h
theorem Ext.trans {N M K:Nodes} (h:Ext N M) (g:Ext M K):Ext N K:=fun o x q=>g o x (h o x q)
theorem Val.ext {N M:Nodes} (hs:Ext N M) {t:Tr} (hv:Val N t):Val M t:=by
 induction hv with
 | kept h0 hx hok hh hm hk=>exact .kept h0 (hs _ _ hx) hok hh hm hk
 | leaf h1 h2 hk=>exact .leaf h1 h2 hk
 | inner hh h2 h4 hl hb hv ih=>exact .inner hh h2 h4 hl hb ih
theorem VE.ext {N M:Nodes} (hs:Ext N M) {t:Tr} (hv:VE N t):VE M t:=hv.imp id (Val.ext hs)
theorem textH_ext {N M:Nodes} (hN:GoodN N) (hs:Ext N M):∀ n o x,lk N o=some x→x.h=n→textH M n o=textH N n o:=by
 intro n
 induction n with
 | zero=>intro o x hx hh;rw [textH,textH,hx,hs _ _ hx]
 | succ n ih =>
  intro o x hx hh
  rw [textH,textH,hx,hs _ _ hx]
  simp only [Option.map_some,Option.getD_some]
  have hk:=(hN o x hx).2
  have key:∀ l:List Kid,(∀ k∈l,k∈x.ks)→(l.flatMap fun k=>textH M n k.at_)=l.flatMap fun k=>textH N n k.at_:=by
   intro l
   induction l with
   | nil=>intro _;rfl
   | cons k l ih2 =>
    intro h
    obtain ⟨_,y,y1,y2,_⟩:=hk k (h k (by simp))
    rw [List.flatMap_cons,List.flatMap_cons,ih k.at_ y y1 (by omega),ih2 (fun q hq=>h q (by simp [hq]))]
  exact key _ fun _ h=>h
theorem ext_add {r:AR} (ho:AROk r) (hn:0<r.n) (x:Nd):Ext r.nodes (r.add x).nodes:=fun o y h=>by
 rw [lk_add ho hn,if_neg]
 ·exact h
 ·intro q;rw [q,ho.new hn] at h;simp at h
def KidsIn (N:Nodes) (x:Nd):Prop:=∀ k∈x.ks,∃ y,lk N k.at_=some y∧NdOk y∧y.h+1=x.h∧y.mea=k.m
theorem good_add {r:AR} (ho:AROk r) (hn:0<r.n) (hg:GoodN r.nodes) {x:Nd} (hx:NdOk x) (hk:KidsIn r.nodes x) (h0:∀ k∈x.ks,k.at_≠0):GoodN (r.add x).nodes:=by
 intro o y h
 have hE:=ext_add ho hn x
 rw [lk_add ho hn] at h
 split at h
 ·simp only [oJ] at h
  subst h
  refine ⟨hx.copy,fun k hkk=>?_⟩
  have hkk':k∈x.ks:=hkk
  obtain ⟨z,z1,z2,z3,z4⟩:=hk k hkk'
  exact ⟨h0 k hkk',z,hE _ _ z1,z3,z4⟩
 ·obtain ⟨h1,h2⟩:=hg o y h
  refine ⟨h1,fun k hkk=>?_⟩
  obtain ⟨g0,z,z1,z2,z3⟩:=h2 k hkk
  exact ⟨g0,z,hE _ _ z1,z2,z3⟩
theorem AROk.hnd {r:AR} (h:AROk r) {o:Nat} {x:Nd} (hx:lk r.nodes o=some x):handleP o∧o≠0:=by
 obtain ⟨s,g,h1,h2,h3,h4⟩:=h.key o x hx
 obtain ⟨g',g1,g2,g3⟩:=h.gen s h2
 rw [h4] at g1
 simp only [oJ] at g1
 have:=h.n16
 have:=h.most
 unfold handleP
 omega
def rset (ρ:Nat→Ro) (k h:Nat):Nat→Ro:=fun i=>if i=k then (ρ i).wr h else ρ i
inductive RunOk:List It→AR→(Nat→Ro)→AR→(Nat→Ro)→List Nat→Prop
 | nil {r ρ}:RunOk [] r ρ r ρ []
 | cons {it its r ρ r' ρ' hs} (hn:0<r.n) (hx:NdOk (ndOf ρ it.c)) (hk:KidsIn r.nodes (ndOf ρ it.c)) (h:RunOk its (r.add (ndOf ρ it.c)) (rset ρ it.rx r.next) r' ρ' hs):RunOk (it::its) r ρ r' ρ' (r.next::hs)
theorem RunOk.append {i1 i2:List It} {r r1 r2:AR} {ρ ρ1 ρ2:Nat→Ro} {h1 h2:List Nat} (h:RunOk i1 r ρ r1 ρ1 h1) (g:RunOk i2 r1 ρ1 r2 ρ2 h2):RunOk (i1++i2) r ρ r2 ρ2 (h1++h2):=by
 induction h with
 | nil=>exact g
 | cons hn hx hk h ih=>exact .cons hn hx hk (ih g)
namespace Tr
mutual
def wr:Tr→AR→AR × Ro × List Nat
 | .mk o h m s k,r =>
  if o≠0 then (r,⟨o,h,m⟩,[])
  else if h=0 then (r.add ⟨0,s,none⟩,⟨r.next,0,meaT s⟩,[r.next])
  else ((wrO k r).1.add ⟨h,[],some (wrO k r).2.1⟩,⟨(wrO k r).1.next,h,sumM ((wrO k r).2.1.map Kid.m)⟩,(wrO k r).2.2++[(wrO k r).1.next])
def wrO:Option (List Tr)→AR→AR × List Kid × List Nat
 | none,r=>(r,[],[])
 | some l,r=>wrL l r
def wrL:List Tr→AR→AR × List Kid × List Nat
 | [],r=>(r,[],[])
 | t::l,r=>((wrL l (t.wr r).1).1,(t.wr r).2.1.kid::(wrL l (t.wr r).1).2.1,(t.wr r).2.2++(wrL l (t.wr r).1).2.2)
end
end Tr
structure WrB (r:AR) (c:Nat) (r':AR) (hs:List Nat):Prop where
 ok:AROk r'
 good:GoodN r'.nodes
 ext:Ext r.nodes r'.nodes
 n:r'.n+c=r.n
 len:hs.length=c
 new:∀ h∈hs,lk r.nodes h=none
 all:∀ h x,lk r'.nodes h=some x→lk r.nodes h=some x∨h∈hs
 has:∀ h∈hs,∃ x,lk r'.nodes h=some x
 nodup:hs.Nodup
 frees:r'.frees=r.frees
 stale:r'.stale=r.stale
 slots:r'.slots=r.slots
 allocs:r'.allocs=r.allocs+c
 nl:r'.nodes.length=r.nodes.length+c
theorem WrB.refl {r:AR} (ho:AROk r) (hg:GoodN r.nodes):WrB r 0 r [] :=
 ⟨ho,hg,.refl _,by simp,rfl,fun h q=>by simp at q,fun h x q=>.inl q,fun h q=>by simp at q,by simp,rfl,rfl,rfl,by simp,by simp⟩
theorem WrB.trans {r r1 r2:AR} {c d:Nat} {h1 h2:List Nat} (h:WrB r c r1 h1) (g:WrB r1 d r2 h2):WrB r (c+d) r2 (h1++h2):=by
 refine ⟨g.ok,g.good,h.ext.trans g.ext,by have:=h.n;have:=g.n;omega,by rw [lL,h.len,g.len],fun o ho=>?_,fun o x ho=>?_,fun o ho=>?_,?_,g.frees.trans h.frees,g.stale.trans h.stale,g.slots.trans h.slots,by rw [g.allocs,h.allocs];omega,by rw [g.nl,h.nl];omega⟩
 ·rcases List.mem_append.1 ho with q|q
  ·exact h.new o q
  ·cases hk:lk r.nodes o with
   | none=>rfl
   | some x=>have:=g.new o q;rw [h.ext _ _ hk] at this;simp at this
 ·rcases g.all o x ho with q|q
  ·rcases h.all o x q with w|w
   ·exact .inl w
   ·exact .inr (by simp [w])
  ·exact .inr (by simp [q])
 ·rcases List.mem_append.1 ho with q|q
  ·obtain ⟨x,hx⟩:=h.has o q
   exact ⟨x,g.ext _ _ hx⟩
  ·exact g.has o q
 ·rw [List.nodup_append]
  refine ⟨h.nodup,g.nodup,fun x hx y hy e=>?_⟩
  subst e
  obtain ⟨z,hz⟩:=h.has x hx
  rw [g.new x hy] at hz
  simp at hz
theorem WrB.one {r:AR} (ho:AROk r) (hn:0<r.n) (hg:GoodN r.nodes) {x:Nd} (hx:NdOk x) (hk:KidsIn r.nodes x) (h0:∀ k∈x.ks,k.at_≠0):WrB r 1 (r.add x) [r.next]:=by
 refine ⟨ho.add hn x,good_add ho hn hg hx hk h0,ext_add ho hn x,?_,rfl,fun o q=>?_,fun o y q=>?_,fun o q=>?_,by simp,rfl,rfl,rfl,rfl,by simp [AR.add,AR.alloc]⟩
 ·show r.n-1+1=r.n;omega
 ·simp only [List.mem_singleton] at q;subst q;exact ho.new hn
 ·rw [lk_add ho hn] at q
  split at q
  ·rename_i e;exact .inr (by simp [e])
  ·exact .inl q
 ·simp only [List.mem_singleton] at q
  exact ⟨x.copy,by rw [lk_add ho hn,if_pos q]⟩
end Go.Q15
namespace Go.Q15
open Go Go.QAbs
set_option maxRecDepth 100000
structure WrOk (N:Nodes) (t:Tr) (r':AR) (ro:Ro):Prop where
 rm:ro.m=t.mea
 rh:ro.h=t.h
 live:∃ y,lk r'.nodes ro.at_=some y∧NdOk y∧y.h=t.h∧y.mea=t.mea
 txt:textH r'.nodes t.h ro.at_=t.txt N
def Exec (N:Nodes) (t:Tr):Prop:=∀ (r:AR),AROk r→GoodN r.nodes→Ext N r.nodes→t.cnt≤r.n→∀ (rx:Nat) (its:List It) (R:List (Nat × Ro)) (ρ:Nat→Ro),AddT t rx its R→(∀ p∈R,ρ p.1=p.2)→(R.map Prod.fst).Nodup →
 ∃ ρ',RunOk its r ρ (t.wr r).1 ρ' (t.wr r).2.2∧ρ' rx=(t.wr r).2.1∧(∀ k,k∉R.map Prod.fst→ρ' k=ρ k)∧WrB r t.cnt (t.wr r).1 (t.wr r).2.2∧WrOk N t (t.wr r).1 (t.wr r).2.1
structure WrLs (N:Nodes) (l:List Tr) (h:Nat) (r':AR) (ks:List Kid):Prop where
 len:ks.length=l.length
 m:ks.map Kid.m=l.map Tr.mea
 ok:∀ k∈ks,KidOk h k∧k.at_≠0∧∃ y,lk r'.nodes k.at_=some y∧NdOk y∧y.h=h∧y.mea=k.m
 txt:(ks.flatMap fun k=>textH r'.nodes h k.at_)=Tr.txtL N l
theorem execL {N:Nodes} (hN:GoodN N) {h:Nat}:∀ (l:List Tr),(∀ u∈l,Val N u∧u.h=h∧Big u)→(∀ u∈l,Exec N u)→∀ (r:AR),AROk r→GoodN r.nodes→Ext N r.nodes→Tr.cntL l≤r.n→∀ (rs:List Nat) (its:List It) (R:List (Nat × Ro)) (ρ:Nat→Ro),AddL l rs its R→(∀ p∈R,ρ p.1=p.2)→(R.map Prod.fst).Nodup →
 ∃ ρ',RunOk its r ρ (Tr.wrL l r).1 ρ' (Tr.wrL l r).2.2∧(rs.map fun k=>(ρ' k).kid)=(Tr.wrL l r).2.1∧(∀ k,k∉R.map Prod.fst→ρ' k=ρ k)∧WrB r (Tr.cntL l) (Tr.wrL l r).1 (Tr.wrL l r).2.2∧WrLs N l h (Tr.wrL l r).1 (Tr.wrL l r).2.1:=by
 intro l
 induction l with
 | nil =>
  intro _ _ r ho hg hE hc rs its R ρ ha hR hnd
  cases ha
  exact ⟨ρ,.nil,rfl,fun _ _=>rfl,.refl ho hg,⟨rfl,rfl,fun k hk=>by simp [Tr.wrL] at hk,rfl⟩⟩
 | cons t l ih =>
  intro hv hx r ho hg hE hc rs its R ρ ha hR hnd
  cases ha with
  | @cons _ _ rx rs i1 i2 R1 R2 ht hl =>
   rw [Tr.cntL] at hc
   rw [List.map_append,List.nodup_append] at hnd
   obtain ⟨nd1,nd2,nd3⟩:=hnd
   obtain ⟨ρ1,a1,a2,a3,a4,a5⟩:=hx t (by simp) r ho hg hE (by omega) rx i1 R1 ρ ht (fun p hp=>hR p (by simp [hp])) nd1
   have hn1:=a4.n
   have hd:∀ p∈R2,p.1∉R1.map Prod.fst:=fun p hp q=>nd3 _ q _ (List.mem_map.2 ⟨p,hp,rfl⟩) rfl
   obtain ⟨ρ2,b1,b2,b3,b4,b5⟩:=ih (fun u hu=>hv u (by simp [hu])) (fun u hu=>hx u (by simp [hu])) _ a4.ok a4.good (hE.trans a4.ext) (by omega) rs i2 R2 ρ1 hl (fun p hp=>by rw [a3 _ (hd p hp)];exact hR p (by simp [hp])) nd2
   obtain ⟨rr,hrr,_,_⟩:=ht.root
   have hrx:rx∉R2.map Prod.fst:=fun q=>nd3 rx (List.mem_map.2 ⟨_,hrr,rfl⟩) rx q rfl
   obtain ⟨v1,v2,v3⟩:=hv t (by simp)
   refine ⟨ρ2,a1.append b1,?_,?_,?_,?_⟩
   ·rw [List.map_cons,b3 rx hrx,a2,b2];rfl
   ·intro k hk
    rw [List.map_append,List.mem_append,not_or] at hk
    rw [b3 k hk.2,a3 k hk.1]
   ·rw [Tr.cntL];exact a4.trans b4
   ·obtain ⟨y,y1,y2,y3,y4⟩:=a5.live
    have hh:=a4.ok.hnd y1
    have hkm:((t.wr r).2.1.kid).m=t.mea:=a5.rm
    have hka:((t.wr r).2.1.kid).at_=(t.wr r).2.1.at_:=rfl
    refine ⟨by show _+1=_;rw [b5.len];rfl,?_,?_,?_⟩
    ·show ((t.wr r).2.1.kid).m::_=_
     rw [hkm,b5.m];rfl
    ·intro k hk
     rcases List.mem_cons.1 hk with rfl|q
     ·refine ⟨?_,hh.2,y,b4.ext _ _ y1,y2,by rw [y3,v2],by rw [y4];exact hkm.symm⟩
      have hs:=v1.size hN v3
      have hb:=v1.mea_ok.1
      have:=y2.kid (a:=(t.wr r).2.1.at_) (by rw [y3,y4,hb];exact hs) hh.1
      rw [y3,v2,y4,← a5.rm] at this
      exact this
     ·exact b5.ok k q
    ·show textH (Tr.wrL l (t.wr r).1).1.nodes h (t.wr r).2.1.at_++((Tr.wrL l (t.wr r).1).2.1.flatMap fun k=>textH (Tr.wrL l (t.wr r).1).1.nodes h k.at_)=_
     rw [b5.txt,Tr.txtL,← a5.txt,v2]
     congr 1
     exact textH_ext a4.good b4.ext h _ y y1 (by rw [y3,v2])
theorem exec_ok {N:Nodes} (hN:GoodN N) {t:Tr} (hv:Val N t):t.bytes≤65536→Exec N t:=by
 induction hv with
 | @kept o h m k x h0 hx hok hh hm hk =>
  intro _ r ho hg hE hc rx its R ρ ha hR hnd
  have e:(Tr.mk o h m [] k).wr r=(r,⟨o,h,m⟩,[]):=by rw [Tr.wr,if_pos h0]
  have ec:(Tr.mk o h m [] k).cnt=0:=by rw [Tr.cnt,Tr.cntO_getD,hk,if_neg h0];rfl
  rw [e,ec]
  cases ha with
  | kept _ =>
   refine ⟨ρ,.nil,hR (rx,⟨o,h,m⟩) (by simp),fun _ _=>rfl,.refl ho hg,⟨(mea_kept h0).symm,rfl,⟨x,hE _ _ hx,hok,hh,by rw [mea_kept h0];exact hm⟩,?_⟩⟩
   show textH r.nodes h o=_
   rw [textH_ext hN hE h o x hx hh,Tr.txt,if_neg h0,Tr.txtO_getD,hk]
   simp [Tr.txtL]
  | leaf=>exact absurd rfl h0
  | inner=>exact absurd rfl h0
 | @leaf s k h1 h2 hk =>
  intro _ r ho hg hE hc rx its R ρ ha hR hnd
  have e:(Tr.mk 0 0 .zero s k).wr r=(r.add ⟨0,s,none⟩,⟨r.next,0,meaT s⟩,[r.next]):=by rw [Tr.wr];simp
  have ec:(Tr.mk 0 0 .zero s k).cnt=1:=by rw [Tr.cnt,Tr.cntO_getD,hk];rfl
  rw [ec] at hc
  rw [e,ec]
  have hx:NdOk ⟨0,s,none⟩:=.inl ⟨rfl,h1,h2,rfl⟩
  cases ha with
  | kept h0=>exact absurd rfl h0
  | leaf =>
   have hρ:ρ rx=⟨0,0,meaT s⟩:=hR (rx,⟨0,0,meaT s⟩) (by simp)
   refine ⟨rset ρ rx r.next,.cons (by omega) hx (fun k hk=>by simp [ndOf,Nd.ks] at hk) .nil,?_,fun k hk=>?_,.one ho (by omega) hg hx (fun k hk=>by simp [Nd.ks] at hk) (fun k hk=>by simp [Nd.ks] at hk),⟨(mea_leaf s k).symm,rfl,⟨(⟨0,s,none⟩:Nd).copy,?_,hx.copy,rfl,?_⟩,?_⟩⟩
   ·simp only [rset,if_true,hρ];rfl
   ·simp only [List.map_cons,List.map_nil,List.mem_singleton] at hk
    simp only [rset,if_neg hk]
   ·rw [lk_add ho (by omega),if_pos rfl]
   ·rw [mea_leaf];rfl
   ·show textH _ 0 r.next=_
    rw [textH,lk_add ho (by omega),if_pos rfl,Tr.txt,if_pos rfl,Tr.txtO_getD,hk]
    simp [Tr.txtL,Nd.copy]
 | @inner h l hh h2 h4 hl hb hv ih =>
  intro hb2 r ho hg hE hc rx its R ρ ha hR hnd
  have eb:(Tr.mk 0 (h+1) .zero [] (some l)).bytes=Tr.bytesL l:=by rw [Tr.bytes,Tr.bytesO];simp [Mea.zero]
  have hbs:∀ u∈l,u.bytes≤65536:=fun u hu=>by
   obtain ⟨i,hi,rfl⟩:=List.getElem_of_mem hu
   have h3:Tr.bytesL l=Tr.bytesL (l.take i)+(l[i].bytes+Tr.bytesL (l.drop (i+1))):=by
    conv=>lhs;rw [← List.take_append_drop (i+1) l,take_succ_get (List.getElem?_eq_getElem hi),Tr.bytesL_append,Tr.bytesL_append]
    simp [Tr.bytesL];omega
   have n1:=Tr.bytesL_nonneg (l:=l.take i) (fun t ht=>by have:=(hv t (List.mem_of_mem_take ht)).pos.2;omega)
   have n2:=Tr.bytesL_nonneg (l:=l.drop (i+1)) (fun t ht=>by have:=(hv t (List.mem_of_mem_drop ht)).pos.2;omega)
   omega
  have ec:(Tr.mk 0 (h+1) .zero [] (some l)).cnt=Tr.cntL l+1:=by rw [Tr.cnt,Tr.cntO];simp;omega
  rw [ec] at hc
  have hbl:(sumM (l.map Tr.mea)).b=Tr.bytesL l:=sumM_b l fun u hu=>(hv u hu).mea_ok.1
  have e:(Tr.mk 0 (h+1) .zero [] (some l)).wr r=((Tr.wrL l r).1.add ⟨h+1,[],some (Tr.wrL l r).2.1⟩,⟨(Tr.wrL l r).1.next,h+1,sumM ((Tr.wrL l r).2.1.map Kid.m)⟩,(Tr.wrL l r).2.2++[(Tr.wrL l r).1.next]):=by
   rw [Tr.wr];simp [Tr.wrO]
  rw [e,ec]
  cases ha with
  | kept h0=>exact absurd rfl h0
  | @inner _ _ _ rs i1 R1 hal hn1 hx1 =>
   obtain ⟨ρ1,a1,a2,a3,a4,a5⟩:=execL hN l (fun u hu=>⟨hv u hu,hl u hu,fun q=>hb u hu (by rw [← hl u hu];exact q)⟩) (fun u hu=>ih u hu (hbs u hu)) r ho hg hE (by omega) rs i1 R1 ρ hal (fun p hp=>hR p (by simp [hp])) hn1
   have hρ:ρ1 rx=⟨0,h+1,sumM (l.map Tr.mea)⟩:=by rw [a3 rx hx1];exact hR (rx,⟨0,h+1,sumM (l.map Tr.mea)⟩) (by simp)
   have hn:0<(Tr.wrL l r).1.n:=by have:=a4.n;omega
   generalize hks:(Tr.wrL l r).2.1=ks at *
   generalize (Tr.wrL l r).1=r1 at *
   have hx:NdOk ⟨h+1,[],some ks⟩:=.inr ⟨h,ks,rfl,by omega,by have:=a5.len;omega,by have:=a5.len;omega,fun k hk=>(a5.ok k hk).1,by rw [a5.m,hbl];omega⟩
   have hki:KidsIn r1.nodes ⟨h+1,[],some ks⟩:=fun k hk=>by
    obtain ⟨_,_,y,y1,y2,y3,y4⟩:=a5.ok k hk
    exact ⟨y,y1,y2,by show y.h+1=h+1;omega,y4⟩
   have hnd2:ndOf ρ1 (.inn (h+1) rs)=⟨h+1,[],some ks⟩:=by rw [ndOf,a2]
   have hrun:RunOk [⟨rx,.inn (h+1) rs⟩] r1 ρ1 (r1.add ⟨h+1,[],some ks⟩) (rset ρ1 rx r1.next) [r1.next]:=by
    have:=RunOk.cons (it:=⟨rx,.inn (h+1) rs⟩) (ρ:=ρ1) hn (by rw [hnd2];exact hx) (by rw [hnd2];exact hki) .nil
    rw [hnd2] at this
    exact this
   refine ⟨rset ρ1 rx r1.next,a1.append hrun,?_,fun k hk=>?_,a4.trans (.one a4.ok hn a4.good hx hki (fun k hk=>(a5.ok k hk).2.1)),⟨?_,rfl,⟨(⟨h+1,[],some ks⟩:Nd).copy,?_,hx.copy,rfl,?_⟩,?_⟩⟩
   ·simp only [rset,if_true,hρ,Ro.wr,a5.m]
   ·rw [List.map_append,List.mem_append,not_or] at hk
    have:k≠rx:=fun q=>hk.2 (by simp [q])
    simp only [rset,if_neg this]
    exact a3 k hk.1
   ·rw [mea_in]
    show sumM (ks.map Kid.m)=_
    rw [a5.m]
   ·rw [lk_add a4.ok hn,if_pos rfl]
   ·rw [mea_in,← a5.m];rfl
   ·show textH _ (h+1) r1.next=_
    rw [textH,lk_add a4.ok hn,if_pos rfl,Tr.txt,if_pos rfl,Tr.txtO,← a5.txt]
    show (ks.flatMap fun k=>textH (r1.add _).nodes h k.at_)=_
    have key:∀ m:List Kid,(∀ k∈m,k∈ks)→(m.flatMap fun k=>textH (r1.add ⟨h+1,[],some ks⟩).nodes h k.at_)=m.flatMap fun k=>textH r1.nodes h k.at_:=by
     intro m
     induction m with
     | nil=>intro _;rfl
     | cons k m ih2 =>
      intro q
      obtain ⟨_,_,y,y1,y2,y3,y4⟩:=a5.ok k (q k (by simp))
      rw [List.flatMap_cons,List.flatMap_cons,textH_ext a4.good (ext_add a4.ok hn _) h k.at_ y y1 y3,ih2 (fun w hw=>q w (by simp [hw]))]
    exact key ks fun _ h=>h
end Go.Q15
namespace Go.Q15
open Go Go.QAbs
set_option maxRecDepth 100000
set_option maxHeartbeats 8000000
theorem ClsOk.get {n ip:Nat} {F:List (Nat × Blk)} {cs:List AV} {is:List It} (h:ClsOk n ip F cs is):∀ {j:Nat} {it:It},is[j]?=some it→∃ c,cs[j]?=some c∧ClOk n ip F c it:=by
 induction h with
 | nil=>intro j it hj;simp at hj
 | cons hc ht ih =>
  intro j it hj
  cases j with
  | zero =>
   simp only [List.getElem?_cons_zero,oJ] at hj
   subst hj
   exact ⟨_,rfl,hc⟩
  | succ j=>exact ih hj
def TdOk (st:St) (n tx ver j:Nat) (cls:List AV) (td:AV):Prop:=(cls=[]∧td=.nils)∨(cls≠[]∧td=.ref n tx ver j (cls.length-j)∧st.get n tx=some (.arr 1 ver cls))
structure PenS (st:St) (n ip tx ver la b:Nat) (cls:List AV) (its:List It) (F:List (Nat × Blk)) (keys:List Nat) (rx:Nat) (ρ:Nat→Ro) (j:Nat):Prop where
 wr:st.wr n
 pen:∃ td,st.get n ip=some (.arr 3 0 [.agg [.ptr la (b+5) 0 0 0,td,.ptr n rx 0 0 0]])∧TdOk st n tx ver j cls td
 cl:ClsOk n ip F cls its
 fx:∀ p∈F,st.get n p.1=some p.2
 rts:∀ k∈keys,st.get n k=some (.arr 5 0 [(ρ k).av])
 key:∀ it∈its,it.rx∈keys∧∀ k∈itKs it.c,k∈keys
 rk:rx∈keys
 s1:∀ k∈keys,k≠ip∧k≠tx
 s2:tx≠ip
 s3:∀ p∈F,p.1∉keys∧p.1≠ip∧p.1≠tx
 ar:∀ i,i=ip∨(cls≠[]∧i=tx)∨i∈keys∨(∃ p∈F,i=p.1)→¬ (n=la∧b≤i∧i≤b+5)
 len:cls.length<1000000
 jl:j≤cls.length
theorem Root_c {st:St} {n ip tx ver la b:Nat} {cls:List AV} {its:List It} {F:List (Nat × Blk)} {keys:List Nat} {rx:Nat} {ρ:Nat→Ro} {j:Nat} (h:PenS st n ip tx ver la b cls its F keys rx ρ j) (hj:j=cls.length):S Tb F_rope_Pen_Root [.ptr n ip 0 0 0] st=some (.tup [(ρ rx).av,.int .i64 0],st):=by
 obtain ⟨td,h1,h2⟩:=h.pen
 have h3:=h.rts rx h.rk
 refine s_of rfl (fun A hA=>?_)
 have g1:=fun L=>get_old hA (ro:=false) (L:=L) h1
 have g3:=fun L=>get_old hA (ro:=false) (L:=L) h3
 unfold Ro.av at g3 ⊢
 rcases h2 with ⟨_,rfl⟩|⟨_,rfl,_⟩
 all_goals repeat' (first|refine ruS rfl ?_|refine isS rfl ?_|refine rkS rfl ?_|refine is_lenR rfl ?_|refine is_lenN rfl ?_|(refine is_gtr rfl rfl (fun _=>?_) (fun _=>?_)<;>try (exfalso;omega))|refine is_eqs rfl rfl rfl rfl ?_|refine is_box rfl rfl rfl ?_|refine is_stb rfl rfl rfl rfl rfl rfl ?_|refine is_ld rfl (g1 _) rfl rfl ?_|refine is_ld rfl (g3 _) rfl rfl ?_)
 all_goals try (exfalso;omega)
 all_goals refine end_c hA (by first|exact .inl rfl|exact .inr rfl) rfl rfl rfl rfl rfl ?_
 all_goals rfl
def stepSt (st:St) (n ip tx ver la b:Nat) (len:Nat) (rx:Nat) (r':AR) (k:Nat) (ro:Ro) (j:Nat):St :=
 ((arSt st la b r').upd n k (.arr 5 0 [ro.av])).upd n ip (.arr 3 0 [.agg [.ptr la (b+5) 0 0 0,.ref n tx ver (j+1) (len-j-1),.ptr n rx 0 0 0]])
theorem PenS.step {st:St} {n ip tx ver la b:Nat} {cls:List AV} {its:List It} {F:List (Nat × Blk)} {keys:List Nat} {rx:Nat} {ρ:Nat→Ro} {j:Nat} (h:PenS st n ip tx ver la b cls its F keys rx ρ j) {r:AR} (hA:Has st la b r) (ho:AROk r) (hn:0<r.n) {it:It} (hj:its[j]?=some it)
 (hx:NdOk (ndOf ρ it.c)) (hk:KidsIn r.nodes (ndOf ρ it.c)) :
 S Tb F_rope_Pen_Step [.ptr n ip 0 0 0] st=some (.tup [.int .u64 r.next,.bool (decide (cls.length=j+1)),.int .i64 0],stepSt st n ip tx ver la b cls.length rx (r.add (ndOf ρ it.c)) it.rx ((ρ it.rx).wr r.next) j) ∧
 PenS (stepSt st n ip tx ver la b cls.length rx (r.add (ndOf ρ it.c)) it.rx ((ρ it.rx).wr r.next) j) n ip tx ver la b cls its F keys rx (rset ρ it.rx r.next) (j+1) ∧
 Has (stepSt st n ip tx ver la b cls.length rx (r.add (ndOf ρ it.c)) it.rx ((ρ it.rx).wr r.next) j) la b (r.add (ndOf ρ it.c)):=by
 obtain ⟨td,h1,h2⟩:=h.pen
 obtain ⟨cl,c1,c2⟩:=h.cl.get hj
 have hjl:=(List.getElem?_eq_some_iff.1 c1).1
 have hm:=List.mem_of_getElem? hj
 obtain ⟨k1,k2⟩:=h.key it hm
 have hrx:=h.rts it.rx k1
 have hrp:=h.s1 it.rx k1
 have hne:cls≠[]:=fun q=>by rw [q] at c1;simp at c1
 rcases h2 with ⟨q,_⟩|⟨_,rfl,h3⟩
 ·exact absurd q hne
 have hS:=Step_c (it:=it) (ρ:=ρ) (b0:=0) (b1:=0) (b2:=0) (cv:=.nils) h3 c1 c2 h.len h1 h.fx (fun k hk=>h.rts k (k2 k hk)) hrx hA ho hn hx hk h.wr (fun i hi=>h.ar i (by
  rcases hi with rfl|rfl|rfl|q
  ·exact .inr (.inr (.inl k1))
  ·exact .inl rfl
  ·exact .inr (.inl ⟨hne,rfl⟩)
  ·exact .inr (.inr (.inr q)))) ⟨hrp.1,hrp.2,h.s2⟩
 have a1:∀ i,¬ (n=la∧b≤i∧i≤b+5)→(arSt st la b (r.add (ndOf ρ it.c))).get n i=st.get n i:=fun i hi=>hA.out _ hi
 have g1:∀ l' i',((arSt st la b (r.add (ndOf ρ it.c))).upd n it.rx (.arr 5 0 [((ρ it.rx).wr r.next).av])).get l' i'=if l'=n∧i'=it.rx then some (.arr 5 0 [((ρ it.rx).wr r.next).av]) else (arSt st la b (r.add (ndOf ρ it.c))).get l' i' :=
  fun l' i'=>St.get_upd ((a1 _ (h.ar _ (.inr (.inr (.inl k1))))).trans hrx) rfl
 have hp0:((arSt st la b (r.add (ndOf ρ it.c))).upd n it.rx (.arr 5 0 [((ρ it.rx).wr r.next).av])).get n ip=_:=(g1 n ip).trans ((if_neg (fun q=>hrp.1 q.2.symm)).trans ((a1 _ (h.ar _ (.inl rfl))).trans h1))
 have g2:∀ l' i',(stepSt st n ip tx ver la b cls.length rx (r.add (ndOf ρ it.c)) it.rx ((ρ it.rx).wr r.next) j).get l' i'=if l'=n∧i'=ip then some (.arr 3 0 [.agg [.ptr la (b+5) 0 0 0,.ref n tx ver (j+1) (cls.length-j-1),.ptr n rx 0 0 0]]) else if l'=n∧i'=it.rx then some (.arr 5 0 [((ρ it.rx).wr r.next).av]) else (arSt st la b (r.add (ndOf ρ it.c))).get l' i':=fun l' i'=>by
  rw [stepSt,St.get_upd hp0 rfl,g1]
 have hw1:(arSt st la b (r.add (ndOf ρ it.c))).wr n:=putC_wr hA.cl.wr h.wr
 have hwl:(arSt st la b (r.add (ndOf ρ it.c))).wr la:=(hA.put _).wr
 have hw2:∀ {l:Nat},(arSt st la b (r.add (ndOf ρ it.c))).wr l→(stepSt st n ip tx ver la b cls.length rx (r.add (ndOf ρ it.c)) it.rx ((ρ it.rx).wr r.next) j).wr l:=fun w=>St.wr_upd (St.wr_upd hw1 hw1) (St.wr_upd hw1 w)
 refine ⟨hS,⟨hw2 hw1,⟨_,by rw [g2,if_pos ⟨rfl,rfl⟩,Nat.sub_sub],.inr ⟨hne,rfl,?_⟩⟩,h.cl,fun p hp=>?_,fun k hk=>?_,h.key,h.rk,h.s1,h.s2,h.s3,h.ar,h.len,hjl⟩,?_⟩
 ·rw [g2,if_neg (fun q=>h.s2 q.2),if_neg (fun q=>hrp.2 q.2.symm),a1 _ (h.ar _ (.inr (.inl ⟨hne,rfl⟩)))];exact h3
 ·obtain ⟨q1,q2,q3⟩:=h.s3 p hp
  rw [g2,if_neg (fun q=>q2 q.2),if_neg (fun q=>q1 (by rw [q.2];exact k1)),a1 _ (h.ar _ (.inr (.inr (.inr ⟨p,hp,rfl⟩))))];exact h.fx p hp
 ·obtain ⟨q1,q2⟩:=h.s1 k hk
  rw [g2,if_neg (fun q=>q1 q.2)]
  unfold rset
  by_cases e:k=it.rx
  ·subst e;rw [if_pos ⟨rfl,rfl⟩,if_pos rfl]
  ·rw [if_neg (fun q=>e q.2),if_neg e,a1 _ (h.ar _ (.inr (.inr (.inl hk))))];exact h.rts k hk
 ·have hP:=hA.put (r.add (ndOf ρ it.c))
  have n1:∀ i,b≤i→i≤b+5→¬ (la=n∧i=ip)∧¬ (la=n∧i=it.rx):=fun i i1 i2=>⟨fun q=>h.ar ip (.inl rfl) ⟨q.1.symm,by omega,by omega⟩,fun q=>h.ar it.rx (.inr (.inr (.inl k1))) ⟨q.1.symm,by omega,by omega⟩⟩
  have gg:∀ i,b≤i→i≤b+5→(stepSt st n ip tx ver la b cls.length rx (r.add (ndOf ρ it.c)) it.rx ((ρ it.rx).wr r.next) j).get la i=(arSt st la b (r.add (ndOf ρ it.c))).get la i:=fun i i1 i2=>by
   rw [g2,if_neg (n1 i i1 i2).1,if_neg (n1 i i1 i2).2]
  exact ⟨hw2 hwl,(gg _ (by omega) (by omega)).trans hP.h0,(gg _ (by omega) (by omega)).trans hP.h1,(gg _ (by omega) (by omega)).trans hP.h2,(gg _ (by omega) (by omega)).trans hP.h3,(gg _ (by omega) (by omega)).trans hP.h4,(gg _ (by omega) (by omega)).trans hP.h5⟩
end Go.Q15
