/- A part of the proof: SSf, SSg, SSh, SSi, SSj, SSk, STd, STc, SPb, SPc, SPd, SQa, SQb, SQc, SQd, SQe, SSl, SQf, SQg, SQh, SSm, SSn, STf, STa, STb, SM, STe, SSna, STg, FYs, TYx. No condition. -/
import Derived.Test.YtbmllhocajbcfaaEuT7
set_option linter.unusedVariables false
set_option linter.unusedSimpArgs false
namespace Go.Q15
open Go Go.QAbs
set_option maxRecDepth 100000
set_option maxHeartbeats 16000000
def ZAA (N:ZP) (rs:List Ro) (t:Tr):List Nat:=(rs.flatMap fun r=>ZIR N r t).foldl X8 []
theorem AROk.lv {r:AR} (h:AROk r):∀ l,Lv r.nodes l→l.length≤16384:=fun l hl=>h.few hl.1 hl.2
theorem AROk.nz {r:AR} (h:AROk r):∀ o x,lk r.nodes o=some x→o≠0:=fun o x hx=>(h.hnd hx).2
theorem ZZ1 {N:ZP} (hN:GoodN N) (hK:∀ l,Lv N l→l.length≤16384) {r:Ro} (hr:RtOk N r) (t:Tr):(ZIR N r t).length≤16384:=by
 unfold ZIR
 split
 ·simp
 ·rename_i h0
  obtain ⟨x,x1,x2,x3,x4⟩:∃ x,lk N r.at_=some x∧NdOk x∧x.h=r.h∧x.mea=r.m:=by
   rcases hr with rfl|w
   ·exact absurd rfl h0
   ·exact w.2
  have:=hK _ (Zjh hN r.h r.at_ [] x x1 x3 ⟨by simp,by simp⟩)
  exact Nat.le_trans (List.length_filter_le ..) this
theorem Zjm {N:ZP} (hN:GoodN N) (hK:∀ l,Lv N l→l.length≤16384) (t:Tr):∀ {rs:List Ro},(∀ r∈rs,RtOk N r)→(rs.flatMap fun r=>ZIR N r t).length≤rs.length*16384:=by
 intro rs
 induction rs with
 | nil=>intro _;simp
 | cons r l ih =>
  intro h
  have h1:=ZZ1 hN hK (h r (by simp)) t
  have h2:=ih (fun z hz=>h z (List.mem_cons_of_mem _ hz))
  rw [List.flatMap_cons,lL,List.length_cons];omega
theorem DrOk.app {M:Nat} {G:List Blk} {dv:AV} {w:List Nat} (h:DrOk M G dv w) (T:List Blk):DrOk M (G++T) dv w:=by
 rcases h with h|⟨j,ver,h1,h2,h3⟩
 ·exact .inl h
 ·exact .inr ⟨j,ver,h1,h2,by rw [List.getElem?_append_left (List.getElem?_eq_some_iff.1 h3).1];exact h3⟩
theorem Zdz {A:List (Bool × List Blk)} {N:ZP} (hN:GoodN N) (hK:∀ l,Lv N l→l.length≤16384) (hz:∀ o x,lk N o=some x→o≠0) {la b:Nat} (hR:∀ L,Rd ⟨A,false,L⟩ la (b+5) N) {rs:List Ro} (hrs:∀ r∈rs,RtOk N r) (hl:rs.length≤3) {t:Tr} (hv:VE N t) (hb:t.bytes≤65536) {b6:Blk} {k:List Fr} {Q:Yg}
 (hQ:∀ G dv,DrOk A.length G dv (ZAA N rs t)→Rk (S Tb) k Q .norm [(0,.ptr la (b+5) 0 0 0),(6,.ptr A.length 0 0 0 0),(8,.ptr A.length 1 0 0 0),(10,.ptr A.length 2 0 0 0),(11,.map A.length 3),(29,.lit (rs.map Ro.av)),(30,.int .i64 rs.length),(31,.int .i64 rs.length),(32,.bool false)] ⟨A,false,chL b6 t dv (ZAA N rs t) G⟩) :
 Ru (S Tb) p_edit_change_21.loop (.blk 0::k) Q [(0,.ptr la (b+5) 0 0 0),(6,.ptr A.length 0 0 0 0),(8,.ptr A.length 1 0 0 0),(10,.ptr A.length 2 0 0 0),(11,.map A.length 3),(29,.lit (rs.map Ro.av)),(30,.int .i64 rs.length),(31,.int .i64 0)] ⟨A,false,chL b6 t .nils [] []⟩:=by
 refine Z0 (α:=Nat × AV × List Blk) (fun p=>[(0,.ptr la (b+5) 0 0 0),(6,.ptr A.length 0 0 0 0),(8,.ptr A.length 1 0 0 0),(10,.ptr A.length 2 0 0 0),(11,.map A.length 3),(29,.lit (rs.map Ro.av)),(30,.int .i64 rs.length),(31,.int .i64 p.1)])
  (fun p=>⟨A,false,chL b6 t p.2.1 (ZAA N (rs.take p.1) t) p.2.2⟩) (fun p=>p.1≤rs.length∧DrOk A.length p.2.2 p.2.1 (ZAA N (rs.take p.1) t)) (fun p=>rs.length-p.1) (0,.nils,[]) rfl rfl ⟨Nat.zero_le _,.inl ⟨rfl,rfl⟩⟩ ?_
 rintro ⟨i,dv,G⟩ ⟨hi,hD⟩
 simp only at hi hD ⊢
 rcases Nat.lt_or_ge i rs.length with hlt|hge
 ·obtain ⟨ro,hro⟩:∃ x,rs[i]?=some x:=⟨rs[i]'hlt,List.getElem?_eq_getElem _⟩
  have q:0≤((i:Nat):Int)∧rs[((i:Nat):Int).toNat]?=some ro:=⟨by omega,by rw [show ((i:Nat):Int).toNat=i by omega];exact hro⟩
  have hrt:=hrs ro (List.mem_of_getElem? hro)
  have hDp:=fun L=>Zhe hN hK hz (hR L) hrt hv hb
  have hdl:=ZZ1 hN hK hrt t
  have hfl:=Zjm hN hK t (rs:=rs.take i) (fun z hz=>hrs z (List.mem_of_mem_take hz))
  rw [List.length_take,Nat.min_eq_left hi] at hfl
  have hwl:=ZZ0 ((rs.take i).flatMap fun r=>ZIR N r t) []
  change (ZAA N (rs.take i) t).length≤_ at hwl
  simp only [List.length_nil] at hwl
  have hnx:ZAA N (rs.take (i+1)) t=(ZIR N ro t).foldl X8 (ZAA N (rs.take i) t):=by
   unfold ZAA
   rw [Zg hro,List.flatMap_append,List.foldl_append];simp
  have hin:=fun k Q hQ=>Zjj (A:=A) (b6:=b6) (t:=t) (dl:=ZIR N ro t) (hD.app [.arr 5 0 [ro.av]]) (by omega) (v0:=.ptr la (b+5) 0 0 0) (v29:=.lit (rs.map Ro.av)) (v30:=.int .i64 rs.length) (v31:=.int .i64 i) (k:=k) (Q:=Q) hQ
  rw [← hnx] at hin
  generalize ZIR N ro t=dl at *
  generalize ZAA N (rs.take i) t=W at *
  have f13:∀ b0 b1 b2 b3:Blk,(b0::b1::b2::b3::G++[Blk.arr 5 0 [ro.av]])[(b0::b1::b2::b3::G).length]?=some (.arr 5 0 [ro.av]):=fun _ _ _ _=>List.getElem?_concat_length ..
  obtain ⟨ra,rh,rm⟩:=ro
  unfold chL Ro.av at *
  repeat' (first|refine hin _ _ (fun G' dv' hD'=>?_)|refine Js (f:=Ro.av) rfl rfl q (fun _=>rfl) ?_|refine X9 rfl ?_|refine ZE ?_|refine ZD ?_|refine ZG rfl ?_|refine Zt rfl rfl ?_|refine ZB rfl ?_|refine ZC ?_|refine JT rfl rfl rfl ?_|refine QS rfl rfl ?_|(refine Zk rfl rfl (fun _=>?_) (fun _=>?_)<;>try (exfalso;omega))|(refine Zj rfl rfl (fun _=>?_) (fun _=>?_)<;>try (exfalso;omega))|refine ZV rfl ?_|refine ZH rfl ?_|refine Zo rfl rfl (by omega) ?_|refine Z4 rfl rfl rfl ?_|refine Xd rfl rfl rfl rfl rfl rfl ?_|refine ZA rfl rfl (by first|rfl|(simp only [lE,lN,lC,Zf,ZY,ZX];first|done|rfl)) (hDp _) ?_|refine ZU rfl rfl rfl (Zw _) ?_|refine ZI ?_|refine ZO ?_|refine Z5 ?_|refine QC ?_)
  all_goals try contradiction
  all_goals try (exfalso;omega)
  exact ⟨(i+1,dv',G'),⟨rfl,rfl⟩,⟨by simp only;omega,hD'⟩,by simp only;omega⟩
 ·obtain rfl:i=rs.length:=by omega
  rw [List.take_length] at hD ⊢
  repeat' (first|refine ZE ?_|refine ZD ?_|refine ZB rfl ?_|refine ZC ?_|(refine Zk rfl rfl (fun _=>?_) (fun _=>?_)<;>try (exfalso;omega))|refine ZH rfl ?_|refine Zx ?_|refine Zh ?_|refine Zd rfl ?_|refine Zq ?_)
  all_goals try (exfalso;omega)
  exact hQ G dv hD
end Go.Q15
namespace Go.Q15
open Go Go.QAbs
set_option maxRecDepth 100000
set_option maxHeartbeats 16000000
theorem Zjn {st:St} {la b:Nat} {r:AR} (hA:Has st la b r) (ho:AROk r) (hg:GoodN r.nodes) {rs:List Ro} (hrs:∀ r'∈rs,RtOk r.nodes r') (hl:rs.length≤3) {t:Tr} (hv:VE r.nodes t) (hb:t.bytes≤65536) {mk:FuncId} {caps:List AV}
 (hmk:∀ A L,A=st.ps→S Tb mk caps ⟨A,false,L⟩=some (.tup [t.av,.int .i64 0],⟨A,false,L⟩)) (hwk:ZX (Zf ([]++[]++caps))=some caps) (hn:nw t≤r.n) :
 S Tb ZCs [.ptr la (b+5) 0 0 0,.func (.func mk) [] caps,.lit (rs.map Ro.av)] st=some (.tup [Qn (wrV t r).2.1 (wrV t r).2.2 (slH (ZAA r.nodes rs t)),.int .i64 0],QJ st la b (wrV t r).1):=by
 refine Xs rfl (fun A hA'=>?_)
 have hM:=fun L=>hmk A L hA'
 have hlp:=fun k Q hQ=>Zdz (A:=A) hg ho.lv ho.nz (fun L=>(hA.r.push hA' (ro:=false) (L:=L)).rd) hrs hl hv hb (b6:=.arr 7 0 [chZ]) (k:=k) (Q:=Q) hQ
 have hle:=hA.le
 have hWr:=fun L=>ZgL (hA.push hA' (ro:=false) (L:=L)) ho hg hv hb hn
 simp only [Yw hA' hle] at hWr
 have hAl:A.length=((QJ st la b (wrV t r).1).ps).length:=by rw [hA'];simp [ZDB]
 generalize (wrV t r).2.1=ro at *
 generalize (wrV t r).2.2=fr at *
 obtain ⟨A2,hA2⟩:∃ A2,A2=(QJ st la b (wrV t r).1).ps:=⟨_,rfl⟩
 rw [← hA2] at hWr hAl
 unfold chL at hlp
 unfold chZ at *
 repeat' (first|refine ZA rfl rfl hwk (hM _) ?_|refine hlp _ _ (fun G dv hD=>?_)|refine X9 rfl ?_|refine ZE ?_|refine ZD ?_|refine ZG rfl ?_|refine Zt rfl rfl ?_|refine ZB rfl ?_|refine ZC ?_|(refine Zj rfl rfl (fun _=>?_) (fun _=>?_)<;>try (exfalso;omega))|refine ZH rfl ?_|refine Zs rfl rfl rfl ?_|refine Zi rfl rfl rfl ?_|refine Zu rfl rfl rfl rfl rfl rfl ?_|refine ZBY rfl ?_|refine ZU rfl rfl rfl (Zw _) ?_|refine Zu rfl rfl rfl (QO _ _ _) (Q1 _ _) rfl ?_|refine ZI ?_|refine ZO ?_)
 all_goals try contradiction
 obtain ⟨ra,rh,rm⟩:=ro
 unfold Ro.av at hWr
 rcases hD with ⟨e,rfl⟩|⟨j,ver,rfl,hne,hgd⟩
 ·rw [e]
  repeat' (first|refine ZG rfl ?_|refine ZJ rfl rfl ?_|refine Zt rfl rfl ?_|refine ZA rfl rfl (by first|rfl|(simp only [lE,lN,lC,Zf,ZY,ZX];first|done|rfl)) (hWr _) ?_)
  rw [hAl]
  repeat' (first|refine ZE ?_|refine ZD ?_|refine ZG rfl ?_|refine ZJ rfl rfl ?_|refine ZU rfl rfl rfl rfl ?_|refine ZB rfl ?_|refine ZC ?_|(refine Zj rfl rfl (fun _=>?_) (fun _=>?_)<;>try (exfalso;omega))|refine ZH rfl ?_|refine Q0 rfl rfl rfl rfl rfl rfl ?_|refine ZI ?_|refine ZS ?_|refine ZL ?_)
  all_goals try contradiction
  exact ZOn (w:=Qn ⟨ra,rh,rm⟩ fr .nils) hA2 (.inr rfl) rfl rfl rfl rfl rfl rfl
 ·have hg3:∀ b0 b1 b2 b3:Blk,(b0::b1::b2::b3::G)[j+4]?=some (.arr 1 ver ((ZAA r.nodes rs t).map QB)):=fun _ _ _ _=>hgd
  unfold slH
  rw [if_neg hne]
  generalize ZAA r.nodes rs t=dd at *
  repeat' (first|refine ZG rfl ?_|refine ZJ rfl rfl ?_|refine Zt rfl rfl ?_|refine ZA rfl rfl (by first|rfl|(simp only [lE,lN,lC,Zf,ZY,ZX];first|done|rfl)) (hWr _) ?_)
  rw [hAl]
  repeat' (first|refine Q0 rfl rfl rfl rfl (Zjk (ro:=⟨ra,rh,rm⟩) (fr:=fr) _ (Nat.lt_succ_self _)) rfl ?_|refine ZE ?_|refine ZD ?_|refine ZG rfl ?_|refine ZJ rfl rfl ?_|refine ZU rfl rfl rfl rfl ?_|refine ZB rfl ?_|refine ZC ?_|(refine Zj rfl rfl (fun _=>?_) (fun _=>?_)<;>try (exfalso;omega))|refine ZH rfl ?_|refine Q0 rfl rfl rfl rfl rfl rfl ?_|refine ZI ?_|refine ZS ?_|refine ZL ?_)
  all_goals try contradiction
  exact ZOn (v:=Qn ⟨ra,rh,rm⟩ fr (.ref A2.length (j+4) ver 0 dd.length)) (w:=Qn ⟨ra,rh,rm⟩ fr (.lit (dd.map QB))) hA2 (.inr rfl) rfl rfl rfl rfl rfl (Zjl (hg3 _ _ _ _) rfl)
end Go.Q15
namespace Go.Q15
open Go Go.QAbs
set_option maxRecDepth 100000
set_option maxHeartbeats 16000000
noncomputable def edV (N:ZP) (ro:Ro) (a n:Int) (s:List UInt8):Tr:=(ZFi N (Yb ro) a n s).own
structure EdOk (N:ZP) (ro:Ro) (s0:List UInt8) (a n:Int) (s:List UInt8):Prop where
 rt:Rt N ro s0
 a0:0≤a
 n0:0≤n
 le:a+n≤s0.length
 b1:s0.length≤60000
 b2:s.length≤2000
theorem EdOk.ok {N:ZP} (hN:GoodN N) {ro:Ro} {s0:List UInt8} {a n:Int} {s:List UInt8} (h:EdOk N ro s0 a n s) :
 VE N (edV N ro a n s)∧(edV N ro a n s).bytes=s0.length-n+s.length∧(edV N ro a n s).txt N=s0.take a.toNat++s++s0.drop (a+n).toNat:=by
 obtain ⟨hk,htx⟩:=h.rt.keep
 have hb:=(h.rt.b hN).1
 have h1:=h.a0
 have h2:=h.n0
 have h3:=h.le
 have h4:=h.b1
 have h5:=h.b2
 have:=Zde hN (s:=s) hk h1 h2 (by omega) (by omega) (by omega)
 refine ⟨Zme this.ve,?_,?_⟩
 ·show (Tr.own _).bytes=_;rw [ZZw,this.bytes,hb]
 ·show (Tr.own _).txt N=_;rw [Zlc,this.txt,htx]
theorem Zjo {st:St} {la b:Nat} {N:ZP} (hN:GoodN N) (hR:Rd st la (b+5) N) {ro:Ro} {s0:List UInt8} {a n:Int} {s:List UInt8} (h:EdOk N ro s0 a n s) :
 S Tb ZGU [.ptr la (b+5) 0 0 0,ro.av,.int .i64 a,.int .i64 n,.str s] st=some (.tup [(edV N ro a n s).av,.int .i64 0],st):=by
 refine QF rfl (fun A hA=>?_)
 have hRA:=fun L=>hR.push hA (ro:=false) (L:=L)
 have hKp:=fun L=>ZcB (hRA L) h.rt.rt
 obtain ⟨hk,htx⟩:=h.rt.keep
 have hb:=(h.rt.b hN).1
 have h1:=h.a0
 have h2:=h.n0
 have h3:=h.le
 have h4:=h.b1
 have h5:=h.b2
 have hRp:=fun L=>ZhP hN (hRA L) hk (a:=a) (n:=n) (s:=s) h1 h2 (by omega) (by omega) (by omega)
 unfold edV
 generalize (ZFi N (Yb ro) a n s).own=t at *
 generalize Yb ro=kt at *
 obtain ⟨ra,rh,rm⟩:=ro
 unfold Ro.av at *
 repeat' (first|refine ZA rfl rfl Zle (hRp _) ?_|refine ZE ?_|refine ZD ?_|refine ZG rfl ?_|refine ZU rfl rfl rfl rfl ?_|refine Zt rfl rfl ?_|refine ZB rfl ?_|refine ZC ?_|(refine Zj rfl rfl (fun _=>?_) (fun _=>?_)<;>try (exfalso;omega))|refine ZH rfl ?_|refine Zi rfl rfl rfl ?_|refine ZA rfl rfl (by first|rfl|(simp only [lE,lN,lC,Zf,ZY,ZX];first|done|rfl)) (hKp _) ?_|refine ZU rfl rfl rfl (Zw _) ?_|refine Zu rfl rfl rfl (QO _ _ _) (Q1 _ _) rfl ?_|refine ZI ?_|refine ZS ?_|refine ZL ?_)
 all_goals try contradiction
 all_goals try (exfalso;omega)
 exact ZCh hA (.inr rfl) rfl rfl rfl rfl
theorem Zjp {st:St} {la b lv:Nat} {N:ZP} (hN:GoodN N) (hR:Rd st la (b+5) N) {ro:Ro} {s0:List UInt8} {a n:Int} {s:List UInt8} (h:EdOk N ro s0 a n s)
 (g0:st.get lv 0=some (.arr 1 0 [.ptr la (b+5) 0 0 0])) (g1:st.get lv 1=some (.arr 5 0 [ro.av])) (g2:st.get lv 2=some (.arr 1 0 [.int .i64 a])) (g3:st.get lv 3=some (.arr 1 0 [.int .i64 n])) (g4:st.get lv 4=some (.arr 1 0 [.str s])) :
 S Tb Ys [.ptr lv 0 0 0 0,.ptr lv 1 0 0 0,.ptr lv 2 0 0 0,.ptr lv 3 0 0 0,.ptr lv 4 0 0 0] st=some (.tup [(edV N ro a n s).av,.int .i64 0],st):=by
 refine QF rfl (fun A hA=>?_)
 have hPl:=fun L=>Zjo hN (hR.push hA (ro:=false) (L:=L)) h
 have k0:=fun L=>ZQ hA (ro:=false) (L:=L) g0
 have k1:=fun L=>ZQ hA (ro:=false) (L:=L) g1
 have k2:=fun L=>ZQ hA (ro:=false) (L:=L) g2
 have k3:=fun L=>ZQ hA (ro:=false) (L:=L) g3
 have k4:=fun L=>ZQ hA (ro:=false) (L:=L) g4
 generalize edV N ro a n s=t at *
 repeat' (first|refine Z3 rfl (k0 _) rfl rfl ?_|refine Z3 rfl (k1 _) rfl (ZL8 _) ?_|refine Z3 rfl (k2 _) rfl rfl ?_|refine Z3 rfl (k3 _) rfl rfl ?_|refine Z3 rfl (k4 _) rfl rfl ?_|refine ZE ?_|refine ZD ?_|refine ZG rfl ?_|refine Zt rfl rfl ?_|refine ZB rfl ?_|refine ZC ?_|refine Zi rfl rfl rfl ?_|refine ZA rfl rfl (by first|rfl|(simp only [lE,lN,lC,Zf,ZY,ZX];first|done|rfl)) (hPl _) ?_|refine Zu rfl rfl rfl (QO _ _ _) (Q1 _ _) rfl ?_|refine ZS ?_|refine ZL ?_)
 all_goals try contradiction
 exact ZCh hA (.inr rfl) rfl rfl rfl rfl
theorem ZWi {st:St} {la b:Nat} {r:AR} (hA:Has st la b r) (ho:AROk r) (hg:GoodN r.nodes) {ro:Ro} {s0:List UInt8} {a n:Int} {s:List UInt8} (h:EdOk r.nodes ro s0 a n s) (hn:nw (edV r.nodes ro a n s)≤r.n) :
 S Tb Xg [.ptr la (b+5) 0 0 0,ro.av,.int .i64 a,.int .i64 n,.str s] st=some (.tup [Qn (wrV (edV r.nodes ro a n s) r).2.1 (wrV (edV r.nodes ro a n s) r).2.2 (slH (ZAA r.nodes [ro] (edV r.nodes ro a n s))),.int .i64 0],QJ st la b (wrV (edV r.nodes ro a n s) r).1):=by
 refine Xs rfl (fun A hA'=>?_)
 have hle:=hA.le
 obtain ⟨hv,hvb,_⟩:=h.ok hg
 have h1:=h.n0
 have h4:=h.b1
 have h5:=h.b2
 have hCh:=Zjn (st:=⟨A,false,[.arr 1 0 [.ptr la (b+5) 0 0 0],.arr 5 0 [ro.av],.arr 1 0 [.int .i64 a],.arr 1 0 [.int .i64 n],.arr 1 0 [.str s],.arr 7 0 [chZ]]⟩) (hA.push hA') ho hg (rs:=[ro]) (fun z hz=>by rw [List.mem_singleton] at hz;rw [hz];exact h.rt.rt) (by simp) hv (by omega) (mk:=Ys) (caps:=[.ptr A.length 0 0 0 0,.ptr A.length 1 0 0 0,.ptr A.length 2 0 0 0,.ptr A.length 3 0 0 0,.ptr A.length 4 0 0 0])
  (fun A2 L h2=>Zjp hg ((hA.push hA').r.rd.push h2) h (ZQ h2 (St.get_cur ..)) (ZQ h2 (St.get_cur ..)) (ZQ h2 (St.get_cur ..)) (ZQ h2 (St.get_cur ..)) (ZQ h2 (St.get_cur ..))) rfl hn
 rw [Yw hA' hle] at hCh
 have hAl:A.length=((QJ st la b (wrV (edV r.nodes ro a n s) r).1).ps).length:=by rw [hA'];simp [ZDB]
 generalize (wrV (edV r.nodes ro a n s) r).2.1=r2 at *
 generalize (wrV (edV r.nodes ro a n s) r).2.2=fr at *
 generalize ZAA r.nodes [ro] (edV r.nodes ro a n s)=dd at *
 obtain ⟨A2,hA2⟩:∃ A2,A2=(QJ st la b (wrV (edV r.nodes ro a n s) r).1).ps:=⟨_,rfl⟩
 rw [← hA2] at hCh hAl
 simp only [List.map_cons,List.map_nil] at hCh
 obtain ⟨x1,x2,x3⟩:=r2
 unfold chZ at hCh
 unfold Ro.av at hCh ⊢
 by_cases hd:dd=[]
 ·subst hd
  rw [show slH []=.nils from rfl] at hCh ⊢
  unfold Qn at hCh
  repeat' (first|refine ZE ?_|refine ZD ?_|refine ZG rfl ?_|refine ZU rfl rfl rfl rfl ?_|refine Zt rfl rfl ?_|refine ZB rfl ?_|refine ZC ?_|refine ZAJ rfl rfl ?_|refine Zi rfl rfl rfl ?_|refine Qw rfl rfl rfl rfl ?_|refine ZA rfl rfl rfl (hCh) ?_)
  rw [hAl]
  repeat' (first|refine ZG rfl ?_|refine ZB rfl ?_|refine ZC ?_|refine Zu rfl rfl rfl rfl rfl rfl ?_|refine ZS ?_|refine ZL ?_)
  all_goals try contradiction
  exact ZOn (w:=Qn ⟨x1,x2,x3⟩ fr .nils) hA2 (.inr rfl) rfl rfl rfl rfl rfl rfl
 ·rw [show slH dd=.lit (dd.map QB) from if_neg hd] at hCh ⊢
  unfold Qn at hCh
  repeat' (first|refine ZE ?_|refine ZD ?_|refine ZG rfl ?_|refine ZU rfl rfl rfl rfl ?_|refine Zt rfl rfl ?_|refine ZB rfl ?_|refine ZC ?_|refine ZAJ rfl rfl ?_|refine Zi rfl rfl rfl ?_|refine Qw rfl rfl rfl rfl ?_|refine ZA rfl rfl rfl (hCh) ?_)
  rw [hAl]
  repeat' (first|refine ZG rfl ?_|refine ZB rfl ?_|refine ZC ?_|refine Zu rfl rfl rfl rfl rfl rfl ?_|refine ZS ?_|refine ZL ?_)
  all_goals try contradiction
  exact ZOn (w:=Qn ⟨x1,x2,x3⟩ fr (.lit (dd.map QB))) hA2 (.inr rfl) rfl rfl rfl rfl rfl rfl
end Go.Q15
namespace Go.Q15
open Go Go.QAbs
set_option maxRecDepth 100000
set_option maxHeartbeats 16000000
end Go.Q15
namespace Go.Q15
open Go Go.QAbs
set_option maxRecDepth 100000
set_option maxHeartbeats 16000000
end Go.Q15
namespace Go.Q15
open Go Go.QAbs
set_option maxRecDepth 100000
set_option maxHeartbeats 16000000
theorem ZWj (w:List Nat) (hl:w.length<9223372036854775808) (st:St):S Tb Jx [.lit (w.map QB),.lit (w.map QB)] st=some (.bool true,st):=by
 refine QF rfl (fun A hA=>?_)
 repeat' (first|refine X9 rfl ?_|refine ZE ?_|refine ZD ?_|refine ZG rfl ?_|refine ZB rfl ?_|refine ZC ?_|(refine Zj rfl rfl (fun _=>?_) (fun _=>?_)<;>try (exfalso;omega))|refine ZH rfl ?_|refine ZI ?_|refine ZO ?_)
 all_goals try contradiction
 refine Z0 (α:=Nat) (fun i=>[(0,.lit (w.map QB)),(1,.lit (w.map QB)),(5,.int .i64 i)]) (fun i=>⟨A,false,[]⟩) (fun i=>i≤w.length) (fun i=>w.length-i) 0 rfl rfl (Nat.zero_le _) ?_
 intro i hi
 replace hi:i≤w.length:=hi
 rcases Nat.lt_or_ge i w.length with hlt|hge
 ·obtain ⟨k,hk⟩:∃ k,w[i]?=some k:=⟨w[i]'hlt,List.getElem?_eq_getElem _⟩
  have q:0≤((i:Nat):Int)∧w[((i:Nat):Int).toNat]?=some k:=⟨by omega,by rw [show ((i:Nat):Int).toNat=i by omega];exact hk⟩
  repeat' (first|refine X9 rfl ?_|refine Js (f:=QB) rfl rfl q (fun _=>rfl) ?_|refine ZE ?_|refine ZD ?_|refine ZG rfl ?_|refine ZB rfl ?_|refine ZC ?_|refine QS rfl rfl ?_|(refine Zk rfl rfl (fun _=>?_) (fun _=>?_)<;>try (exfalso;omega))|(refine Zj rfl rfl (fun _=>?_) (fun _=>?_)<;>try (exfalso;omega))|refine ZV rfl ?_|refine ZH rfl ?_|refine Zo rfl rfl (by omega) ?_|refine ZI ?_|refine ZO ?_|refine Z5 ?_|refine QC ?_)
  all_goals try contradiction
  all_goals try (exfalso;omega)
  all_goals first|exact absurd rfl ‹_›|exact ⟨i+1,⟨rfl,rfl⟩,by omega,by omega⟩
 ·obtain rfl:i=w.length:=by omega
  repeat' (first|refine X9 rfl ?_|refine ZE ?_|refine ZD ?_|refine ZG rfl ?_|refine ZB rfl ?_|refine ZC ?_|(refine Zk rfl rfl (fun _=>?_) (fun _=>?_)<;>try (exfalso;omega))|refine ZH rfl ?_|refine ZS ?_|refine Zx ?_|refine ZL ?_|refine Zh ?_|refine Zd rfl ?_|refine Zq ?_)
  all_goals try (exfalso;omega)
  refine Zc hA (by first|exact .inl rfl|exact .inr rfl) rfl rfl rfl rfl ?_
  rfl
structure Op where
 at_:Int
 num:Int
 text:List UInt8
def Op.av (y:Op):AV:=.agg [.int .i64 y.at_,.int .i64 y.num,.str y.text]
def ZnF (l:List Op):Prop:=∃ s∈l,300<s.text.length
noncomputable instance (l:List Op):Decidable (ZnF l):=Classical.propDecidable _
end Go.Q15
namespace Go.Q15
open Go Go.QAbs
set_option maxRecDepth 100000
set_option maxHeartbeats 16000000
def hOf (r:AR) (s:Nat):Nat:=((r.gens[s]?).getD 0).toNat*65536+s
def Xx (r:AR):List Nat:=(Jk r.states 1).map (hOf r)
theorem ZWk {l:List Int} {z:Int} {s:Nat} (h:s∈Jk l z):s<l.length∧l[s]?=some z:=by
 unfold Jk YN at h
 rw [List.mem_filter,List.mem_range] at h
 exact ⟨h.1,by simpa using h.2⟩
theorem ZfS {st:St} {lv b:Nat} {r:AR} (h:HasR st lv b r) (ho:AROk r):S Tb J6 [.ptr lv (b+3) 0 0 0] st=some (.lit ((Xx r).map QB),st):=by
 refine QF rfl (fun A hA=>?_)
 have g3:=fun L=>ZQ hA (ro:=false) (L:=L) h.h3
 have g2:=fun L=>ZQ hA (ro:=false) (L:=L) h.h2
 unfold AR.b3 at g3
 unfold AR.b2 at g2
 have hw2:∀ L,wIs 1 0 (St.get ⟨A,false,L⟩ lv (b+2))=true:=fun L=>by rw [g2];rfl
 have hsl:=fun L=>ZgE (h.push hA (ro:=false) (L:=L)) ho.n16 1
 have hmem:=fun s hs=>ZWk (l:=r.states) (z:=1) (s:=s) hs
 have hlen:(Jk r.states 1).length≤16384:=by have:=ZCi r.states 1 r.states.length;have:=ho.n16;unfold Jk;omega
 have hn16:=ho.n16
 have hgl:=ho.gl
 unfold Xx
 generalize Jk r.states 1=l at *
 repeat' (first|refine X9 rfl ?_|refine ZE ?_|refine ZD ?_|refine ZG rfl ?_|refine ZB rfl ?_|refine ZC ?_|refine ZA5 rfl ?_|refine ZA rfl rfl rfl (hsl _) ?_|refine ZO ?_)
 refine Z0 (α:=Nat) (fun i=>[(0,.ptr lv (b+3) 0 0 0),(3,.ref A.length 0 i 0 i),(9,.lit (l.map ZFj)),(10,.int .i64 l.length),(11,.int .i64 i)]) (fun i=>⟨A,false,[.arr 1 i (((l.take i).map (hOf r)).map QB)]⟩) (fun i=>i≤l.length) (fun i=>l.length-i) 0 rfl rfl (Nat.zero_le _) ?_
 intro i hi
 replace hi:i≤l.length:=hi
 rcases Nat.lt_or_ge i l.length with hlt|hge
 ·obtain ⟨s,hs⟩:∃ x,l[i]?=some x:=⟨l[i]'hlt,by simp [hlt]⟩
  obtain ⟨m1,m2⟩:=hmem s (List.mem_of_getElem? hs)
  obtain ⟨g,g1',g2',g3'⟩:=ho.gen s m1
  have q:0≤((i:Nat):Int)∧l[((i:Nat):Int).toNat]?=some s:=⟨by omega,by rw [show ((i:Nat):Int).toNat=i by omega];exact hs⟩
  have q1:(r.gens.map (.int .u64))[0+((s:Nat):Int).toNat]?=some (AV.int .u64 g):=by
   rw [show 0+((s:Nat):Int).toNat=s by omega,List.getElem?_map,g1'];rfl
  have hMk:=fun st=>Zf3 s g (by omega) ⟨by omega,by have:=ho.most;omega⟩ st
  have hl2:(((l.take i).map (hOf r)).map QB).length+[AV.int .u64 ((g*65536+s:Nat):Int)].length<4294967296:=by simp;omega
  have hl3:i=(((l.take i).map (hOf r)).map QB).length:=by simp;omega
  have hlt2:((s:Nat):Int)<r.gens.length:=by omega
  repeat' (first|refine Js (f:=ZFj) rfl rfl q (fun _=>rfl) ?_|refine Z3 rfl (g3 _) rfl rfl ?_|refine J4 rfl rfl (by omega) (hw2 _) ?_|refine Z3 rfl (g2 _) q1 rfl ?_|refine ZLy rfl rfl rfl hl3 rfl rfl hl2 (by decide) ?_|refine ZE ?_|refine ZD ?_|refine ZG rfl ?_|refine ZJ rfl rfl ?_|refine Zt rfl rfl ?_|refine ZB rfl ?_|refine ZC ?_|refine Zm rfl rfl ?_|refine QS rfl rfl ?_|(refine Zk rfl rfl (fun _=>?_) (fun _=>?_)<;>try (exfalso;omega))|refine ZV rfl ?_|refine Zo rfl rfl (by omega) ?_|refine Qw rfl rfl rfl rfl ?_|refine ZA rfl rfl rfl (hMk _) ?_|refine ZI ?_|refine ZO ?_|refine Z5 ?_|refine QC ?_)
  all_goals try contradiction
  all_goals try (exfalso;omega)
  refine ⟨i+1,⟨?_,?_⟩,by omega,by omega⟩
  ·rfl
  ·have e:hOf r s=g*65536+s:=by unfold hOf;rw [g1'];simp
   rw [List.take_add_one,hs,List.map_append,List.map_append,← e]
   rfl
 ·obtain rfl:i=l.length:=by omega
  repeat' (first|refine ZE ?_|refine ZD ?_|refine ZG rfl ?_|refine ZB rfl ?_|refine ZC ?_|(refine Zk rfl rfl (fun _=>?_) (fun _=>?_)<;>try (exfalso;omega))|refine ZH rfl ?_|refine ZS ?_|refine Zx ?_|refine ZL ?_|refine Zh ?_|refine Zd rfl ?_|refine Zq ?_)
  all_goals try (exfalso;omega)
  refine ZCY (es:=(l.map (hOf r)).map QB) hA (.inr rfl) rfl (by rw [List.take_length];rfl) (by simp) (by intro v hv;obtain ⟨x,_,rfl⟩:=List.mem_map.1 hv;rfl) ?_
  rfl
theorem ZWl {st:St} {lv b:Nat} {r:AR} (h:HasR st lv b r) (ho:AROk r):S Tb Jf [.ptr lv (b+5) 0 0 0] st=some (.lit ((Xx r).map QB),st):=by
 refine QF rfl (fun A hA=>?_)
 have g5:=fun L=>ZQ hA (ro:=false) (L:=L) h.h5
 unfold AR.b5 at g5
 have hF:=fun L=>ZfS (h.push hA (ro:=false) (L:=L)) ho
 repeat' (first|refine Z3 rfl (g5 _) rfl rfl ?_|refine ZE ?_|refine ZD ?_|refine ZG rfl ?_|refine ZJ rfl rfl ?_|refine ZB rfl ?_|refine ZC ?_|refine Zm rfl rfl ?_|refine ZH rfl ?_|refine Qb rfl rfl rfl rfl ?_|refine ZA rfl rfl rfl (hF _) ?_|refine ZI ?_|refine ZS ?_|refine ZL ?_)
 all_goals try contradiction
 refine Zc hA (by first|exact .inl rfl|exact .inr rfl) rfl rfl rfl rfl ?_
 rfl
theorem Zd0 {st:St} {lv b:Nat} {r:AR} (h:HasR st lv b r) (ho:AROk r):S Tb J1 [.ptr lv (b+5) 0 0 0] st=some (.tup [.lit (r.free.map (.int .i64)),.lit ((Jk r.states 2).map ZFj)],st):=by
 refine QF rfl (fun A hA=>?_)
 have g5:=fun L=>ZQ hA (ro:=false) (L:=L) h.h5
 unfold AR.b5 at g5
 have hF:=fun L=>ZjA (h.push hA (ro:=false) (L:=L)).allRo ho.nb (by have:=ho.nn;have:=ho.n16;omega)
 have hW:=fun L=>ZPL (h.push hA (ro:=false) (L:=L)) ho.n16
 repeat' (first|refine Z3 rfl (g5 _) rfl rfl ?_|refine Y3 rfl rfl rfl (hF _) ?_|refine ZE ?_|refine ZD ?_|refine ZG rfl ?_|refine ZJ rfl rfl ?_|refine ZB rfl ?_|refine ZC ?_|refine Zm rfl rfl ?_|refine ZH rfl ?_|refine Qb rfl rfl rfl rfl ?_|refine ZA rfl rfl rfl (hW _) ?_|refine ZI ?_|refine ZS ?_|refine ZL ?_)
 all_goals try contradiction
 refine Y4 hA (by first|exact .inl rfl|exact .inr rfl) rfl rfl rfl rfl rfl ?_
 rfl
theorem ZPM (w:List Int) (hl:w.length<9223372036854775808) (st:St):S Tb Q6 [.lit (w.map (.int .i64)),.lit (w.map (.int .i64))] st=some (.bool true,st):=by
 refine QF rfl (fun A hA=>?_)
 repeat' (first|refine X9 rfl ?_|refine ZE ?_|refine ZD ?_|refine ZG rfl ?_|refine ZB rfl ?_|refine ZC ?_|(refine Zj rfl rfl (fun _=>?_) (fun _=>?_)<;>try (exfalso;omega))|refine ZH rfl ?_|refine ZI ?_|refine ZO ?_)
 all_goals try contradiction
 refine Z0 (α:=Nat) (fun i=>[(0,.lit (w.map (.int .i64))),(1,.lit (w.map (.int .i64))),(5,.int .i64 i)]) (fun i=>⟨A,false,[]⟩) (fun i=>i≤w.length) (fun i=>w.length-i) 0 rfl rfl (Nat.zero_le _) ?_
 intro i hi
 replace hi:i≤w.length:=hi
 rcases Nat.lt_or_ge i w.length with hlt|hge
 ·obtain ⟨k,hk⟩:∃ k,w[i]?=some k:=⟨w[i]'hlt,List.getElem?_eq_getElem _⟩
  have q:0≤((i:Nat):Int)∧w[((i:Nat):Int).toNat]?=some k:=⟨by omega,by rw [show ((i:Nat):Int).toNat=i by omega];exact hk⟩
  repeat' (first|refine X9 rfl ?_|refine Js (f:=AV.int .i64) rfl rfl q (fun _=>rfl) ?_|refine ZE ?_|refine ZD ?_|refine ZG rfl ?_|refine ZB rfl ?_|refine ZC ?_|refine QS rfl rfl ?_|(refine Zk rfl rfl (fun _=>?_) (fun _=>?_)<;>try (exfalso;omega))|(refine Zj rfl rfl (fun _=>?_) (fun _=>?_)<;>try (exfalso;omega))|refine ZV rfl ?_|refine ZH rfl ?_|refine Zo rfl rfl (by omega) ?_|refine ZI ?_|refine ZO ?_|refine Z5 ?_|refine QC ?_)
  all_goals try contradiction
  all_goals try (exfalso;omega)
  all_goals first|exact absurd rfl ‹_›|exact ⟨i+1,⟨rfl,rfl⟩,by omega,by omega⟩
 ·obtain rfl:i=w.length:=by omega
  repeat' (first|refine X9 rfl ?_|refine ZE ?_|refine ZD ?_|refine ZG rfl ?_|refine ZB rfl ?_|refine ZC ?_|(refine Zk rfl rfl (fun _=>?_) (fun _=>?_)<;>try (exfalso;omega))|refine ZH rfl ?_|refine ZS ?_|refine Zx ?_|refine ZL ?_|refine Zh ?_|refine Zd rfl ?_|refine Zq ?_)
  all_goals try (exfalso;omega)
  refine Zc hA (by first|exact .inl rfl|exact .inr rfl) rfl rfl rfl rfl ?_
  rfl
end Go.Q15
namespace Go.Q15
open Go Go.QAbs
set_option maxRecDepth 100000
set_option maxHeartbeats 4000000
inductive Adds:AR→List Nat→AR→Prop
 | nil (r:AR):Adds r [] r
 | cons {r r':AR} {hs:List Nat} (x:Nd) (h:Adds (r.add x) hs r'):Adds r (r.next::hs) r'
theorem Adds.app {r r1 r2:AR} {hs gs:List Nat} (h:Adds r hs r1) (g:Adds r1 gs r2):Adds r (hs++gs) r2:=by
 induction h with
 | nil=>exact g
 | cons x h ih=>exact .cons x (ih g)
mutual
theorem ZgX:∀ (t:Tr) (r:AR),Adds r (t.wr r).2.2 (t.wr r).1
 | .mk o h m s k,r=>by
  rw [Tr.wr]
  split
  ·exact .nil r
  ·split
   ·exact .cons _ (.nil _)
   ·exact (Zjq k r).app (.cons _ (.nil _))
theorem Zjq:∀ (k:Option (List Tr)) (r:AR),Adds r (Tr.wrO k r).2.2 (Tr.wrO k r).1
 | none,r=>by rw [Tr.wrO];exact .nil r
 | some l,r=>by rw [Tr.wrO];exact Zd1 l r
theorem Zd1:∀ (l:List Tr) (r:AR),Adds r (Tr.wrL l r).2.2 (Tr.wrL l r).1
 | [],r=>by rw [Tr.wrL];exact .nil r
 | t::l,r=>by rw [Tr.wrL];exact (ZgX t r).app (Zd1 l _)
end
theorem Zd2 (t:Tr) (r:AR):Adds r (wrV t r).2.2 (wrV t r).1:=by
 unfold wrV
 split
 ·exact .nil r
 ·exact ZgX t r
structure SameS (r r':AR):Prop where
 n:r'.n=r.n
 nb:r'.n≤r'.blk.length
 blk:r'.blk.take r.n=r.blk.take r.n
 st:r'.states=r.states
 nodes:r'.nodes=r.nodes
 most:r'.most=r.most
 slots:r'.slots=r.slots
 stale:r'.stale=r.stale
 gl:r'.gens.length=r.gens.length
 gt:∀ s:Nat,r.states[s]?≠some 0→r'.gens[s]?=r.gens[s]?
 gf:∀ (s:Nat) (g g':Int),r.gens[s]?=some g→r'.gens[s]?=some g'→g≤g'∧g'≤g+1
theorem SameS.refl {r:AR} (ho:AROk r):SameS r r :=
 ⟨rfl,ho.nb,rfl,rfl,rfl,rfl,rfl,rfl,rfl,fun _ _=>rfl,fun s g g' h h'=>by rw [h] at h';have:=Option.some.inj h';omega⟩
theorem ZZ2 {o:Nat} {x:Nd}:∀ {N:ZP},lk N o=none→ZH9 o (N++[(o,x)])=N
 | [],_=>by simp [ZH9]
 | p::l,h=>by
  rw [lk] at h
  split at h
  ·simp at h
  ·rename_i q
   rw [lC,ZH9,if_neg q,ZZ2 h]
def ZZ3 (r:AR):Prop:=∀ (s:Nat) (g:Int),r.states[s]?=some 0→r.gens[s]?=some g→g<r.most
theorem Zjr {r r2:AR} {x:Nd} (ho:AROk r) (hn:0<r.n) (hy:ZZ3 r) (h:SameS (r.add x) r2):SameS r (r2.del r.next):=by
 obtain ⟨t1,t2,t3,t4,t5,t6⟩:=ho.top hn
 have hnew:=ho.new hn
 have e1:r.next % 65536=r.slot:=by unfold AR.next;have:=ho.n16;omega
 have e2:r.next / 65536=r.gen1:=by unfold AR.next;have:=ho.n16;omega
 have hgen:r2.gens[r.slot]?=some (r.gen1:Int):=by
  rw [h.gt r.slot (by
   show (r.states.set r.slot 1)[r.slot]?≠some 0
   rw [List.getElem?_set_self t2];simp)]
  exact t4
 have hlt:=hy r.slot r.gen1 t3 t4
 have hg:r2.give r.next={ r2 with gens:=r2.gens.set r.slot ((r.gen1:Nat)+1),states:=r2.states.set r.slot 0,blk:=r2.blk.take r2.n++[(r.slot:Int)],n:=r2.n+1,ver:=r2.ver+1 }:=by
  unfold AR.give
  rw [e1,e2,if_neg (by rw [hgen,h.most];intro q;have:=Option.some.inj q;have e:(r.add x).most=r.most:=rfl;omega)]
 have hn2:r2.n=r.n-1:=h.n
 have hb:=h.nb
 have hnn:=ho.nb
 have hblk:r2.blk.take (r.n-1)=r.blk.take (r.n-1):=h.blk
 have hst:r2.states=r.states.set r.slot 1:=h.st
 have hnd:r2.nodes=r.nodes++[(r.next,x.copy)]:=h.nodes
 have hgl:r2.gens.length=r.gens.length:=h.gl
 have hd:r2.del r.next={ { r2 with gens:=r2.gens.set r.slot ((r.gen1:Nat)+1),states:=r2.states.set r.slot 0,blk:=r2.blk.take r2.n++[(r.slot:Int)],n:=r2.n+1,ver:=r2.ver+1 } with nodes:=ZH9 r.next r2.nodes,frees:=r2.frees+1 }:=by
  unfold AR.del;rw [hg]
 rw [hd]
 have hbl:(r2.blk.take r2.n).length=r.n-1:=by rw [List.length_take];omega
 refine ⟨?_,?_,?_,?_,?_,h.most,h.slots,h.stale,?_,?_,?_⟩
 ·show r2.n+1=r.n;omega
 ·show r2.n+1≤(r2.blk.take r2.n++[(r.slot:Int)]).length
  rw [lL,hbl,List.length_singleton];omega
 ·show (r2.blk.take r2.n++[(r.slot:Int)]).take r.n=_
  rw [hn2,hblk,List.take_of_length_le (by rw [lL,List.length_take,List.length_singleton];omega)]
  conv=>rhs;rw [show r.n=r.n-1+1 by omega,Zg t1]
 ·show r2.states.set r.slot 0=_
  rw [hst,List.set_set]
  apply List.ext_getElem?
  intro i
  rw [List.getElem?_set]
  by_cases q:r.slot=i
  ·subst q;rw [if_pos rfl,if_pos t2,t3]
  ·rw [if_neg q]
 ·show ZH9 r.next r2.nodes=_
  rw [hnd];exact ZZ2 hnew
 ·show (r2.gens.set _ _).length=_
  rw [List.length_set];exact hgl
 ·intro s hs
  show (r2.gens.set r.slot _)[s]?=_
  have hne:r.slot≠s:=by rintro rfl;exact hs t3
  rw [List.getElem?_set_ne hne]
  exact h.gt s (by show (r.states.set r.slot 1)[s]?≠_;rw [List.getElem?_set_ne hne];exact hs)
 ·intro s g g' hs hs'
  replace hs':(r2.gens.set r.slot ((r.gen1:Nat)+1))[s]?=some g':=hs'
  by_cases q:r.slot=s
  ·subst q
   rw [List.getElem?_set_self (by rw [hgl,ho.gl];exact t2)] at hs'
   rw [t4] at hs
   have:=Option.some.inj hs
   have:=Option.some.inj hs'
   omega
  ·rw [List.getElem?_set_ne q] at hs'
   exact h.gf s g g' hs hs'
theorem Zhf {r:AR} {x:Nd} (hy:ZZ3 r):ZZ3 (r.add x):=by
 intro s g h1 h2
 replace h1:(r.states.set r.slot 1)[s]?=some 0:=h1
 rw [List.getElem?_set] at h1
 split at h1
 ·split at h1
  ·simp at h1
  ·simp at h1
 ·exact hy s g h1 h2
theorem Zhg {r r':AR} {hs:List Nat} (h:Adds r hs r'):AROk r→ZZ3 r→hs.length≤r.n→SameS r (ZBH r' hs.reverse):=by
 induction h with
 | nil r=>intro ho _ _;exact .refl ho
 | @cons r r' hs x h ih =>
  intro ho hy hn
  rw [List.length_cons] at hn
  have h1:0<r.n:=by omega
  have:=ih (ho.add h1 x) (Zhf hy) (by show hs.length≤r.n-1;omega)
  rw [List.reverse_cons,ZZz]
  exact Zjr ho h1 hy this
theorem Zd3 (l:List Nat):∀ r:AR,(ZBH r l).allocs=r.allocs∧(ZBH r l).frees=r.frees+l.length:=by
 induction l with
 | nil=>intro r;exact ⟨rfl,by show r.frees=r.frees+0;omega⟩
 | cons a l ih =>
  intro r
  obtain ⟨h1,h2⟩:=ih (r.del a)
  obtain ⟨e1,e2,e3,e4,e5,e6,e7,e8⟩:=ZOl r a
  refine ⟨h1.trans e3,?_⟩
  show (ZBH (r.del a) l).frees=_
  rw [h2]
  show r.frees+1+_=_
  rw [List.length_cons];omega
theorem SameS.ok {r r':AR} (h:SameS r r') (ho:AROk r) (hy:ZZ3 r) (ha:0≤r'.allocs∧r'.allocs-r'.frees=r.allocs-r.frees) (hf:0≤r'.frees∧r'.frees≤900000):AROk r' where
 nb:=h.nb
 n16:=by rw [h.st];exact ho.n16
 nn:=by rw [h.st,h.n];exact ho.nn
 gl:=by rw [h.st,h.gl];exact ho.gl
 stk:=by
  intro i hi
  rw [h.n] at hi
  obtain ⟨s,h1,h2,h3⟩:=ho.stk i hi
  refine ⟨s,?_,by rw [h.st];exact h2,by rw [h.st];exact h3⟩
  have:=congrArg (fun l:List Int=>l[i]?) h.blk
  simp only [List.getElem?_take,if_pos hi] at this
  rw [this,h1]
 nd:=by
  intro i j hi hj e
  rw [h.n] at hi hj
  have a:=congrArg (fun l:List Int=>l[i]?) h.blk
  have b:=congrArg (fun l:List Int=>l[j]?) h.blk
  simp only [List.getElem?_take,if_pos hi,if_pos hj] at a b
  exact ho.nd i j hi hj (by rw [← a,← b,e])
 gen:=by
  intro s hs
  rw [h.st] at hs
  obtain ⟨g,g1,g2,g3⟩:=ho.gen s hs
  by_cases q:r.states[s]?=some 0
  ·have hlt:=hy s g q g1
   obtain ⟨g',hg'⟩:∃ x,r'.gens[s]?=some x:=⟨_,List.getElem?_eq_getElem (by rw [h.gl,ho.gl];exact hs)⟩
   obtain ⟨b1,b2⟩:=h.gf s g g' g1 hg'
   refine ⟨g'.toNat,by rw [hg'];congr 1;omega,by omega,by rw [h.most];omega⟩
  ·exact ⟨g,by rw [h.gt s q];exact g1,g2,by rw [h.most];exact g3⟩
 most:=by rw [h.most];exact ho.most
 key:=by
  intro o x hx
  rw [h.nodes] at hx
  obtain ⟨s,g,k1,k2,k3,k4⟩:=ho.key o x hx
  exact ⟨s,g,k1,by rw [h.st];exact k2,by rw [h.st];exact k3,by rw [h.gt s (by rw [k3];simp)];exact k4⟩
 al:=by have:=ho.al;rw [h.n,h.slots];omega
 fr:=hf
 sl:=by rw [h.slots];exact ho.sl
end Go.Q15
namespace Go.Q15
open Go Go.QAbs
set_option maxRecDepth 100000
set_option maxHeartbeats 8000000
end Go.Q15
namespace Go.Q15
open Go Go.QAbs
set_option maxRecDepth 100000
set_option maxHeartbeats 8000000
end Go.Q15
namespace Go.Q15
open Go Go.QAbs
set_option maxRecDepth 100000
set_option maxHeartbeats 8000000
end Go.Q15
namespace Go.Q15
open Go Go.QAbs
set_option maxRecDepth 100000
set_option maxHeartbeats 8000000
end Go.Q15
namespace Go.Q15
open Go Go.QAbs
set_option maxRecDepth 100000
set_option maxHeartbeats 8000000
theorem RtOk.nz {N:ZP} {r:Ro} (h:RtOk N r) (hb:0<r.m.b):r.at_≠0∧∃ x,lk N r.at_=some x∧NdOk x∧x.h=r.h∧x.mea=r.m:=by
 rcases h with rfl|w
 ·simp [Ro.zero,Mea.zero] at hb
 ·exact w
theorem RtOk.mb {N:ZP} (hN:GoodN N) {r:Ro} (h:RtOk N r):0≤r.m.b:=by
 rcases h with rfl|⟨h0,x,h1,h2,h3,h4⟩
 ·simp [Ro.zero,Mea.zero]
 ·rw [← h4,← ZHe hN _ _ x h1 rfl];simp [Y1]
end Go.Q15
namespace Go.Q15
open Go Go.QAbs
set_option maxRecDepth 100000
set_option maxHeartbeats 8000000
theorem ZIS {p:UInt8→Bool} {s:List UInt8} {i j:Nat} (h:i≤j):(s.take i).countP p≤(s.take j).countP p:=by
 have:s.take i=(s.take j).take i:=by rw [List.take_take,Nat.min_eq_left h]
 rw [this]
 exact List.Sublist.countP_le (List.take_sublist ..)
theorem ZR6 {p:UInt8→Bool} {s:List UInt8} {i:Nat} {c:UInt8} (h:s[i]?=some c):(s.take (i+1)).countP p=(s.take i).countP p+if p c=true then 1 else 0:=by
 rw [Zg h,List.countP_append,List.countP_singleton]
structure NthB (p:UInt8→Bool) (s:List UInt8) (n:Nat) (i:Nat) (c:UInt8):Prop where
 get:s[i]?=some c
 is:p c=true
 cnt:(s.take i).countP p=n
theorem NthB.inner {p:UInt8→Bool} {pre leaf post:List UInt8} {n i:Nat} {c:UInt8} (h:NthB p (pre++leaf++post) n i c) (h1:pre.countP p≤n) (h2:n<(pre++leaf).countP p) :
 ∃ i',i=pre.length+i'∧NthB p leaf (n-pre.countP p) i' c:=by
 obtain ⟨g,g2,g3⟩:=h
 have hs:=ZR6 (p:=p) g
 rw [if_pos g2,g3] at hs
 have a1:pre.length≤i:=by
  rcases Nat.lt_or_ge i pre.length with q|q
  ·have:=ZIS (p:=p) (s:=pre++leaf++post) (i:=i+1) (j:=pre.length) (by omega)
   rw [hs,List.append_assoc,List.take_left] at this
   omega
  ·exact q
 have a2:i<pre.length+leaf.length:=by
  rcases Nat.lt_or_ge i (pre.length+leaf.length) with q|q
  ·exact q
  ·have:=ZIS (p:=p) (s:=pre++leaf++post) (i:=(pre++leaf).length) (j:=i) (by rw [lL];omega)
   rw [g3,List.take_left] at this
   omega
 obtain ⟨i',rfl⟩:∃ i',i=pre.length+i':=⟨i-pre.length,by omega⟩
 have e:(pre++leaf++post).take (pre.length+i')=pre++leaf.take i':=by
  rw [List.append_assoc,List.take_length_add_append,List.take_append_of_le_length (by omega)]
 refine ⟨i',rfl,?_,g2,?_⟩
 ·rw [List.append_assoc,List.getElem?_append_right (by omega),List.getElem?_append_left (by omega)] at g
  rw [show pre.length+i'-pre.length=i' by omega] at g
  exact g
 ·rw [e,List.countP_append] at g3;omega
end Go.Q15
namespace Go.Q15
open Go Go.QAbs
set_option maxRecDepth 100000
set_option maxHeartbeats 8000000
end Go.Q15
namespace Go.Q15
open Go Go.QAbs
set_option maxRecDepth 100000
set_option maxHeartbeats 8000000
end Go.Q15
namespace Go.Q15
open Go Go.QAbs
set_option maxRecDepth 100000
set_option maxHeartbeats 16000000
def exU:List UInt8:=[97,98,99,100,101,102,103,104,105,106,107,108,109,110,111,112,113]
theorem ZHi:QI exU=.mk 0 1 .zero [] (some [JO [97,98,99,100,101,102,103,104,105],JO [106,107,108,109,110,111,112,113]]):=by
 rfl
noncomputable def exUR:AR:=(wrV (QI exU) (QZ 8 4)).1
theorem Zjs:(wrV (QI exU) (QZ 8 4)).2.1=⟨65538,1,⟨17,17,0⟩⟩:=by
 rw [ZHi];rfl
theorem Zjt:nw (QI exU)=3:=by rw [ZHi];rfl
theorem ZnG:exUR.n=5:=by unfold exUR;rw [ZHi];rfl
theorem Zml:nw (edV exUR.nodes ⟨65538,1,⟨17,17,0⟩⟩ 9 0 [120,121,122])≤5:=by
 unfold exUR;rw [ZHi]
 decide +kernel
def exURo:Ro:=⟨65538,1,⟨17,17,0⟩⟩
theorem Zhh (A:List (Bool × List Blk)):S Tb J2 [] ⟨A,false,[]⟩=some (.tup [.ptr A.length 6 0 0 0,exURo.av,.bool true],⟨A,false,[.arr 5 0 [exURo.av]]++(arB A.length 1 exUR++[.arr 5 0 [exURo.av]])⟩):=by
 have hN:=ZgB 8 4 (by omega) (by omega) A [.arr 5 0 [Ro.zero.av]]
 have h1:=ZgT (ZCk A [.arr 5 0 [Ro.zero.av]] [] (QZ 8 4)) (ZWf 8 4 (by omega) (by omega)) Xv exU (by decide) (by rw [Zjt];decide)
 rw [ZWe,Zjs] at h1
 change S Tb ZBa [.ptr A.length 6 0 0 0,.str exU] ⟨A,false,_⟩=some (_,⟨A,false,[.arr 5 0 [Ro.zero.av]]++(arB A.length 1 exUR++[])⟩) at h1
 refine ZBZ rfl ?_
 repeat' (first|refine ZE ?_|refine ZD ?_|refine ZG rfl ?_|refine QE rfl ?_|refine Zn rfl rfl rfl rfl ?_|refine Zt rfl rfl ?_|refine ZB rfl ?_|refine ZC ?_|(refine Zj rfl rfl (fun _=>?_) (fun _=>?_)<;>try (exfalso;omega))|refine ZH rfl ?_|refine Qb rfl rfl rfl rfl ?_|refine Zi rfl rfl rfl ?_|refine ZA rfl rfl rfl (hN) ?_|refine ZI ?_)
 all_goals try contradiction
 all_goals try (exfalso;omega)
 unfold exU at h1
 refine ZA rfl rfl rfl h1 ?_
 change Is _ _ _ _ _ _ ⟨A,false,[.arr 5 0 [Ro.zero.av],exUR.b0,exUR.b1,exUR.b2,exUR.b3 A.length 1,exUR.b4,exUR.b5 A.length 1]⟩
 generalize hb0:exUR.b0=b0 at *
 generalize hb1:exUR.b1=b1 at *
 generalize hb2:exUR.b2=b2 at *
 generalize hb3:exUR.b3 A.length 1=b3 at *
 generalize hb4:exUR.b4=b4 at *
 generalize hb5:exUR.b5 A.length 1=b5 at *
 repeat' (first|refine ZHf rfl rfl rfl rfl rfl rfl ?_|refine ZFP rfl rfl rfl rfl rfl rfl rfl ?_|refine ZE ?_|refine ZD ?_|refine ZG rfl ?_|refine ZJ rfl rfl ?_|refine ZU rfl rfl rfl rfl ?_|refine QE rfl ?_|refine Zn rfl rfl rfl rfl ?_|refine Zt rfl rfl ?_|refine ZB rfl ?_|refine ZC ?_|(refine Zp rfl rfl (fun _=>?_) (fun _=>?_)<;>try (exfalso;omega))|refine Zi rfl rfl rfl ?_|refine Zu rfl rfl rfl rfl rfl rfl ?_|refine ZS ?_|refine ZL ?_)
 all_goals first|exact absurd rfl ‹_›|(refine (ZmK (.inr rfl) rfl rfl rfl rfl rfl).trans ?_;subst hb0 hb1 hb2 hb3 hb4 hb5;rfl)
theorem exU_ok:AROk exUR∧GoodN exUR.nodes∧Rt exUR.nodes exURo exU:=by
 obtain ⟨b1,b2,b3⟩:=XW Xv (s:=exU) (by decide)
 have ho:=ZWf 8 4 (by omega) (by omega)
 obtain ⟨w1,w2⟩:=ZgS (r:=QZ 8 4) (ZCk [] [] [] _) ho Xv b1 (by rw [b3];decide) (by rw [Zjt];decide)
 rw [show (QZ 8 4).nodes=[] from rfl,b2,Zjs] at w2
 exact ⟨w1.ok,w1.good,w2⟩
theorem exU_edOk:EdOk exUR.nodes exURo exU 9 0 [120,121,122]:=⟨exU_ok.2.2,by decide,by decide,by decide,by decide,by decide⟩
theorem ZgY:nw (edV exUR.nodes exURo 9 0 [120,121,122])≤exUR.n:=by rw [ZnG];exact Zml
theorem Zju {st:St} {la b:Nat} {r:AR} (hA:Has st la b r) (ho:AROk r) (hg:GoodN r.nodes) {ro:Ro} {s0:List UInt8} {a:Int} {s:List UInt8} (h:EdOk r.nodes ro s0 a 0 s) (hn:nw (edV r.nodes ro a 0 s)≤r.n) :
 S Tb ZAR [.ptr la (b+5) 0 0 0,ro.av,.int .i64 a,.str s] st=some (.tup [Qn (wrV (edV r.nodes ro a 0 s) r).2.1 (wrV (edV r.nodes ro a 0 s) r).2.2 (slH (ZAA r.nodes [ro] (edV r.nodes ro a 0 s))),.int .i64 0],QJ st la b (wrV (edV r.nodes ro a 0 s) r).1):=by
 refine Xs rfl (fun A hA'=>?_)
 have hle:=hA.le
 have hCh:=fun L=>ZWi (hA.push hA' (ro:=false) (L:=L)) ho hg h hn
 simp only [Yw hA' hle] at hCh
 have hAl:A.length=((QJ st la b (wrV (edV r.nodes ro a 0 s) r).1).ps).length:=by rw [hA'];simp [ZDB]
 generalize (wrV (edV r.nodes ro a 0 s) r).2.1=r2 at *
 generalize (wrV (edV r.nodes ro a 0 s) r).2.2=fr at *
 generalize ZAA r.nodes [ro] (edV r.nodes ro a 0 s)=dd at *
 obtain ⟨A2,hA2⟩:∃ A2,A2=(QJ st la b (wrV (edV r.nodes ro a 0 s) r).1).ps:=⟨_,rfl⟩
 rw [← hA2] at hCh hAl
 obtain ⟨x1,x2,x3⟩:=r2
 unfold Ro.av at hCh ⊢
 by_cases hd:dd=[]
 ·subst hd
  rw [show slH []=.nils from rfl] at hCh ⊢
  unfold Qn at hCh
  repeat' (first|refine ZE ?_|refine ZD ?_|refine ZG rfl ?_|refine ZU rfl rfl rfl rfl ?_|refine Zt rfl rfl ?_|refine ZB rfl ?_|refine ZC ?_|refine Zi rfl rfl rfl ?_|refine ZA rfl rfl rfl (hCh _) ?_)
  rw [hAl]
  repeat' (first|refine ZG rfl ?_|refine ZB rfl ?_|refine ZC ?_|refine Zu rfl rfl rfl rfl rfl rfl ?_|refine ZS ?_|refine ZL ?_)
  all_goals try contradiction
  exact ZOn (w:=Qn ⟨x1,x2,x3⟩ fr .nils) hA2 (.inr rfl) rfl rfl rfl rfl rfl rfl
 ·rw [show slH dd=.lit (dd.map QB) from if_neg hd] at hCh ⊢
  unfold Qn at hCh
  repeat' (first|refine ZE ?_|refine ZD ?_|refine ZG rfl ?_|refine ZU rfl rfl rfl rfl ?_|refine Zt rfl rfl ?_|refine ZB rfl ?_|refine ZC ?_|refine Zi rfl rfl rfl ?_|refine ZA rfl rfl rfl (hCh _) ?_)
  rw [hAl]
  repeat' (first|refine ZG rfl ?_|refine ZB rfl ?_|refine ZC ?_|refine Zu rfl rfl rfl rfl rfl rfl ?_|refine ZS ?_|refine ZL ?_)
  all_goals try contradiction
  exact ZOn (w:=Qn ⟨x1,x2,x3⟩ fr (.lit (dd.map QB))) hA2 (.inr rfl) rfl rfl rfl rfl rfl rfl
theorem ZZ4 (st:St):S T3 JM [] st=some (.bool true,st):=by
 refine QF (le3 JM (.pf Y0) rfl) (fun A hA=>?_)
 obtain ⟨o1,o2,o3⟩:=exU_ok
 have hS:=up3 (Zhh A)
 obtain ⟨v1,v2,v3⟩:=exU_edOk.ok o2
 obtain ⟨w1,w2⟩:=ZgS (r:=exUR) (ZCk [] [] [] _) o1 o2 v1 (by rw [v2];decide) ZgY
 rw [v3] at w2
 have hI:=fun T=>up3 (Zju (ZCk A [.arr 5 0 [exURo.av]] T exUR) o1 o2 exU_edOk ZgY)
 simp only [ZWe] at hI
 generalize edV exUR.nodes exURo 9 0 [120,121,122]=t at *
 generalize ZAA exUR.nodes [exURo] t=dd at *
 have hT:=fun T=>Zdr w1.good (ZCk A [.arr 5 0 [exURo.av]] T (wrV t exUR).1).r.rd w2.rt (by rw [w2.leaves w1.good];decide)
 rw [w2.leaves w1.good] at hT
 generalize (wrV t exUR).2.2=fr at *
 generalize (wrV t exUR).2.1=r2 at *
 generalize (wrV t exUR).1=R2 at *
 change ∀ T,S T3 XS [.ptr A.length 6 0 0 0,r2.av] ⟨A,false,.arr 5 0 [exURo.av]::R2.b0::R2.b1::R2.b2::R2.b3 A.length 1::R2.b4::R2.b5 A.length 1::T⟩=some (_,⟨A,false,.arr 5 0 [exURo.av]::R2.b0::R2.b1::R2.b2::R2.b3 A.length 1::R2.b4::R2.b5 A.length 1::T⟩) at hT
 change ∀ T,S T3 ZAR [.ptr A.length 6 0 0 0,exURo.av,.int .i64 9,.str [120,121,122]] ⟨A,false,.arr 5 0 [exURo.av]::exUR.b0::exUR.b1::exUR.b2::exUR.b3 A.length 1::exUR.b4::exUR.b5 A.length 1::T⟩=some (_,⟨A,false,.arr 5 0 [exURo.av]::R2.b0::R2.b1::R2.b2::R2.b3 A.length 1::R2.b4::R2.b5 A.length 1::T⟩) at hI
 change S T3 J2 [] ⟨A,false,[]⟩=some (_,⟨A,false,.arr 5 0 [exURo.av]::exUR.b0::exUR.b1::exUR.b2::exUR.b3 A.length 1::exUR.b4::exUR.b5 A.length 1::[.arr 5 0 [exURo.av]]⟩) at hS
 generalize exUR.b0=b0 at *
 generalize exUR.b1=b1 at *
 generalize exUR.b2=b2 at *
 generalize exUR.b3 A.length 1=b3 at *
 generalize exUR.b4=b4 at *
 generalize exUR.b5 A.length 1=b5 at *
 generalize R2.b0=c0 at *
 generalize R2.b1=c1 at *
 generalize R2.b2=c2 at *
 generalize R2.b3 A.length 1=c3 at *
 generalize R2.b4=c4 at *
 generalize R2.b5 A.length 1=c5 at *
 obtain ⟨x1,x2,x3⟩:=r2
 unfold Qn at hI
 unfold exURo Ro.av at *
 unfold exU at hT
 by_cases hd:dd=[]
 ·subst hd
  rw [show slH []=.nils from rfl] at hI
  repeat' (first|refine ZE ?_|refine ZD ?_|refine ZG rfl ?_|refine ZJ rfl rfl ?_|refine ZU rfl rfl rfl rfl ?_|refine QE rfl ?_|refine Zn rfl rfl rfl rfl ?_|refine Zt rfl rfl ?_|refine ZB rfl ?_|refine ZC ?_|(refine Zp rfl rfl (fun _=>?_) (fun _=>?_)<;>try (exfalso;omega))|(refine YZ rfl rfl (fun _=>?_) (fun _=>?_)<;>try contradiction)|refine ZH rfl ?_|refine Jd rfl rfl ?_|refine Zi rfl rfl rfl ?_|refine Zu rfl rfl rfl rfl rfl rfl ?_|refine ZA rfl rfl rfl (hS) ?_|refine ZA rfl rfl rfl (hI _) ?_|refine ZA rfl rfl rfl (hT _) ?_|refine ZI ?_|refine ZS ?_|refine ZL ?_)
  all_goals try contradiction
  all_goals try (exfalso;omega)
  all_goals try exact absurd rfl ‹_›
  refine Zc hA (by first|exact .inl rfl|exact .inr rfl) rfl rfl rfl rfl ?_
  rfl
 ·rw [show slH dd=.lit (dd.map QB) from if_neg hd] at hI
  repeat' (first|refine ZE ?_|refine ZD ?_|refine ZG rfl ?_|refine ZJ rfl rfl ?_|refine ZU rfl rfl rfl rfl ?_|refine QE rfl ?_|refine Zn rfl rfl rfl rfl ?_|refine Zt rfl rfl ?_|refine ZB rfl ?_|refine ZC ?_|(refine Zp rfl rfl (fun _=>?_) (fun _=>?_)<;>try (exfalso;omega))|(refine YZ rfl rfl (fun _=>?_) (fun _=>?_)<;>try contradiction)|refine ZH rfl ?_|refine Jd rfl rfl ?_|refine Zi rfl rfl rfl ?_|refine Zu rfl rfl rfl rfl rfl rfl ?_|refine ZA rfl rfl rfl (hS) ?_|refine ZA rfl rfl rfl (hI _) ?_|refine ZA rfl rfl rfl (hT _) ?_|refine ZI ?_|refine ZS ?_|refine ZL ?_)
  all_goals try contradiction
  all_goals try (exfalso;omega)
  all_goals try exact absurd rfl ‹_›
  refine Zc hA (by first|exact .inl rfl|exact .inr rfl) rfl rfl rfl rfl ?_
  rfl
end Go.Q15
namespace Go.Q15
open Go Go.QAbs
set_option maxRecDepth 100000
set_option maxHeartbeats 16000000
def Zlk (texts:List (List UInt8)) (ys:List Ed):Prop:=Zdt texts∨ZgU ys∨12<ys.length
noncomputable instance (texts:List (List UInt8)) (ys:List Ed):Decidable (Zlk texts ys):=Classical.propDecidable _
theorem ZfT (x n:Int) (h0:0≤n) (h1:n<4611686018427387904) (st:St):S Tb Je [.int .i64 x,.int .i64 n] st=some (.int .i64 (ZL7 x n),st):=by
 refine QF rfl (fun A hA=>?_)
 have hP:=fun st=>Zmf x n h0 h1 st
 repeat' (first|refine ZE ?_|refine ZD ?_|refine ZG rfl ?_|refine ZB rfl ?_|refine ZC ?_|refine ZA rfl rfl rfl (hP _) ?_|refine ZS ?_|refine ZL ?_)
 refine Zc hA (by first|exact .inl rfl|exact .inr rfl) rfl rfl rfl rfl ?_
 rfl
end Go.Q15
namespace Go.Q15
open Go Go.QAbs
set_option maxRecDepth 100000
set_option maxHeartbeats 16000000
end Go.Q15
namespace Go.Q15
open Go Go.QAbs
set_option maxRecDepth 100000
set_option maxHeartbeats 16000000
end Go.Q15
namespace Go.Q15
open Go Go.QAbs
set_option maxRecDepth 100000
set_option maxHeartbeats 16000000
end Go.Q15
namespace Go.Q15
open Go Go.QAbs
set_option maxRecDepth 100000
set_option maxHeartbeats 16000000
theorem Zll (b:Nat) (st:St) (ro:Ro) (fr dd:List Nat):ZW QA b st (Qn ro fr (slH dd))=some (Qn ro fr (slH dd),st):=by
 unfold slH Qn
 split<;>rfl
theorem Zmm (y:AV) (ro:Ro) (fr dd:List Nat):(Q2 7 y 0 7 (Qn ro fr (slH dd))).bind Jw=some (Qn ro fr (slH dd)):=by
 unfold slH Qn
 split<;>rfl
end Go.Q15
namespace Go.Q15
open Go Go.QAbs
set_option maxRecDepth 100000
set_option maxHeartbeats 16000000
theorem Zmn {st:St} {la b:Nat} {r:AR} (hA:Has st la b r) (ho:AROk r) {ro:Ro} {fr dd:List Nat} (hnd:fr.Nodup) (hlv:∀ o∈fr,∃ x,lk r.nodes o=some x) (hlen:fr.length≤40000) :
 S Tb XT [.ptr la (b+5) 0 0 0,Qn ro fr (slH dd)] st=some (.int .i64 0,QJ st la b (ZBH r fr.reverse)):=by
 refine Xs rfl (fun A hA'=>?_)
 have hle:=hA.le
 have hwd:(Qn ro fr (slH dd)).wide=some 7:=by unfold Qn slH;split<;>rfl
 have hfc:Jw (Qn ro fr (slH dd))=some (Qn ro fr (slH dd)):=by unfold Qn slH;split<;>rfl
 have hp5:Qz (Qn ro fr (slH dd)) false 5 1=some (.lit (fr.map QB)):=rfl
 have hF:=ho.fok (l:=fr.reverse) (List.pairwise_reverse.2 (hnd.imp Ne.symm)) (fun o h=>hlv o (List.mem_reverse.1 h)) (by rw [List.length_reverse];exact hlen)
 generalize Qn ro fr (slH dd)=cv at *
 have hl0:fr.length<4294967296:=by omega
 repeat' (first|refine Z4 rfl hwd hfc ?_|refine ZU rfl rfl rfl hp5 ?_|refine X9 rfl ?_|refine ZE ?_|refine ZD ?_|refine ZG rfl ?_|refine ZJ rfl rfl ?_|refine ZB rfl ?_|refine ZC ?_|refine ZH rfl ?_|refine Qb rfl rfl rfl rfl ?_|refine ZBY rfl ?_|refine ZI ?_|refine ZO ?_)
 all_goals try contradiction
 refine Z0 (α:=Nat) (fun i=>[(0,.ptr la (b+5) 0 0 0),(3,.ptr A.length 0 0 0 0),(5,.map A.length 1),(16,.lit (fr.map QB)),(17,.int .i64 fr.length),(18,.int .i64 i)]) (fun i=>⟨A,false,[.arr 7 0 [cv],.map (JP (fr.take i))]⟩) (fun i=>i≤fr.length) (fun i=>fr.length-i) 0 rfl rfl (Nat.zero_le _) ?_
 intro i hi
 replace hi:i≤fr.length:=hi
 rcases Nat.lt_or_ge i fr.length with hlt|hge
 ·obtain ⟨o,ho'⟩:∃ x,fr[i]?=some x:=⟨fr[i]'hlt,List.getElem?_eq_getElem _⟩
  have q:0≤((i:Nat):Int)∧fr[((i:Nat):Int).toNat]?=some o:=⟨by omega,by rw [show ((i:Nat):Int).toNat=i by omega];exact ho'⟩
  have hm:o∉fr.take i:=by
   intro hm
   obtain ⟨j,hj⟩:=List.mem_iff_getElem?.1 hm
   rw [List.getElem?_take] at hj
   split at hj
   ·rename_i hji
    have hne:=List.pairwise_iff_getElem.1 hnd j i (by omega) hlt hji
    rw [List.getElem?_eq_getElem (by omega)] at hj ho'
    exact hne ((Option.some.inj hj).trans (Option.some.inj ho').symm)
   ·simp at hj
  have hlk:=ZCj (st:=⟨A,false,[.arr 7 0 [cv],.map (JP (fr.take i))]⟩) (lv:=A.length) (mx:=1) (St.get_cur ..) o
  rw [decide_eq_false hm] at hlk
  have hpe:=ZHh o (fr.take i) hm
  rw [← Zg ho'] at hpe
  repeat' (first|refine Js (f:=QB) rfl rfl q (fun _=>rfl) ?_|refine ZE ?_|refine ZD ?_|refine ZG rfl ?_|refine ZB rfl ?_|refine ZC ?_|refine QS rfl rfl ?_|(refine Zk rfl rfl (fun _=>?_) (fun _=>?_)<;>try (exfalso;omega))|refine ZV rfl ?_|refine ZH rfl ?_|refine Yr rfl rfl hlk ?_|refine ZI ?_|refine ZO ?_)
  all_goals try contradiction
  all_goals try (exfalso;omega)
  refine ZMB rfl rfl rfl rfl rfl hpe ?_
  repeat' (first|refine ZD ?_|refine ZG rfl ?_|refine ZB rfl ?_|refine ZC ?_|refine Zo rfl rfl (by omega) ?_|refine Z5 ?_|refine QC ?_)
  exact ⟨i+1,⟨rfl,rfl⟩,by omega,by omega⟩
 obtain rfl:i=fr.length:=by omega
 rw [List.take_length]
 repeat' (first|refine ZU rfl rfl rfl hp5 ?_|refine X9 rfl ?_|refine ZE ?_|refine ZD ?_|refine ZG rfl ?_|refine ZJ rfl rfl ?_|refine ZB rfl ?_|refine ZC ?_|(refine Zk rfl rfl (fun _=>?_) (fun _=>?_)<;>try (exfalso;omega))|refine ZH rfl ?_|refine Zx ?_|refine ZO ?_|refine Zh ?_|refine Zd rfl ?_|refine Zq ?_)
 all_goals try contradiction
 all_goals try (exfalso;omega)
 refine Z0 (α:=Nat) (fun i=>[(0,.ptr la (b+5) 0 0 0),(3,.ptr A.length 0 0 0 0),(29,.lit (fr.map QB)),(30,.int .i64 fr.length),(31,.int .i64 i)]) (fun i=>⟨A,false,[.arr 7 0 [cv],.map (JP fr)]⟩) (fun i=>i≤fr.length) (fun i=>fr.length-i) 0 rfl rfl (Nat.zero_le _) ?_
 intro i hi
 replace hi:i≤fr.length:=hi
 rcases Nat.lt_or_ge i fr.length with hlt|hge
 ·obtain ⟨o,ho'⟩:∃ x,fr[i]?=some x:=⟨fr[i]'hlt,List.getElem?_eq_getElem _⟩
  have q:0≤((i:Nat):Int)∧fr[((i:Nat):Int).toNat]?=some o:=⟨by omega,by rw [show ((i:Nat):Int).toNat=i by omega];exact ho'⟩
  obtain ⟨y,hy⟩:=hlv o (List.mem_of_getElem? ho')
  obtain ⟨hv,h64⟩:=ho.live hy
  have hLv:=Zja (hA.push hA' (ro:=false) (L:=[.arr 7 0 [cv],.map (JP fr)])).r ho.gl o h64
  rw [decide_eq_true hv] at hLv
  repeat' (first|refine Js (f:=QB) rfl rfl q (fun _=>rfl) ?_|refine ZE ?_|refine ZD ?_|refine ZG rfl ?_|refine ZB rfl ?_|refine ZC ?_|refine QS rfl rfl ?_|(refine Zk rfl rfl (fun _=>?_) (fun _=>?_)<;>try (exfalso;omega))|refine ZV rfl ?_|refine ZH rfl ?_|refine Jd rfl rfl ?_|refine Zo rfl rfl (by omega) ?_|refine ZA rfl rfl rfl (hLv) ?_|refine ZI ?_|refine ZO ?_|refine Z5 ?_|refine QC ?_)
  all_goals try contradiction
  all_goals try (exfalso;omega)
  exact ⟨i+1,⟨rfl,rfl⟩,by omega,by omega⟩
 obtain rfl:i=fr.length:=by omega
 repeat' (first|refine ZU rfl rfl rfl hp5 ?_|refine X9 rfl ?_|refine ZE ?_|refine ZD ?_|refine ZG rfl ?_|refine ZJ rfl rfl ?_|refine ZB rfl ?_|refine ZC ?_|(refine Zk rfl rfl (fun _=>?_) (fun _=>?_)<;>try (exfalso;omega))|refine ZH rfl ?_|refine Jy rfl rfl (by omega) ?_|refine Zx ?_|refine ZO ?_|refine Zh ?_|refine Zd rfl ?_|refine Zq ?_)
 all_goals try contradiction
 all_goals try (exfalso;omega)
 have hlr:fr.reverse.length=fr.length:=List.length_reverse
 refine Z0 (α:=Nat) (fun i=>[(0,.ptr la (b+5) 0 0 0),(3,.ptr A.length 0 0 0 0),(10,.int .i64 ((fr.length:Int)-1-i))]) (fun i=>⟨(QJ st la b (ZBH r (fr.reverse.take i))).ps,false,[.arr 7 0 [cv],.map (JP fr)]⟩) (fun i=>i≤fr.length) (fun i=>fr.length-i) 0 ?_ ?_ (Nat.zero_le _) ?_
 ·simp
 ·rw [List.take_zero]
  show _=(⟨(QJ st la b r).ps,false,_⟩:St)
  rw [hA.same,hA']
 intro i hi
 replace hi:i≤fr.length:=hi
 have hAl:((QJ st la b (ZBH r (fr.reverse.take i))).ps).length=A.length:=by rw [hA'];simp [St.ps,ZDB]
 rcases Nat.lt_or_ge i fr.length with hlt|hge
 ·obtain ⟨o,ho'⟩:∃ x,fr.reverse[i]?=some x:=⟨fr.reverse[i]'(by omega),List.getElem?_eq_getElem _⟩
  have hof:fr[fr.length-1-i]?=some o:=by rw [← ho',List.getElem?_reverse hlt]
  obtain ⟨f1,_,_,_⟩:=FOk.dels (l:=fr.reverse.take i) (l2:=fr.reverse.drop i) (r:=r) (by rw [List.take_append_drop];exact hF)
  have hmem:o∈fr.reverse.drop i:=by rw [Zhd ho'];simp
  obtain ⟨g1,g2,_⟩:=f1.live o hmem
  have hfl:(fr.reverse.drop i).length=fr.length-i:=by simp
  have g3:=f1.nn
  have g4:=f1.fr
  have g5:=f1.most
  have hP:=hA.put (ZBH r (fr.reverse.take i))
  have hFr:=Zlg (hP.push (ro:=false) (L:=[.arr 7 0 [cv],.map (JP fr)]) rfl) f1.gl f1.nb (by omega) g1 g2 g5 (by omega)
  rw [Yw rfl hP.le,ZOg,← ZZz,← Zg ho'] at hFr
  have q:0≤(fr.length:Int)-1-i∧fr[((fr.length:Int)-1-i).toNat]?=some o:=⟨by omega,by rw [show ((fr.length:Int)-1-i).toNat=fr.length-1-i by omega];exact hof⟩
  generalize QJ st la b (ZBH r (fr.reverse.take i))=s1 at *
  rw [← hAl]
  repeat' (first|refine ZU rfl rfl rfl hp5 ?_|refine Js (f:=QB) rfl rfl q (fun _=>rfl) ?_|refine ZE ?_|refine ZD ?_|refine ZG rfl ?_|refine ZJ rfl rfl ?_|refine ZB rfl ?_|refine ZC ?_|refine QS rfl rfl ?_|(refine YI rfl rfl (fun _=>?_) (fun _=>?_)<;>try (exfalso;omega))|(refine Zj rfl rfl (fun _=>?_) (fun _=>?_)<;>try (exfalso;omega))|refine ZV rfl ?_|refine ZH rfl ?_|refine Jy rfl rfl (by omega) ?_|refine ZA rfl rfl rfl (hFr) ?_|refine ZI ?_|refine ZO ?_|refine Z5 ?_|refine QC ?_)
  all_goals try contradiction
  all_goals try (exfalso;omega)
  refine ⟨i+1,⟨?_,rfl⟩,by omega,by omega⟩
  rw [show (fr.length:Int)-1-i-1=(fr.length:Int)-1-((i+1:Nat):Int) by omega]
 obtain rfl:i=fr.length:=by omega
 rw [show fr.reverse.take fr.length=fr.reverse by rw [← hlr,List.take_length]]
 repeat' (first|refine ZE ?_|refine ZD ?_|refine ZG rfl ?_|refine ZB rfl ?_|refine ZC ?_|(refine YI rfl rfl (fun _=>?_) (fun _=>?_)<;>try (exfalso;omega))|refine ZH rfl ?_|refine ZS ?_|refine Zx ?_|refine ZL ?_|refine Zh ?_|refine Zd rfl ?_|refine Zq ?_)
 all_goals try contradiction
 all_goals try (exfalso;omega)
 refine Zc rfl (.inr rfl) rfl rfl rfl rfl ?_
 rfl
theorem ZfU {st:St} {la b:Nat} {r:AR} (hR:HasR st la b r) (hgl:r.gens.length=r.states.length) {ro:Ro} {fr dd:List Nat} (hnd:fr.Nodup) (h0:0<fr.length) (hdd:∀ o∈fr,ZZy r o∧o<18446744073709551616) (hlen:fr.length≤40000) :
 S Tb XT [.ptr la (b+5) 0 0 0,Qn ro fr (slH dd)] st=some (.int .i64 10,st):=by
 refine QF rfl (fun A hA=>?_)
 have hwd:(Qn ro fr (slH dd)).wide=some 7:=by unfold Qn slH;split<;>rfl
 have hfc:Jw (Qn ro fr (slH dd))=some (Qn ro fr (slH dd)):=by unfold Qn slH;split<;>rfl
 have hp5:Qz (Qn ro fr (slH dd)) false 5 1=some (.lit (fr.map QB)):=rfl
 generalize Qn ro fr (slH dd)=cv at *
 have hl0:fr.length<4294967296:=by omega
 repeat' (first|refine Z4 rfl hwd hfc ?_|refine ZU rfl rfl rfl hp5 ?_|refine X9 rfl ?_|refine ZE ?_|refine ZD ?_|refine ZG rfl ?_|refine ZJ rfl rfl ?_|refine ZB rfl ?_|refine ZC ?_|refine ZH rfl ?_|refine Qb rfl rfl rfl rfl ?_|refine ZBY rfl ?_|refine ZI ?_|refine ZO ?_)
 all_goals try contradiction
 refine Z0 (α:=Nat) (fun i=>[(0,.ptr la (b+5) 0 0 0),(3,.ptr A.length 0 0 0 0),(5,.map A.length 1),(16,.lit (fr.map QB)),(17,.int .i64 fr.length),(18,.int .i64 i)]) (fun i=>⟨A,false,[.arr 7 0 [cv],.map (JP (fr.take i))]⟩) (fun i=>i≤fr.length) (fun i=>fr.length-i) 0 rfl rfl (Nat.zero_le _) ?_
 intro i hi
 replace hi:i≤fr.length:=hi
 rcases Nat.lt_or_ge i fr.length with hlt|hge
 ·obtain ⟨o,ho'⟩:∃ x,fr[i]?=some x:=⟨fr[i]'hlt,List.getElem?_eq_getElem _⟩
  have q:0≤((i:Nat):Int)∧fr[((i:Nat):Int).toNat]?=some o:=⟨by omega,by rw [show ((i:Nat):Int).toNat=i by omega];exact ho'⟩
  have hm:o∉fr.take i:=by
   intro hm
   obtain ⟨j,hj⟩:=List.mem_iff_getElem?.1 hm
   rw [List.getElem?_take] at hj
   split at hj
   ·rename_i hji
    have hne:=List.pairwise_iff_getElem.1 hnd j i (by omega) hlt hji
    rw [List.getElem?_eq_getElem (by omega)] at hj ho'
    exact hne ((Option.some.inj hj).trans (Option.some.inj ho').symm)
   ·simp at hj
  have hlk:=ZCj (st:=⟨A,false,[.arr 7 0 [cv],.map (JP (fr.take i))]⟩) (lv:=A.length) (mx:=1) (St.get_cur ..) o
  rw [decide_eq_false hm] at hlk
  have hpe:=ZHh o (fr.take i) hm
  rw [← Zg ho'] at hpe
  repeat' (first|refine Js (f:=QB) rfl rfl q (fun _=>rfl) ?_|refine ZE ?_|refine ZD ?_|refine ZG rfl ?_|refine ZB rfl ?_|refine ZC ?_|refine QS rfl rfl ?_|(refine Zk rfl rfl (fun _=>?_) (fun _=>?_)<;>try (exfalso;omega))|refine ZV rfl ?_|refine ZH rfl ?_|refine Yr rfl rfl hlk ?_|refine ZI ?_|refine ZO ?_)
  all_goals try contradiction
  all_goals try (exfalso;omega)
  refine ZMB rfl rfl rfl rfl rfl hpe ?_
  repeat' (first|refine ZD ?_|refine ZG rfl ?_|refine ZB rfl ?_|refine ZC ?_|refine Zo rfl rfl (by omega) ?_|refine Z5 ?_|refine QC ?_)
  exact ⟨i+1,⟨rfl,rfl⟩,by omega,by omega⟩
 obtain rfl:i=fr.length:=by omega
 rw [List.take_length]
 repeat' (first|refine ZU rfl rfl rfl hp5 ?_|refine X9 rfl ?_|refine ZE ?_|refine ZD ?_|refine ZG rfl ?_|refine ZJ rfl rfl ?_|refine ZB rfl ?_|refine ZC ?_|(refine Zk rfl rfl (fun _=>?_) (fun _=>?_)<;>try (exfalso;omega))|refine ZH rfl ?_|refine Zx ?_|refine ZO ?_|refine Zh ?_|refine Zd rfl ?_|refine Zq ?_)
 all_goals try contradiction
 all_goals try (exfalso;omega)
 refine Z0 (α:=Nat) (fun i=>[(0,.ptr la (b+5) 0 0 0),(3,.ptr A.length 0 0 0 0),(29,.lit (fr.map QB)),(30,.int .i64 fr.length),(31,.int .i64 0)]) (fun i=>⟨A,false,[.arr 7 0 [cv],.map (JP fr)]⟩) (fun i=>True) (fun i=>0) 0 rfl rfl trivial ?_
 intro i _
 obtain ⟨o,ho'⟩:∃ x,fr[0]?=some x:=⟨fr[0]'h0,List.getElem?_eq_getElem _⟩
 have q:0≤(0:Int)∧fr[(0:Int).toNat]?=some o:=⟨by omega,ho'⟩
 obtain ⟨hdo,h64⟩:=hdd o (List.mem_of_getElem? ho')
 have hLv:=Zja (hR.push hA (ro:=false) (L:=[.arr 7 0 [cv],.map (JP fr)])) hgl o h64
 rw [decide_eq_false (fun w:ZAo r o=>hdo w.2.1)] at hLv
 repeat' (first|refine Js (f:=QB) rfl rfl q (fun _=>rfl) ?_|refine ZE ?_|refine ZD ?_|refine ZG rfl ?_|refine ZB rfl ?_|refine ZC ?_|refine QS rfl rfl ?_|(refine Zk rfl rfl (fun _=>?_) (fun _=>?_)<;>try (exfalso;omega))|refine ZV rfl ?_|refine Jd rfl rfl ?_|refine ZA rfl rfl rfl (hLv) ?_|refine ZI ?_|refine ZS ?_|refine ZO ?_|refine ZL ?_|refine ZZ ?_|refine Qu ?_|refine ZS1 ?_)
 all_goals try contradiction
 all_goals try (exfalso;omega)
 refine Zc hA (by first|exact .inl rfl|exact .inr rfl) rfl rfl rfl rfl ?_
 rfl
end Go.Q15
namespace Go.Q15
open Go Go.QAbs
set_option maxRecDepth 100000
set_option maxHeartbeats 1000000
def hdW (o h:Nat) (s:List UInt8) (j:Nat):Nat:=if o=0∧h=j∧¬(h=0∧s=[]) then 1 else 0
namespace Tr
mutual
def wat (j:Nat):Tr→Nat
 | .mk o h _ s k=>hdW o h s j+watO j k
def watO (j:Nat):Option (List Tr)→Nat
 | none=>0
 | some l=>watL j l
def watL (j:Nat):List Tr→Nat
 | []=>0
 | t::l=>t.wat j+watL j l
end
theorem watL_append (j:Nat):∀ a b,watL j (a++b)=watL j a+watL j b
 | [],b=>by simp [watL]
 | t::a,b=>by rw [lC,watL,watL,watL_append j a b];omega
theorem watO_getD (j:Nat) (k:Option (List Tr)):watO j k=watL j (k.getD []):=by cases k<;>rfl
end Tr
theorem ZHL (o h:Nat) (s:List UInt8) (j:Nat):hdW o h s j≤1∧(h≠j→hdW o h s j=0):=by
 unfold hdW
 split
 ·rename_i q;exact ⟨by omega,fun w=>absurd q.2.1 w⟩
 ·exact ⟨by omega,fun _=>rfl⟩
theorem ZHM {o h:Nat} {s:List UInt8} {j:Nat} (h0:o≠0):hdW o h s j=0:=by
 unfold hdW;rw [if_neg (fun q=>h0 q.1)]
theorem Zjv {o j:Nat}:hdW o 0 [] j=0:=by
 unfold hdW;rw [if_neg (fun q=>q.2.2 ⟨rfl,rfl⟩)]
theorem ZOo {t:Tr} (h:IsEmpty t) (j:Nat):t.wat j=0:=by
 obtain ⟨o,h',m,s,k⟩:=t
 obtain ⟨h1,h2,h3,h4,h5⟩:=h
 simp only [Tr.old,Tr.h,Tr.m,Tr.text,Tr.ks] at *
 subst h2 h4
 rw [Tr.wat,Tr.watO_getD,h5,Zjv];rfl
theorem ZD5 (j:Nat):Tr.zero.wat j=0:=ZOo zero_empty j
theorem Zd4 (s:List UInt8) (j:Nat):(JO s).wat j≤1:=by
 rw [JO,Tr.wat,Tr.watO]
 have:=(ZHL 0 0 s j).1;omega
theorem ZHj {j:Nat}:∀ {l:List Tr},(∀ t∈l,t.wat j=0)→Tr.watL j l=0
 | [],_=>rfl
 | t::l,h=>by rw [Tr.watL,h t (by simp),ZHj (l:=l) (fun u hu=>h u (by simp [hu]))]
theorem ZWm {j:Nat}:∀ {l:List Tr},(∀ t∈l,t.wat j≤1)→Tr.watL j l≤l.length
 | [],_=>Nat.le_refl _
 | t::l,h=>by
  have h1:=h t (by simp)
  have h2:=ZWm (l:=l) (fun u hu=>h u (by simp [hu]))
  rw [Tr.watL,List.length_cons];omega
theorem Zjw {N:ZP} {t:Tr} (hv:Val N t):∀ j,t.h<j→t.wat j=0:=by
 induction hv with
 | kept h0 hx hok hh hm hk=>intro j _;rw [Tr.wat,Tr.watO_getD,hk,ZHM h0];rfl
 | leaf h1 h2 hk=>intro j hj;simp only [Tr.h] at hj;rw [Tr.wat,Tr.watO_getD,hk,(ZHL _ _ _ _).2 (by omega)];rfl
 | inner hh h2 h4 hl hb hv ih =>
  intro j hj
  simp only [Tr.h] at hj
  rw [Tr.wat,Tr.watO,(ZHL _ _ _ _).2 (by omega),ZHj fun u hu=>ih u hu j (by rw [hl u hu];omega)]
theorem Zlm {N:ZP} {t:Tr} (hv:Val N t):t.wat t.h≤1:=by
 cases hv with
 | kept h0 hx hok hh hm hk=>rw [Tr.wat,Tr.watO_getD,hk,ZHM h0];simp [Tr.watL]
 | leaf h1 h2 hk=>rw [Tr.wat,Tr.watO_getD,hk];have:=(ZHL 0 0 ‹List UInt8› 0).1;simp only [Tr.h,Option.getD_none,Tr.watL];omega
 | inner hh h2 h4 hl hb hv =>
  rename_i h l
  show Tr.wat (h+1) _≤1
  rw [Tr.wat,Tr.watO,ZHj fun u hu=>Zjw (hv u hu) (h+1) (by rw [hl u hu];omega)]
  exact (ZHL _ _ _ _).1
theorem VE.wat {N:ZP} {t:Tr} (hv:VE N t) {j:Nat} (hj:t.h≤j):t.wat j≤1∧(t.h<j→t.wat j=0):=by
 rcases hv with h|h
 ·rw [ZOo h];exact ⟨by omega,fun _=>rfl⟩
 ·rcases Nat.lt_or_ge t.h j with q|q
  ·rw [Zjw h j q];exact ⟨by omega,fun _=>rfl⟩
  ·obtain rfl:j=t.h:=by omega
   exact ⟨Zlm h,fun w=>by omega⟩
theorem ZB0 {N:ZP} (hN:GoodN N) {t:Tr} (hv:Val N t) (hgt:1≤t.h) (j:Nat):Tr.watL j (Zy N t)≤t.wat j:=by
 cases hv with
 | kept h0 hx hok hh hm hk =>
  rename_i o h m k x
  have hg:=(hN o x hx).2
  simp only [Zy,if_neg h0,hx]
  have:Tr.watL j (x.ks.map (Yv (x.h-1)))=0:=ZHj fun u hu=>by
   obtain ⟨kd,hkd,rfl⟩:=List.mem_map.1 hu
   rw [Yv,Tr.wat,ZHM (hg kd hkd).1];rfl
  omega
 | leaf h1 h2 hk=>simp [Tr.h] at hgt
 | inner hh h2 h4 hl hb hv =>
  rename_i h l
  show Tr.watL j l≤_
  rw [Tr.wat,Tr.watO];omega
theorem ZCl {N:ZP} {l:List Tr} {h j:Nat} (hj:j≠h+1) (hl:∀ t∈l,t.h=h):(grp l).wat j≤Tr.watL j l:=by
 match l,hl with
 | [],_=>rw [grp,ZD5];omega
 | [t],_=>rw [grp,Tr.watL];omega
 | t::u::r,hl =>
  rw [ZFJ (by simp),Tr.wat,Tr.watO]
  have he:Tr.hs (t::u::r)=h:=hl t (by simp)
  rw [he,(ZHL _ _ _ _).2 (by omega)];omega
theorem ZZ5 {N:ZP} {l:List Tr} {h j:Nat} (hj:j≠h+1) (hl:∀ t∈l,t.h=h):Tr.watL j (ZBy l)≤Tr.watL j l:=by
 unfold ZBy
 split
 ·have:=ZCl (N:=N) hj hl
  rw [Tr.watL,Tr.watL];omega
 ·have h1:=ZCl (N:=N) (l:=l.take ((l.length+1) / 2)) hj (fun t ht=>hl t (List.mem_of_mem_take ht))
  have h2:=ZCl (N:=N) (l:=l.drop ((l.length+1) / 2)) hj (fun t ht=>hl t (List.mem_of_mem_drop ht))
  have h3:Tr.watL j l=Tr.watL j (l.take ((l.length+1) / 2))+Tr.watL j (l.drop ((l.length+1) / 2)):=by rw [← Tr.watL_append,List.take_append_drop]
  rw [Tr.watL,Tr.watL,Tr.watL];omega
structure MW3 (x y:Tr) (j w:Nat):Prop where
 lo:j<min x.h y.h→w≤x.wat j+y.wat j
 l:y.h≤x.h→y.h≤j→w≤x.wat j+2
 r:x.h≤y.h→x.h≤j→w≤y.wat j+2
theorem ZfV {N:ZP} (hN:GoodN N) (j:Nat):∀ n x y,Val N x→Val N y→x.h+y.h=n→MW3 x y j (Tr.watL j (Qd N n x y))∧(max x.h y.h≤j→Tr.watL j (Qd N n x y)≤2):=by
 intro n
 induction n with
 | zero =>
  intro x y hx hy hn
  have hm:=JH hN 0 x y hx hy hn.symm
  generalize Qd N 0 x y=r at *
  have h2:Tr.watL j r≤2:=by
   have:=ZWm (j:=j) (l:=r) (fun t ht=>((show VE N t from .inr (hm.val t ht)).wat (by rw [hm.h t ht];omega)).1)
   rcases hm.len with w|w<;>omega
  exact ⟨⟨fun q=>by omega,fun _ _=>by omega,fun _ _=>by omega⟩,fun _=>h2⟩
 | succ n ih =>
  intro x y hx hy hn
  have hm:=JH hN (n+1) x y hx hy hn.symm
  have h2:max x.h y.h≤j→Tr.watL j (Qd N (n+1) x y)≤2:=by
   intro hj
   have:=ZWm (j:=j) (l:=Qd N (n+1) x y) (fun t ht=>((show VE N t from .inr (hm.val t ht)).wat (by rw [hm.h t ht];omega)).1)
   rcases hm.len with w|w<;>omega
  refine ⟨?_,h2⟩
  rcases Nat.lt_or_ge j (max x.h y.h) with hj|hj
  case inr =>
   have:=h2 hj
   exact ⟨fun q=>by omega,fun _ _=>by omega,fun _ _=>by omega⟩
  clear h2 hm
  rw [Qd]
  split
  ·rename_i he
   have w1:=ZB0 hN hx (by omega) j
   have w2:=ZB0 hN hy (by omega) j
   obtain ⟨c1,_⟩:=Qm hN hx (by omega)
   obtain ⟨d1,_⟩:=Qm hN hy (by omega)
   refine ⟨fun q=>?_,fun _ q=>by omega,fun _ q=>by omega⟩
   split
   ·have := ZCl (N := N) (l := Zy N x ++ Zy N y) (h := x.h - 1) (j := j) (by omega) (fun t ht => by
     rcases List.mem_append.1 ht with w|w
     ·have:=(c1 t w).2.1;omega
     ·have:=(d1 t w).2.1;omega)
    rw [Tr.watL_append] at this
    rw [Tr.watL,Tr.watL];omega
   ·rw [Tr.watL,Tr.watL,Tr.watL];omega
  ·split
   ·rename_i he hlt
    have w1:=ZB0 hN hx (by omega) j
    obtain ⟨c1,c2,c3,c4⟩:=Qm hN hx (by omega)
    generalize Zy N x=l at *
    have hs:=ZFN (l:=l) (z:=Tr.zero) (by omega)
    have hum:l[l.length-1]?.getD Tr.zero∈l:=by rw [List.getElem?_eq_getElem (by omega)];simp
    generalize l[l.length-1]?.getD Tr.zero=u at *
    obtain ⟨u1,u2,u3⟩:=c1 u hum
    have hm:=JH hN n u y u1 hy (by omega)
    obtain ⟨hi,_⟩:=ih u y u1 hy (by omega)
    generalize Qd N n u y=r at *
    have hf:=ZZ5 (N:=N) (l:=l.take (l.length-1)++r) (h:=x.h-1) (j:=j) (by omega) (fun t ht=>by
     rcases List.mem_append.1 ht with w|w
     ·have:=(c1 t (List.mem_of_mem_take w)).2.1;omega
     ·rw [hm.h t w];omega)
    have hsum:Tr.watL j l=Tr.watL j (l.take (l.length-1))+u.wat j:=by
     conv=>lhs;rw [hs]
     rw [Tr.watL_append,Tr.watL,Tr.watL];omega
    rw [Tr.watL_append] at hf
    refine ⟨fun q=>?_,fun _ q=>?_,fun q _=>by omega⟩
    ·have:=hi.lo (by omega);omega
    ·have:=hi.l (by omega) q;omega
   ·rename_i he hlt
    have w1:=ZB0 hN hy (by omega) j
    obtain ⟨c1,c2,c3,c4⟩:=Qm hN hy (by omega)
    generalize Zy N y=l at *
    have hs:=ZWL (l:=l) (z:=Tr.zero) (by omega)
    have hum:l[0]?.getD Tr.zero∈l:=by rw [List.getElem?_eq_getElem (by omega)];simp
    generalize l[0]?.getD Tr.zero=u at *
    obtain ⟨u1,u2,u3⟩:=c1 u hum
    have hm:=JH hN n x u hx u1 (by omega)
    obtain ⟨hi,_⟩:=ih x u hx u1 (by omega)
    generalize Qd N n x u=r at *
    have hf:=ZZ5 (N:=N) (l:=r++l.drop 1) (h:=y.h-1) (j:=j) (by omega) (fun t ht=>by
     rcases List.mem_append.1 ht with w|w
     ·rw [hm.h t w];omega
     ·have:=(c1 t (List.mem_of_mem_drop w)).2.1;omega)
    have hsum:Tr.watL j l=u.wat j+Tr.watL j (l.drop 1):=by
     conv=>lhs;rw [hs]
     rw [Tr.watL_append,Tr.watL,Tr.watL];omega
    rw [Tr.watL_append] at hf
    refine ⟨fun q=>?_,fun q _=>by omega,fun _ q=>?_⟩
    ·have:=hi.lo (by omega);omega
    ·have:=hi.r (by omega) q;omega
structure CW3 (x y:Tr) (j w:Nat):Prop where
 lo:(x.bytes=0∨y.bytes=0∨j<min x.h y.h)→w≤x.wat j+y.wat j
 l:x.bytes≠0→y.h≤x.h→y.h≤j→j≤x.h→w≤x.wat j+2
 r:y.bytes≠0→x.h≤y.h→x.h≤j→j≤y.h→w≤y.wat j+2
 any:w≤x.wat j+y.wat j+2
 hi:max x.h y.h≤j→w≤2
theorem ZHk {N:ZP} (hN:GoodN N) (j:Nat) {x y:Tr} (hx:VE N x) (hy:VE N y) (hb:x.bytes+y.bytes≤65536):CW3 x y j ((Yy N x y).wat j):=by
 have hc:=Y8 hN hx hy hb
 have tx:=hx.wat (j:=j)
 have ty:=hy.wat (j:=j)
 have tz:=hc.ve.wat (j:=j)
 have hh:=hc.h
 revert tz hh
 unfold Yy
 split
 ·rename_i h
  intro tz hh
  refine ⟨fun _=>by omega,fun q=>absurd h q,fun _ _ _ _=>by omega,by omega,fun q=>?_⟩
  have:=(ty (by omega)).1;omega
 ·rename_i h
  split
  ·rename_i h2
   intro tz hh
   refine ⟨fun _=>by omega,fun _ _ _ _=>by omega,fun q=>absurd h2 q,by omega,fun q=>?_⟩
   have:=(tx (by omega)).1;omega
  ·rename_i h2
   have vx:=hx.val h
   have vy:=hy.val h2
   have hm:=JH hN _ x y vx vy rfl
   obtain ⟨hw,hw2⟩:=ZfV hN j _ x y vx vy rfl
   generalize Qd N (x.h+y.h) x y=r at *
   intro tz hh
   have hg:j≠max x.h y.h+1→(grp r).wat j≤Tr.watL j r:=fun q=>ZCl (N:=N) q hm.h
   have h2':max x.h y.h≤j→(grp r).wat j≤2:=by
    intro q
    rcases Nat.eq_or_lt_of_le q with w|w
    ·have:=hg (by omega);have:=hw2 (by omega);omega
    ·have:=(tz (by omega)).1;omega
   have ha:(grp r).wat j≤x.wat j+y.wat j+2:=by
    rcases Nat.lt_or_ge j (max x.h y.h) with q|q
    ·have:=hg (by omega)
     rcases Nat.lt_or_ge j (min x.h y.h) with w|w
     ·have:=hw.lo w;omega
     ·rcases Nat.le_total x.h y.h with z|z
      ·have:=hw.r z (by omega);omega
      ·have:=hw.l z (by omega);omega
    ·have:=h2' q;omega
   refine ⟨fun q=>?_,fun _ a b c=>?_,fun _ a b c=>?_,ha,h2'⟩
   ·have:=hg (by omega);have:=hw.lo (by omega);omega
   ·have:=hg (by omega);have:=hw.l a b;omega
   ·have:=hg (by omega);have:=hw.r a b;omega
theorem ZgZ {N:ZP} {l:List Tr} {h:Nat} (h0:(grp l).bytes≠0) (hl:∀ t∈l,t.h=h):h≤(grp l).h:=by
 match l,hl,h0 with
 | [],_,h0=>exact absurd (zero_empty.bytes) h0
 | [t],hl,_=>rw [grp,hl t (by simp)];omega
 | t::u::r,hl,_ =>
  rw [ZFJ (by simp)]
  have he:Tr.hs (t::u::r)=h:=hl t (by simp)
  simp only [Tr.h,he];omega
theorem Zd5 {N:ZP} (hN:GoodN N) (j:Nat):∀ n t a,VE N t→t.h=n→0≤a→a≤t.bytes→t.bytes≤65536→(Y9 N n t a).1.wat j≤t.wat j+2∧(Y9 N n t a).2.wat j≤t.wat j+2:=by
 intro n
 induction n with
 | zero =>
  intro t a ht hh h0 h1 hb
  rw [Y9]
  split
  ·simp only [ZD5];omega
  ·split
   ·simp only [ZD5];omega
   ·have e1:=Zd4 ((QW N t).take a.toNat) j
    have e2:=Zd4 ((QW N t).drop a.toNat) j
    simp only;omega
 | succ n ih =>
  intro t a ht hh h0 h1 hb
  have hco:=ZBF hN (n+1) t a ht hh h0 h1 hb
  rcases Nat.lt_or_ge n j with hj|hj
  ·have p1:=(hco.l.wat (j:=j) (by have:=hco.lh;omega)).1
   have p2:=(hco.r.wat (j:=j) (by have:=hco.rh;omega)).1
   omega
  clear hco
  rw [Y9]
  split
  ·simp only [ZD5];omega
  ·split
   ·simp only [ZD5];omega
   ·rename_i q1 q2
    have vt:=ht.val (by omega)
    have h16:=vt.h16
    have hwc:=ZB0 hN vt (by omega) j
    obtain ⟨c1,c2,c3,c4⟩:=Qm hN vt (by omega)
    generalize Zy N t=l at *
    obtain ⟨s1,s2,s3,s4⟩:=ZLu l a (by omega) (fun u hu=>by have:=(c1 u hu).1.pos.2;omega) h0 (by omega)
    generalize hk:(Qy l a).1=k at *
    generalize hb2:(Qy l a).2=b at *
    have hl:∀ u∈l,Val N u∧u.h=n∧Big u:=fun u hu=>⟨(c1 u hu).1,by have:=(c1 u hu).2.1;omega,(c1 u hu).2.2⟩
    have ltk:(l.take k).length=k:=by rw [List.length_take];omega
    have ldk:(l.drop k).length=l.length-k:=by rw [List.length_drop]
    have g1:=ZCl (N:=N) (l:=l.take k) (h:=n) (j:=j) (by omega) (fun u hu=>(hl u (List.mem_of_mem_take hu)).2.1)
    have hsum:Tr.bytesL l=Tr.bytesL (l.take k)+Tr.bytesL (l.drop k):=by rw [← Tr.bytesL_append,List.take_append_drop]
    have hws:Tr.watL j l=Tr.watL j (l.take k)+Tr.watL j (l.drop k):=by rw [← Tr.watL_append,List.take_append_drop]
    split
    ·have g2:=ZCl (N:=N) (l:=l.drop k) (h:=n) (j:=j) (by omega) (fun u hu=>(hl u (List.mem_of_mem_drop hu)).2.1)
     simp only;omega
    ·rename_i hz
     obtain ⟨u,hu⟩:∃ u,l[k]?=some u:=⟨l[k],by simp [s1]⟩
     rw [hu]
     simp only [Option.getD_some]
     obtain ⟨u1,u2,u3⟩:=hl u (List.mem_of_getElem? hu)
     have hub:=s4 u hu
     have ldk1:(l.drop (k+1)).length=l.length-(k+1):=by rw [List.length_drop]
     have hdk:l.drop k=u::l.drop (k+1):=by
      have hlt:k<l.length:=s1
      rw [List.drop_eq_getElem_cons hlt]
      congr 1
      rw [List.getElem?_eq_getElem hlt] at hu
      exact Option.some.inj hu
     rw [hdk] at hsum hws
     rw [Tr.bytesL] at hsum
     rw [Tr.watL] at hws
     have g2:=ZCl (N:=N) (l:=l.drop (k+1)) (h:=n) (j:=j) (by omega) (fun w hw=>(hl w (List.mem_of_mem_drop hw)).2.1)
     have e1:=ZgZ (N:=N) (l:=l.take k) (h:=n)
     have e2:=ZgZ (N:=N) (l:=l.drop (k+1)) (h:=n)
     obtain ⟨a1,a2,a3,a4,a5⟩:=ZFO (l:=l.take k) (by omega) (show n+1≤16 by omega) (fun u hu=>hl u (List.mem_of_mem_take hu))
     obtain ⟨d1,d2,d3,d4,d5⟩:=ZFO (l:=l.drop (k+1)) (by omega) (show n+1≤16 by omega) (fun w hw=>hl w (List.mem_of_mem_drop hw))
     have p1:=Tr.bytesL_nonneg (l:=l.take k) (fun w hw=>by have:=(hl w (List.mem_of_mem_take hw)).1.pos.2;omega)
     have p2:=Tr.bytesL_nonneg (l:=l.drop (k+1)) (fun w hw=>by have:=(hl w (List.mem_of_mem_drop hw)).1.pos.2;omega)
     have hc:=ZBF hN n u b (.inr u1) u2 s2 (by omega) (by omega)
     obtain ⟨i1,i2⟩:=ih u b (.inr u1) u2 s2 (by omega) (by omega)
     generalize Y9 N n u b=r at *
     have k1:=ZHk hN j a1 hc.l (by rw [hc.lb,a3];omega)
     have k2:=ZHk hN j hc.r d1 (by rw [hc.rb,d3];omega)
     have lh:=hc.lh
     have rh:=hc.rh
     try simp only
     constructor
     ·by_cases z:(grp (l.take k)).bytes=0
      ·have:=k1.lo (.inl z);omega
      ·have e1:=e1 z (fun w hw=>(hl w (List.mem_of_mem_take hw)).2.1)
       rcases Nat.lt_or_ge j r.1.h with q|q
       ·have:=k1.lo (.inr (.inr (by omega)));omega
       ·have:=k1.l z (by omega) q (by omega);omega
     ·by_cases z:(grp (l.drop (k+1))).bytes=0
      ·have:=k2.lo (.inr (.inl z));omega
      ·have e2:=e2 z (fun w hw=>(hl w (List.mem_of_mem_drop hw)).2.1)
       rcases Nat.lt_or_ge j r.2.h with q|q
       ·have:=k2.lo (.inr (.inr (by omega)));omega
       ·have:=k2.r z (by omega) q (by omega);omega
def gW (h b j:Nat):Nat:=if j<h then 10 else if j=h then 6 else if j≤max h b then 4 else if j=max h b+1 then 2 else if j=max h b+2 then 1 else 0
theorem Zhi {N:ZP} (hN:GoodN N) (j:Nat) {t:Tr} (ht:VE N t) (hw:∀ j,t.wat j=0) {a n:Int} {s:List UInt8} (h0:0≤a) (h1:0≤n) (h2:a+n≤t.bytes) (hb:t.bytes≤65536) (hs:t.bytes-n+s.length≤65536) :
 (ZFi N t a n s).wat j≤(QI s).wat j+gW t.h (QI s).h j∧(ZFi N t a n s).h≤max t.h (QI s).h+2:=by
 unfold ZFi
 split
 ·rw [hw];omega
 ·have c1:=ZBF hN t.h t a ht rfl h0 (by omega) hb
  obtain ⟨w1,w2⟩:=Zd5 hN j t.h t a ht rfl h0 (by omega) hb
  generalize Y9 N t.h t a=q at *
  obtain ⟨l,m⟩:=q
  simp only at *
  have hm:=c1.rb
  have hl:=c1.lb
  have lh:=c1.lh
  have mh:=c1.rh
  simp only at hm hl lh mh
  have c2:=ZBF hN m.h m n c1.r rfl h1 (by omega) (by omega)
  obtain ⟨w3,w4⟩:=Zd5 hN j m.h m n c1.r rfl h1 (by omega) (by omega)
  generalize Y9 N m.h m n=q at *
  obtain ⟨d,r⟩:=q
  simp only at *
  have hr:=c2.rb
  have rh:=c2.rh
  simp only at hr rh
  obtain ⟨b1,b2,b3⟩:=XW hN (s:=s) (by omega)
  generalize QI s=b at *
  have k1:=Y8 hN c1.l b1 (by rw [b3];simp only;omega)
  have v1:=ZHk hN j c1.l b1 (by rw [b3];simp only;omega)
  have zh:=k1.h
  have k2:=Y8 hN k1.ve c2.r (by rw [k1.bytes,b3];simp only;omega)
  have v2:=ZHk hN j k1.ve c2.r (by rw [k1.bytes,b3];simp only;omega)
  have xh:=k2.h
  have tl:=c1.l.wat (j:=j)
  have tm:=c1.r.wat (j:=j)
  have tr:=c2.r.wat (j:=j)
  have tb:=b1.wat (j:=j)
  have t1:=k1.ve.wat (j:=j)
  have t2:=k2.ve.wat (j:=j)
  have a1:=v1.any
  have a2:=v2.any
  have x2:=v2.hi
  have hw:=hw j
  simp only at *
  generalize Yy N l b=z1 at *
  generalize Yy N z1 r=z2 at *
  clear k1 k2 v1 v2 c1 c2 b2
  refine ⟨?_,by omega⟩
  unfold gW
  split
  ·omega
  ·split
   ·have:=(tl (by omega)).1
    have:=(tr (by omega)).1
    omega
   ·have:=(tl (by omega)).2 (by omega)
    have:=(tr (by omega)).2 (by omega)
    split
    ·omega
    ·split
     ·have:=x2 (by omega);omega
     ·split
      ·have:=(t2 (by omega)).1;omega
      ·have:=(t2 (by omega)).2 (by omega);omega
end Go.Q15
namespace Go.Q15
open Go Go.QAbs
set_option maxRecDepth 100000
set_option maxHeartbeats 1000000
def ZB1:Nat→(Nat→Nat)→Nat
 | 0,_=>0
 | n+1,f=>ZB1 n f+f n
theorem Zga {f g:Nat→Nat}:∀ K,(∀ j,j<K→f j≤g j)→ZB1 K f≤ZB1 K g
 | 0,_=>Nat.le_refl _
 | K+1,h=>by
  have h1:=Zga K (fun j hj=>h j (by omega))
  have h2:=h K (by omega)
  rw [ZB1,ZB1];omega
theorem ZMC (f g:Nat→Nat):∀ K,ZB1 K (fun j=>f j+g j)=ZB1 K f+ZB1 K g
 | 0=>rfl
 | K+1=>by rw [ZB1,ZB1,ZB1,ZMC f g K];omega
theorem ZHl:∀ K,ZB1 K (fun _=>0)=0
 | 0=>rfl
 | K+1=>by rw [ZB1,ZHl K]
theorem ZJg {f g:Nat→Nat} (h:∀ j,f j=g j) (K:Nat):ZB1 K f=ZB1 K g:=by
 rw [show f=g from funext h]
theorem Zd6 {f:Nat→Nat} {i:Nat} (hf:∀ j,j≠i→f j=0):∀ K,K≤i→ZB1 K f=0
 | 0,_=>rfl
 | K+1,h=>by rw [ZB1,Zd6 hf K (by omega),hf K (by omega)]
theorem ZcC {f:Nat→Nat} {i:Nat} (hf:∀ j,j≠i→f j=0):∀ K,i<K→ZB1 K f=f i
 | 0,h=>by omega
 | K+1,h=>by
  rw [ZB1]
  rcases Nat.eq_or_lt_of_le (Nat.lt_succ_iff.1 h) with q|q
  ·rw [← q,Zd6 hf i (Nat.le_refl _)];omega
  ·rw [ZcC hf K q,hf K (by omega)];omega
theorem Zln {N:ZP} {t:Tr} (hv:Val N t):∀ K,t.h<K→t.cnt=ZB1 K (fun j=>t.wat j):=by
 induction hv with
 | @kept o h m k x h0 hx hok hh hm hk =>
  intro K _
  rw [Tr.cnt,Tr.cntO_getD,hk,if_neg h0,ZJg (g:=fun _=>0) (fun j=>by rw [Tr.wat,Tr.watO_getD,hk,ZHM h0];rfl),ZHl];rfl
 | @leaf s k h1 h2 hk =>
  intro K hK
  simp only [Tr.h] at hK
  rw [Tr.cnt,Tr.cntO_getD,hk,ZJg (g:=hdW 0 0 s) (fun j=>by rw [Tr.wat,Tr.watO_getD,hk];simp only [Tr.watL,Nat.add_zero]),ZcC (i:=0) (fun j hj=>(ZHL _ _ _ _).2 (by omega)) K hK]
  have hs:s≠[]:=by rintro rfl;simp at h1
  simp [hdW,Tr.cntL,hs]
 | @inner h l hh h2 h4 hl hb hv ih =>
  intro K hK
  simp only [Tr.h] at hK
  have hL:∀ l':List Tr,(∀ t∈l',t∈l)→Tr.cntL l'=ZB1 K (fun j=>Tr.watL j l'):=by
   intro l'
   induction l' with
   | nil=>intro _;rw [Tr.cntL];simp only [Tr.watL];rw [ZHl]
   | cons a r ih2 =>
    intro hm
    rw [Tr.cntL,ih a (hm a (by simp)) K (by rw [hl a (hm a (by simp))];omega),ih2 (fun t ht=>hm t (by simp [ht]))]
    simp only [Tr.watL]
    rw [ZMC]
  rw [Tr.cnt,Tr.cntO,hL l (fun t ht=>ht)]
  simp only [Tr.wat,Tr.watO]
  rw [ZMC,ZcC (f:=fun j=>hdW 0 (h+1) [] j) (i:=h+1) (fun j hj=>(ZHL _ _ _ _).2 (by omega)) K hK]
  simp [hdW]
theorem Zjx {N:ZP} {t:Tr} (hv:VE N t) {K:Nat} (hK:t.h<K):nw t=ZB1 K (fun j=>t.wat j):=by
 rcases hv with h|h
 ·rw [Zdj h,ZJg (g:=fun _=>0) (fun j=>ZOo h j),ZHl]
 ·rw [ZJf h,Zln h K hK]
mutual
theorem Zgb (j:Nat):∀ t:Tr,t.own.wat j=t.wat j
 | .mk o h m s k=>by rw [Tr.own,Tr.wat,Tr.wat,Zjy j k]
theorem Zjy (j:Nat):∀ k,Tr.watO j (Tr.ownO k)=Tr.watO j k
 | none=>by rw [Tr.ownO,Tr.watO,Tr.watO,Tr.watL]
 | some l=>by rw [Tr.ownO,Tr.watO,Tr.watO,Zd7 j l]
theorem Zd7 (j:Nat):∀ l,Tr.watL j (Tr.ownL l)=Tr.watL j l
 | []=>by rw [Tr.ownL]
 | t::l=>by rw [Tr.ownL,Tr.watL,Tr.watL,Zgb j t,Zd7 j l]
end
theorem Zmo:∀ h<17,∀ b<4,ZB1 (max h b+3) (gW h b)≤12*(h+2):=by decide
theorem Zhj {row:List Tr} (h:1≤row.length):(XV row).length=(row.length-1) / 4+1:=by
 have hlen:(XV row).length=(Ze row.length 4).toNat:=by unfold XV;simp
 have hg4:Ze row.length 4=((row.length:Int)-1) / 4+1:=rfl
 omega
theorem Zd8 {N:ZP} (hN:GoodN N):∀ (n:Nat) (row:List Tr) (h:Nat) (s:List UInt8) (k:Nat),Row N row h s→row.length≤n+1→s.length≤65536→row.length≤4 ^ k→(grp (Yn n row)).h≤h+k
 | 0,row,h,s,k,hr,hl,hs,hk=>by
  rw [Yn]
  match row,hl,hr with
  | [],_,_=>simp [grp,Tr.zero,Tr.h]
  | [t],_,hr=>have:=(hr.val t (by simp)).2;simp only [grp];omega
 | n+1,row,h,s,k,hr,hl,hs,hk=>by
  rw [Yn]
  split
  ·rename_i h1
   match row,h1,hr with
   | [],_,_=>simp [grp,Tr.zero,Tr.h]
   | [t],_,hr=>have:=(hr.val t (by simp)).2;simp only [grp];omega
  ·rename_i h2
   have hh:h+1≤16:=by
    match row,h2,hr with
    | t::r,h2,hr =>
     have h1:=(hr.val t (by simp))
     have h3:=ZFL hN h1.1
     have h4:(t.txt N).length≤s.length:=by rw [← hr.txt,Tr.txtL,lL];omega
     have:=h1.1.height hN (by omega)
     omega
    | [],h2,_=>simp at h2
   obtain ⟨a,b,c⟩:=ZWU hr (by omega) hh
   cases k with
   | zero=>simp at hk;omega
   | succ k =>
    have hlen:=Zhj (row:=row) (by omega)
    rw [Nat.pow_succ] at hk
    have:=Zd8 hN n (XV row) (h+1) s k a (by omega) hs (by omega)
    omega
theorem Zd9 {N:ZP} (hN:GoodN N) {s:List UInt8} (hs:s.length≤1024):(QI s).h≤3:=by
 obtain ⟨a,b,c⟩:=ZFS (N:=N) s
 have hl:((Jr s).map JO).length≤64:=by
  unfold Jr
  split
  ·simp
  ·have hg:Ze s.length 16=((s.length:Int)-1) / 16+1:=rfl
   simp only [List.length_map,List.length_range]
   omega
 have:=Zd8 hN s.length _ 0 s 3 a (by omega) (by omega) (by omega)
 unfold QI;omega
theorem ZZ6 {N:ZP} {ro:Ro} (h:RtOk N ro) (j:Nat):(Yb ro).wat j=0∧(Yb ro).h=ro.h:=by
 unfold Yb
 rcases h with rfl|⟨h0,x,h1,h2,h3,h4⟩
 ·rw [if_pos (by rfl)];exact ⟨ZD5 j,rfl⟩
 ·rw [if_neg h0]
  exact ⟨by rw [Tr.keep,Tr.wat,ZHM h0];rfl,rfl⟩
theorem Zmp (t:Tr):t.own.h=t.h:=by obtain ⟨o,h,m,s,k⟩:=t;rfl
theorem Zmq {N:ZP} (hN:GoodN N) {ro:Ro} {s0:List UInt8} {a n:Int} {s:List UInt8} (h:EdOk N ro s0 a n s) (hs:s.length≤1024):nw (edV N ro a n s)≤12*(ro.h+2)+nw (QI s):=by
 obtain ⟨hv,_,_⟩:=h.ok hN
 obtain ⟨hk,htx⟩:=h.rt.keep
 have hb:=(h.rt.b hN).1
 have h1:=h.a0
 have h2:=h.n0
 have h3:=h.le
 have h4:=h.b1
 have h5:=h.b2
 have h13:=h.rt.rt.h13 hN
 have hw:=fun j=>(ZZ6 h.rt.rt j).1
 have he:(Yb ro).h=ro.h:=(ZZ6 h.rt.rt 0).2
 have hR:=fun j=>Zhi hN j (s:=s) hk hw h1 h2 (by omega) (by omega) (by omega)
 have hB:=(XW hN (s:=s) (by omega)).1
 have hBh:=Zd9 hN hs
 have hE:(edV N ro a n s).h<max ro.h (QI s).h+3:=by
  unfold edV
  rw [Zmp]
  have:=(hR 0).2
  rw [he] at this;omega
 rw [Zjx hv hE,Zjx hB (K:=max ro.h (QI s).h+3) (by omega)]
 have hg:=Zmo ro.h (by omega) (QI s).h (by omega)
 have hle:=Zga (f:=fun j=>(edV N ro a n s).wat j) (g:=fun j=>(QI s).wat j+gW ro.h (QI s).h j) (max ro.h (QI s).h+3) (fun j _=>by
  unfold edV
  rw [Zgb]
  have:=(hR j).1
  rw [he] at this;exact this)
 rw [ZMC] at hle
 omega
end Go.Q15
namespace Go.Q15
open Go Go.QAbs
set_option maxRecDepth 100000
set_option maxHeartbeats 16000000
end Go.Q15
namespace Go.Q15
open Go Go.QAbs
set_option maxRecDepth 100000
set_option maxHeartbeats 32000000
def uL (op:Blk) (n:Nat) (r:AR) (T:List Blk):List Blk:=op::r.b0::r.b1::r.b2::r.b3 n 1::r.b4::r.b5 n 1::T
theorem ZIT {A:List (Bool × List Blk)} (op:Blk) (r:AR) (T:List Blk):Has ⟨A,false,uL op A.length r T⟩ A.length 1 r:=ZCk A [op] T r
theorem Zjz {A:List (Bool × List Blk)} (op:Blk) (r r':AR) (T:List Blk):QJ ⟨A,false,uL op A.length r T⟩ A.length 1 r'=⟨A,false,uL op A.length r' T⟩:=ZWe A [op] T r r'
theorem ZPN {N:ZP} (hN:GoodN N) {t:Tr} (hv:VE N t):(nw t:Int)≤t.bytes:=by
 rcases hv with h|h
 ·rw [Zdj h,h.bytes];omega
 ·rw [ZJf h];exact (ZjV hN h).1
end Go.Q15
namespace Go.Q15
open Go Go.QAbs
set_option maxRecDepth 100000
set_option maxHeartbeats 32000000
section
variable {O:Orc} {k:List Fr} {Q:Yg} {e:Env} {A:List (Bool × List Blk)} {L:List Blk} {keep:List Nat} {is:List QAbs.PI}
theorem Zgc {a x:Opd} {y:AV} {ro:Ro} {fr dd:List Nat} (ha:Za e a=some (.ptr A.length L.length 0 0 0)) (hx:Za e x=some (Qn ro fr (slH dd))) (h:Is O is keep k Q e ⟨A,false,L++[Blk.arr 7 0 [Qn ro fr (slH dd)]]⟩) :
 Is O (⟨none,none,false,.st 7 a x⟩::is) keep k Q e ⟨A,false,L++[Blk.arr 7 0 [y]]⟩ :=
 Zb6 (L0:=L) (T:=[Blk.arr 7 0 [y]]) (ix:=0) (i:=0) (w:=7) (ver:=0) (es:=[y]) ha hx rfl rfl (Zll _ _ _ _ _) (Zmm _ _ _ _) (XY _) h
end
end Go.Q15
namespace Go.Q15
open Go Go.QAbs
set_option maxRecDepth 100000
set_option maxHeartbeats 32000000
theorem ZeA (l:List Nat) (hl:l.length<9223372036854775808) (st:St):S Tb Q6 [.lit (l.map ZFj),.lit (l.map ZFj)] st=some (.bool true,st):=by
 have e:l.map ZFj=(l.map fun (n:Nat)=>(n:Int)).map (.int .i64):=by rw [List.map_map];rfl
 rw [e]
 exact ZPM _ (by rw [List.length_map];exact hl) st
theorem ZnH {op:Blk} {n:Nat} {r:AR} {T:List Blk}:(uL op n r T).length=7+T.length:=by simp [uL];omega
theorem Zmr {op:Blk} {n:Nat} {r:AR} {b:Blk} {G:List Blk} (x:Blk):(uL op n r (b::(G++[x])))[8+G.length]?=some x:=by
 show (op::r.b0::r.b1::r.b2::r.b3 n 1::r.b4::r.b5 n 1::b::(G++[x]))[8+G.length]?=some x
 rw [show 8+G.length=G.length+8 by omega]
 exact List.getElem?_concat_length ..
theorem SameS.free {r r':AR} (h:SameS r r'):r'.free=r.free:=by
 unfold AR.free;rw [h.n,h.blk]
theorem SameS.handles {r r':AR} (h:SameS r r'):Xx r'=Xx r:=by
 unfold Xx
 rw [h.st]
 refine List.map_congr_left fun s hs=>?_
 have:=(ZWk hs).2
 unfold hOf
 rw [h.gt s (by rw [this];simp)]
structure UInv (r1 r:AR) (i:Nat):Prop where
 ok:AROk r
 nodes:r.nodes=r1.nodes
 n:r.n=r1.n
 most:r.most=10
 stale:r.stale=0
 young:∀ (s:Nat) (g:Int),r.states[s]?=some 0→r.gens[s]?=some g→g≤1+i
 fr:r.frees≤300*i
theorem UInv.next {r1 r r2:AR} {i c:Nat} {fr:List Nat} (h:UInv r1 r i) (hi:i≤4) (hA:Adds r fr r2) (hw:WrB r c r2 fr) (hc:c≤300) (hn:c≤r.n):SameS r (ZBH r2 fr.reverse)∧UInv r1 (ZBH r2 fr.reverse) (i+1):=by
 have hy:ZZ3 r:=fun s g h1 h2=>by have:=h.young s g h1 h2;rw [h.most];omega
 have hS:=Zhg hA h.ok hy (by rw [hw.len];exact hn)
 obtain ⟨d1,d2⟩:=Zd3 fr.reverse r2
 rw [List.length_reverse,hw.len,hw.frees] at d2
 rw [hw.allocs] at d1
 have a1:=h.ok.al
 have a2:=h.ok.fr
 have a3:=h.fr
 have hO:=hS.ok h.ok hy (by rw [d1,d2];omega) (by rw [d2];omega)
 refine ⟨hS,hO,hS.nodes.trans h.nodes,hS.n.trans h.n,hS.most.trans h.most,hS.stale.trans h.stale,fun s g h1 h2=>?_,by rw [d2];omega⟩
 rw [hS.st] at h1
 obtain ⟨g0,hg0⟩:∃ x,r.gens[s]?=some x:=⟨_,List.getElem?_eq_getElem (by rw [h.ok.gl];exact (List.getElem?_eq_some_iff.1 h1).1)⟩
 have:=h.young s g0 h1 hg0
 have:=hS.gf s g0 g hg0 h2
 omega
theorem Adds.gens {r r':AR} {hs:List Nat} (h:Adds r hs r'):r'.gens=r.gens∧r'.most=r.most:=by
 induction h with
 | nil r=>exact ⟨rfl,rfl⟩
 | cons x h ih=>exact ih
theorem wr_h (t:Tr) (r:AR):(wrV t r).2.1.h≤t.h:=by
 unfold wrV
 split
 ·exact Nat.zero_le _
 ·obtain ⟨o,h,m,s,k⟩:=t
  rw [Tr.wr]
  split
  ·exact Nat.le_refl _
  ·split
   ·exact Nat.zero_le _
   ·exact Nat.le_refl _
theorem ZWn {N:ZP} (hN:GoodN N) {t:Tr} (hv:VE N t) (h8:8≤t.bytes):4*(nw t:Int)+4≤t.bytes:=by
 rcases hv with h|h
 ·rw [h.bytes] at h8;omega
 ·rw [ZJf h];exact (ZjV hN h).2 (fun _=>h8)
theorem ZfW (ro:Ro) (fr:List Nat) (d:AV):Qz (Qn ro fr d) true 0 7=some (Qn ro fr d):=rfl
theorem Zl5 (ro:Ro) (fr:List Nat) (d:AV):Qz (Qn ro fr d) false 5 1=some (.lit (fr.map QB)):=rfl
theorem Zlo {st:St} {A:List (Bool × List Blk)} (hA:A=st.A++[(st.ro,st.L)]) {yat ynum:Int} {ytx text:List UInt8} {r1:AR} {ro:Ro} {a m times:Int} (hg:GoodN r1.nodes) (hE:EdOk r1.nodes ro text a m ytx) (hI0:UInv r1 r1 0)
 (hroom:nw (edV r1.nodes ro a m ytx)≤r1.n) (h300:nw (edV r1.nodes ro a m ytx)≤300) (htx:text.length≤600) :
 Ru (S T3) p_quartolaw19_EditUndo_25.loop [Fr.blk 0,Fr.seq (p_quartolaw19_EditUndo_26.seq PC.ret)] (fun x e st'=>JK false [RV.s 6] (x,e,st')=some (AV.bool true,st))
  [(0,.str text),(2,.int .i64 times),(4,.ptr A.length 0 0 0 0),(7,.ptr A.length 6 0 0 0),(9,.ptr A.length 7 0 0 0),(10,.int .i64 a),(11,.int .i64 m),(12,.int .i64 0)] ⟨A,false,uL (.arr 3 0 [.agg [.int .i64 yat,.int .i64 ynum,.str ytx]]) A.length r1 [.arr 5 0 [ro.av]]⟩:=by
 have hWk:=fun st=>ZZ4 st
 have p3:=ZBG (x:=times) (n:=3) (by omega)
 have hPt:=fun st=>up3 (ZfT times 3 (by omega) (by omega) st)
 generalize ZL7 times 3=pt at *
 refine Z0 (α:=Nat × AR × List Blk) (fun p=>[(0,.str text),(2,.int .i64 times),(4,.ptr A.length 0 0 0 0),(7,.ptr A.length 6 0 0 0),(9,.ptr A.length 7 0 0 0),(10,.int .i64 a),(11,.int .i64 m),(12,.int .i64 p.1)])
  (fun p=>⟨A,false,uL (.arr 3 0 [.agg [.int .i64 yat,.int .i64 ynum,.str ytx]]) A.length p.2.1 (.arr 5 0 [ro.av]::p.2.2)⟩) (fun p=>p.1≤1+pt.toNat∧UInv r1 p.2.1 p.1) (fun p=>1+pt.toNat-p.1) (0,r1,[]) rfl rfl ⟨Nat.zero_le _,hI0⟩ ?_
 rintro ⟨i,r,G⟩ ⟨hi,hI⟩
 simp only at hi hI ⊢
 have n16:=hI.ok.n16
 have nn:=hI.ok.nn
 have k0:(uL (.arr 3 0 [.agg [.int .i64 yat,.int .i64 ynum,.str ytx]]) A.length r (.arr 5 0 [ro.av]::G))[0]?=some (.arr 3 0 [.agg [.int .i64 yat,.int .i64 ynum,.str ytx]]):=rfl
 have k7:(uL (.arr 3 0 [.agg [.int .i64 yat,.int .i64 ynum,.str ytx]]) A.length r (.arr 5 0 [ro.av]::G))[7]?=some (.arr 5 0 [ro.av]):=rfl
 rcases Nat.lt_or_ge i (1+pt.toNat) with hlt|hge
 ·have hgr:GoodN r.nodes:=by rw [hI.nodes];exact hg
  have hE':EdOk r.nodes ro text a m ytx:=by rw [hI.nodes];exact hE
  have hrm:nw (edV r.nodes ro a m ytx)≤r.n:=by rw [hI.nodes,hI.n];exact hroom
  have h3:nw (edV r.nodes ro a m ytx)≤300:=by rw [hI.nodes];exact h300
  have hb2:=hE'.b2
  have hm0:=hE'.n0
  obtain ⟨v1,v2,v3⟩:=hE'.ok hgr
  have hRe:=up3 (ZWi (b:=1) (ZIT (A:=A) (.arr 3 0 [.agg [.int .i64 yat,.int .i64 ynum,.str ytx]]) r (.arr 5 0 [ro.av]::G)) hI.ok hgr hE' hrm)
  rw [Zjz] at hRe
  obtain ⟨w1,w2⟩:=ZgS (r:=r) (ZCk [] [] [] _) hI.ok hgr v1 (by omega) hrm
  obtain ⟨hS,hI2⟩:=hI.next (by omega) (Zd2 (edV r.nodes ro a m ytx) r) w1 h3 hrm
  have hRt:=hE'.rt
  have hnd:=w1.nodup
  have hlv:=w1.has
  have hlen:=w1.len
  have hok2:=w1.ok
  clear w1 w2 v1 v2 v3 hE' hE hrm hroom hI0
  generalize ZAA r.nodes [ro] (edV r.nodes ro a m ytx)=dd at *
  generalize (wrV (edV r.nodes ro a m ytx) r).2.1=ro2 at *
  generalize (wrV (edV r.nodes ro a m ytx) r).2.2=fr at *
  generalize (wrV (edV r.nodes ro a m ytx) r).1=r2 at *
  have hF:=hok2.fok (l:=fr.reverse) (List.pairwise_reverse.2 (hnd.imp Ne.symm)) (fun o h=>hlv o (List.mem_reverse.1 h)) (by rw [List.length_reverse];omega)
  rw [← lN fr.reverse] at hF
  obtain ⟨_,_,_,hd⟩:=hF.dels
  have hdd:∀ o∈fr,ZZy (ZBH r2 fr.reverse) o∧o<18446744073709551616:=fun o h=>by
   obtain ⟨x,hx⟩:=hlv o h
   exact ⟨hd o (.inr (List.mem_reverse.2 h)),(hok2.live hx).2⟩
  have hSl:=up3 (Zd0 (ZIT (A:=A) (.arr 3 0 [.agg [.int .i64 yat,.int .i64 ynum,.str ytx]]) r (.arr 5 0 [ro.av]::G)).r hI.ok)
  have hHd:=up3 (ZWl (ZIT (A:=A) (.arr 3 0 [.agg [.int .i64 yat,.int .i64 ynum,.str ytx]]) r (.arr 5 0 [ro.av]::G)).r hI.ok)
  have hUn:=up3 (Zmn (b:=1) (ZIT (A:=A) (.arr 3 0 [.agg [.int .i64 yat,.int .i64 ynum,.str ytx]]) r2 (.arr 5 0 [ro.av]::(G++[.arr 7 0 [Qn ro2 fr (slH dd)]]))) hok2 (ro:=ro2) (dd:=dd) hnd hlv (by omega))
  rw [Zjz] at hUn
  generalize ZBH r2 fr.reverse=r3 at *
  have hgr3:GoodN r3.nodes:=by rw [hI2.nodes];exact hg
  have hRt3:Rt r3.nodes ro text:=by rw [hI2.nodes,← hI.nodes];exact hRt
  have hSl3:=up3 (Zd0 (ZIT (A:=A) (.arr 3 0 [.agg [.int .i64 yat,.int .i64 ynum,.str ytx]]) r3 (.arr 5 0 [ro.av]::(G++[.arr 7 0 [Qn ro2 fr (slH dd)]]))).r hI2.ok)
  have hHd3:=up3 (ZWl (ZIT (A:=A) (.arr 3 0 [.agg [.int .i64 yat,.int .i64 ynum,.str ytx]]) r3 (.arr 5 0 [ro.av]::(G++[.arr 7 0 [Qn ro2 fr (slH dd)]]))).r hI2.ok)
  have hTx:=Zdr hgr3 (b:=1) (ZIT (A:=A) (.arr 3 0 [.agg [.int .i64 yat,.int .i64 ynum,.str ytx]]) r3 (.arr 5 0 [ro.av]::(G++[.arr 7 0 [Qn ro2 fr (slH dd)]]))).r.rd hRt3.rt (by rw [hRt3.leaves hgr3];omega)
  have hUs:=fun h0=>up3 (ZfU (b:=1) (ZIT (A:=A) (.arr 3 0 [.agg [.int .i64 yat,.int .i64 ynum,.str ytx]]) r3 (.arr 5 0 [ro.av]::(G++[.arr 7 0 [Qn ro2 fr (slH dd)]]))).r hI2.ok.gl (ro:=ro2) (dd:=dd) hnd h0 hdd (by omega))
  rw [hRt3.leaves hgr3] at hTx
  rw [hS.free,hS.st] at hSl3
  rw [hS.handles] at hHd3
  have hq1:=fun st=>up3 (ZPM r.free (by rw [AR.free_len hI.ok.nb];omega) st)
  have hq2:=fun st=>up3 (ZeA (Jk r.states 2) (by have:=ZCi r.states 2 r.states.length;unfold Jk;omega) st)
  have hq3:=fun st=>up3 (ZWj (Xx r) (by have:=ZCi r.states 1 r.states.length;unfold Xx Jk;rw [List.length_map];omega) st)
  have m7:(uL (.arr 3 0 [.agg [.int .i64 yat,.int .i64 ynum,.str ytx]]) A.length r3 (.arr 5 0 [ro.av]::(G++[.arr 7 0 [Qn ro2 fr (slH dd)]])))[7]?=some (.arr 5 0 [ro.av]):=rfl
  have m16:(uL (.arr 3 0 [.agg [.int .i64 yat,.int .i64 ynum,.str ytx]]) A.length r3 (.arr 5 0 [ro.av]::(G++[.arr 7 0 [Qn ro2 fr (slH dd)]])))[(uL (.arr 3 0 [.agg [.int .i64 yat,.int .i64 ynum,.str ytx]]) A.length r2 (.arr 5 0 [ro.av]::G)).length]?=some (.arr 7 0 [Qn ro2 fr (slH dd)]):=by
   rw [ZnH,List.length_cons,show 7+(G.length+1)=8+G.length by omega];exact Zmr _
  generalize r.free=fl at *
  generalize Jk r.states 2=wl at *
  generalize Xx r=hl at *
  have hUn':S T3 XT [.ptr A.length (1+5) 0 0 0,Qn ro2 fr (slH dd)] ⟨A,false,uL (.arr 3 0 [.agg [.int .i64 yat,.int .i64 ynum,.str ytx]]) A.length r2 (.arr 5 0 [ro.av]::G)++[.arr 7 0 [Qn ro2 fr (slH dd)]]⟩=some (.int .i64 0,⟨A,false,uL (.arr 3 0 [.agg [.int .i64 yat,.int .i64 ynum,.str ytx]]) A.length r3 (.arr 5 0 [ro.av]::(G++[.arr 7 0 [Qn ro2 fr (slH dd)]]))⟩):=hUn
  clear hUn hRt3 hRt hgr3 hgr hdd hd hF
  generalize hX:uL (.arr 3 0 [.agg [.int .i64 yat,.int .i64 ynum,.str ytx]]) A.length r (.arr 5 0 [ro.av]::G)=X at *
  generalize hX2:uL (.arr 3 0 [.agg [.int .i64 yat,.int .i64 ynum,.str ytx]]) A.length r2 (.arr 5 0 [ro.av]::G)=X2 at *
  generalize hX3:uL (.arr 3 0 [.agg [.int .i64 yat,.int .i64 ynum,.str ytx]]) A.length r3 (.arr 5 0 [ro.av]::(G++[.arr 7 0 [Qn ro2 fr (slH dd)]]))=X3 at *
  rcases Nat.eq_zero_or_pos fr.length with hz|hp
  ·repeat' (first|refine ZU rfl k7 rfl (ZL8 _) ?_|refine ZU rfl m7 rfl (ZL8 _) ?_|refine ZU rfl k0 rfl rfl ?_|refine ZU rfl m16 rfl (Zl5 _ _ _) ?_|refine JT rfl rfl (ZfW _ _ _) ?_|refine Zgc rfl rfl ?_|refine X9 rfl ?_|refine ZE ?_|refine ZD ?_|refine ZG rfl ?_|refine ZJ rfl rfl ?_|refine QE rfl ?_|refine Ji rfl rfl ?_|refine Zn rfl rfl rfl rfl ?_|refine Zt rfl rfl ?_|refine ZB rfl ?_|refine ZC ?_|(refine Zk rfl rfl (fun _=>?_) (fun _=>?_)<;>try (exfalso;omega))|(refine Qv rfl rfl (fun _=>?_) (fun _=>?_)<;>try (exfalso;omega))|(refine Zj rfl rfl (fun _=>?_) (fun _=>?_)<;>try (exfalso;omega))|(refine ZaY rfl rfl (fun _=>?_) (fun _=>?_)<;>try contradiction)|refine ZV rfl ?_|refine ZH rfl ?_|refine Jd rfl rfl ?_|refine Zo rfl rfl (by omega) ?_|refine Z4 rfl rfl rfl ?_|refine ZA rfl rfl rfl (hPt _) ?_|refine ZA rfl rfl rfl (hSl) ?_|refine ZA rfl rfl rfl (hHd) ?_|refine ZA rfl rfl rfl (hRe) ?_|refine ZA rfl rfl rfl (hUn') ?_|refine ZA rfl rfl rfl (hSl3) ?_|refine ZA rfl rfl rfl (hHd3) ?_|refine ZA rfl rfl rfl (hTx) ?_|refine ZA rfl rfl rfl (hq1 _) ?_|refine ZA rfl rfl rfl (hq2 _) ?_|refine ZA rfl rfl rfl (hq3 _) ?_|refine ZI ?_|refine ZO ?_|refine Z5 ?_|refine QC ?_)
   all_goals try contradiction
   all_goals try (exfalso;omega)
   all_goals try exact absurd rfl ‹_›
   exact ⟨(i+1,r3,G++[.arr 7 0 [Qn ro2 fr (slH dd)]]),⟨rfl,by rw [← hX3]⟩,⟨by simp only;omega,hI2⟩,by simp only;omega⟩
  ·have hUs:=hUs hp
   repeat' (first|refine ZU rfl k7 rfl (ZL8 _) ?_|refine ZU rfl m7 rfl (ZL8 _) ?_|refine ZU rfl k0 rfl rfl ?_|refine ZU rfl m16 rfl (Zl5 _ _ _) ?_|refine ZU rfl m16 rfl (ZfW _ _ _) ?_|refine JT rfl rfl (ZfW _ _ _) ?_|refine Zgc rfl rfl ?_|refine X9 rfl ?_|refine ZE ?_|refine ZD ?_|refine ZG rfl ?_|refine ZJ rfl rfl ?_|refine QE rfl ?_|refine Zn rfl rfl rfl rfl ?_|refine Zt rfl rfl ?_|refine ZB rfl ?_|refine ZC ?_|(refine Zk rfl rfl (fun _=>?_) (fun _=>?_)<;>try (exfalso;omega))|(refine Qv rfl rfl (fun _=>?_) (fun _=>?_)<;>try (exfalso;omega))|(refine Zj rfl rfl (fun _=>?_) (fun _=>?_)<;>try (exfalso;omega))|(refine ZaY rfl rfl (fun _=>?_) (fun _=>?_)<;>try contradiction)|refine ZV rfl ?_|refine ZH rfl ?_|refine Jd rfl rfl ?_|refine Zo rfl rfl (by omega) ?_|refine Z4 rfl rfl rfl ?_|refine ZA rfl rfl rfl (hPt _) ?_|refine ZA rfl rfl rfl (hSl) ?_|refine ZA rfl rfl rfl (hHd) ?_|refine ZA rfl rfl rfl (hRe) ?_|refine ZA rfl rfl rfl (hUn') ?_|refine ZA rfl rfl rfl (hUs) ?_|refine ZA rfl rfl rfl (hSl3) ?_|refine ZA rfl rfl rfl (hHd3) ?_|refine ZA rfl rfl rfl (hTx) ?_|refine ZA rfl rfl rfl (hq1 _) ?_|refine ZA rfl rfl rfl (hq2 _) ?_|refine ZA rfl rfl rfl (hq3 _) ?_|refine ZI ?_|refine ZO ?_|refine Z5 ?_|refine QC ?_)
   all_goals try contradiction
   all_goals try (exfalso;omega)
   all_goals try exact absurd rfl ‹_›
   exact ⟨(i+1,r3,G++[.arr 7 0 [Qn ro2 fr (slH dd)]]),⟨rfl,by rw [← hX3]⟩,⟨by simp only;omega,hI2⟩,by simp only;omega⟩
 ·obtain rfl:i=1+pt.toNat:=by omega
  have hSt:=up3 (Zb7 (ZIT (A:=A) (.arr 3 0 [.agg [.int .i64 yat,.int .i64 ynum,.str ytx]]) r (.arr 5 0 [ro.av]::G)).r hI.ok.nb n16 (by omega))
  unfold AR.statsAV at hSt
  rw [hI.stale] at hSt
  generalize uL (.arr 3 0 [.agg [.int .i64 yat,.int .i64 ynum,.str ytx]]) A.length r (.arr 5 0 [ro.av]::G)=X at *
  repeat' (first|refine ZE ?_|refine ZD ?_|refine ZG rfl ?_|refine QE rfl ?_|refine Zn rfl rfl rfl rfl ?_|refine ZB rfl ?_|refine ZC ?_|refine ZS3 (agg:=false) rfl rfl ?_|(refine Zk rfl rfl (fun _=>?_) (fun _=>?_)<;>try (exfalso;omega))|(refine Zp rfl rfl (fun _=>?_) (fun _=>?_)<;>try (exfalso;omega))|refine ZH rfl ?_|refine Zo rfl rfl (by omega) ?_|refine ZA rfl rfl rfl (hPt _) ?_|refine ZA rfl rfl rfl (hSt) ?_|refine ZA rfl rfl rfl (hWk _) ?_|refine ZS ?_|refine Zx ?_|refine ZL ?_|refine Zh ?_|refine Zd rfl ?_|refine Zq ?_)
  all_goals try contradiction
  all_goals try (exfalso;omega)
  all_goals refine Zc hA (by first|exact .inl rfl|exact .inr rfl) rfl rfl rfl rfl ?_
  all_goals rfl
theorem ZfX (text:List UInt8) (y:Op) (times:Int) (ht:text.length<9223372036854775808) (hy:y.text.length<9223372036854775808) (st:St) :
 S T3 JU [.str text,y.av,.int .i64 times] st=some (.bool true,st):=by
 refine QF (le3 JU (.pf YM) rfl) (fun A hA=>?_)
 have hWk:=fun st=>ZZ4 st
 by_cases hg:600<text.length∨300<y.text.length
 ·unfold Op.av
  repeat' (first|refine ZE ?_|refine ZD ?_|refine ZG rfl ?_|refine ZJ rfl rfl ?_|refine ZU rfl rfl rfl rfl ?_|refine QE rfl ?_|refine Ji rfl rfl ?_|refine Zn rfl rfl rfl rfl ?_|refine ZB rfl ?_|refine ZC ?_|refine Jz rfl ?_|(refine Qv rfl rfl (fun _=>?_) (fun _=>?_)<;>try (exfalso;omega))|refine ZV rfl ?_|refine Zi rfl rfl rfl ?_|refine ZA rfl rfl rfl (hWk _) ?_|refine ZS ?_|refine ZL ?_|refine ZZ ?_)
  all_goals try contradiction
  all_goals try (exfalso;omega)
  all_goals refine Zc hA (by first|exact .inl rfl|exact .inr rfl) rfl rfl rfl rfl ?_
  all_goals rfl
 obtain ⟨g3,g4⟩:text.length≤600∧y.text.length≤300:=by omega
 clear hg
 unfold Op.av
 have ho:=ZWf 300 10 (by omega) (by omega)
 have hNew:S T3 ZAe [.int .i64 300,.int .u64 10] ⟨A,false,[.arr 3 0 [.agg [.int .i64 y.at_,.int .i64 y.num,.str y.text]]]⟩=some (.tup [.ptr A.length 6 0 0 0,.int .i64 0],⟨A,false,uL (.arr 3 0 [.agg [.int .i64 y.at_,.int .i64 y.num,.str y.text]]) A.length (QZ 300 10) []⟩):=up3 (ZgB 300 10 (by omega) (by omega) A [.arr 3 0 [.agg [.int .i64 y.at_,.int .i64 y.num,.str y.text]]])
 obtain ⟨b1,b2,b3⟩:=XW Xv (s:=text) (by omega)
 have hq:nw (QI text)≤149:=by
  have h1:=ZPN Xv b1
  rcases Int.lt_or_le (QI text).bytes 8 with q|q
  ·omega
  ·have:=ZWn Xv b1 q;omega
 have hN0:(QZ 300 10).n=300:=rfl
 have hroom:nw (QI text)≤(QZ 300 10).n:=by omega
 have hNR:=up3 (ZgT (ZIT (A:=A) (.arr 3 0 [.agg [.int .i64 y.at_,.int .i64 y.num,.str y.text]]) (QZ 300 10) []) ho Xv text (by omega) hroom)
 rw [Zjz] at hNR
 obtain ⟨w1,w2⟩:=ZgS (r:=QZ 300 10) (ZCk [] [] [] _) ho Xv b1 (by rw [b3];omega) hroom
 have b2':Tr.txt (QZ 300 10).nodes (QI text)=text:=b2
 rw [b2'] at w2
 clear b2'
 have hh:=wr_h (QI text) (QZ 300 10)
 have hh3:=Zd9 Xv (s:=text) (by omega)
 obtain ⟨e1,e2⟩:=(Zd2 (QI text) (QZ 300 10)).gens
 have o1:=w1.ok
 have o2:=w1.good
 have o3:=w1.n
 have o4:=w1.stale
 have o5:=w1.frees
 rw [show (QZ 300 10).stale=0 from rfl] at o4
 rw [show (QZ 300 10).frees=0 from rfl] at o5
 rw [show (QZ 300 10).most=10 from rfl] at e2
 rw [show (QZ 300 10).gens=List.replicate 300 1 from rfl] at e1
 clear w1 b1 b2 b3
 generalize (wrV (QI text) (QZ 300 10)).1=r1 at *
 generalize (wrV (QI text) (QZ 300 10)).2.1=ro at *
 generalize QZ 300 10=r0 at *
 have p1:=ZBG (x:=y.at_) (n:=(text.length:Int)) (by omega)
 have hPa:=fun st=>up3 (ZfT y.at_ text.length (by omega) (by omega) st)
 generalize ZL7 y.at_ text.length=a at *
 have p2:=ZBG (x:=y.num) (n:=(text.length:Int)-a) (by omega)
 have hPm:=fun st=>up3 (ZfT y.num ((text.length:Int)-a) (by omega) (by omega) st)
 generalize ZL7 y.num ((text.length:Int)-a)=m at *
 have hE:EdOk r1.nodes ro text a m y.text:=⟨w2,p1.1,p2.1,by omega,by omega,by omega⟩
 have hcl:=Zmq o2 hE (by omega)
 have hBv:=XW o2 (s:=y.text) (by omega)
 have hq2:nw (QI y.text)≤74:=by
  have h1:=ZPN o2 hBv.1
  rcases Int.lt_or_le (QI y.text).bytes 8 with q|q
  ·omega
  ·have:=ZWn o2 hBv.1 q
   rw [hBv.2.2] at this;omega
 have hI0:UInv r1 r1 0:=⟨o1,rfl,rfl,e2,o4,fun s g h1 h2=>by
  rw [e1,List.getElem?_replicate] at h2
  split at h2
  ·have:=Option.some.inj h2;omega
  ·simp at h2,by omega⟩
 have hlp:=Zlo hA (yat:=y.at_) (ynum:=y.num) (times:=times) o2 hE hI0 (by omega) (by omega) g3
 repeat' (first|exact hlp|refine ZE ?_|refine ZD ?_|refine ZG rfl ?_|refine ZJ rfl rfl ?_|refine ZU rfl rfl rfl rfl ?_|refine QE rfl ?_|refine Zn rfl rfl rfl rfl ?_|refine Zt rfl rfl ?_|refine ZB rfl ?_|refine ZC ?_|refine Jz rfl ?_|(refine Qv rfl rfl (fun _=>?_) (fun _=>?_)<;>try (exfalso;omega))|(refine Zj rfl rfl (fun _=>?_) (fun _=>?_)<;>try (exfalso;omega))|refine ZH rfl ?_|refine Jy rfl rfl (by omega) ?_|refine Qb rfl rfl rfl rfl ?_|refine Zi rfl rfl rfl ?_|refine Zu rfl rfl rfl rfl rfl rfl ?_|refine ZA rfl rfl rfl (hNew) ?_|refine ZA rfl rfl rfl (hNR) ?_|refine ZA rfl rfl rfl (hPa _) ?_|refine ZA rfl rfl rfl (hPm _) ?_|refine ZI ?_|refine ZO ?_)
 all_goals try contradiction
 all_goals try (exfalso;omega)
end Go.Q15
namespace Go.QAbs
open Go.ChangeShapes Go.WideShapes Go.RowKit Go.Deep
variable {P:Program}
section
variable {H:Type} {enc:TypeId × Value→H}
theorem open_span {W:World} {base:Nat} {t t0 t1 t2:TypeId} {f0 f1 f2:Field} {v:Value} {d:DataW H} {ps:List MemPlace} (ht:P.underlying t=some (.struct #[f0,f1,f2])) (hc:P.cellsOf t=3)
 (hf0:f0.type=t0∧f0.offset=0∧P.underlying t0=some (.int .i64)∧P.cellsOf t0=1) (hf1:f1.type=t1∧f1.offset=1∧P.underlying t1=some (.int .i64)∧P.cellsOf t1=1) (hf2:f2.type=t2∧f2.offset=2∧P.underlying t2=some .string∧P.cellsOf t2=1)
 (hval:Value.okWide P W .any base t v) (h:DataW.Trod enc P W 0 (fun _=>true) true t v d ps) :
 ∃ q:Int × Int × List UInt8,q.2.2.length≤maxLen∧R (cx .empty rho0 W 0) (.agg [.int .i64 q.1,.int .i64 q.2.1,.str q.2.2]) v:=by
 obtain ⟨cs,rfl,hsz⟩:=okWide_struct ht hval
 obtain ⟨fuel,hf⟩:=h
 obtain ⟨xs,k,_,_,_,hxl,hfs⟩:=DataW.trod_struct ht hf
 have g0:=hfs 0 f0 rfl
 have g1:=hfs 1 f1 rfl
 have g2:=hfs 2 f2 rfl
 rw [hc] at hsz
 obtain ⟨cs⟩:=cs
 match cs,hsz,xs,hxl with
 | [c0,c1,c2],_,[y0,y1,y2],_ =>
  simp only [Value.cells,hf0.1,hf0.2.1,hf0.2.2.2,hf1.1,hf1.2.1,hf1.2.2.2,hf2.1,hf2.2.1,hf2.2.2.2,List.drop,List.take,List.getElem?_cons_zero,List.getElem?_cons_succ] at g0 g1 g2
  obtain ⟨n0,e0,_,_⟩:=DataW.trod_int hf0.2.2.1 g0
  obtain ⟨n1,e1,_,_⟩:=DataW.trod_int hf1.2.2.1 g1
  obtain ⟨s,e2,_,hs⟩:=DataW.trod_string hf2.2.2.1 g2
  simp only [List.cons.injEq,and_true] at e0 e1 e2
  subst e0;subst e1;subst e2
  refine ⟨(n0,n1,s.data.toList),by simp only [Array.length_toList];exact hs,?_⟩
  rw [str_eq s]
  have hr:=RL.cons (C:=cx .empty rho0 W 0) (.int .i64 n0) (.cons (.int .i64 n1) (.cons (.str s.data.toList) (.nil _)))
  exact .agg (xs:=[_,_,_]) hr.1 hr.2
end
end Go.QAbs
namespace Go.Q15
open Go Go.QAbs
theorem editUndo_run (text:List UInt8) (y:Int × Int × List UInt8) (times:Int) (h1:text.length≤maxLen) (h2:y.2.2.length≤maxLen) (_h0:(Lit.int .i64 times).wf=true) :
 ∃ st',S T3 JU [.str text,.agg [.int .i64 y.1,.int .i64 y.2.1,.str y.2.2],.int .i64 times] .empty=some (.bool true,st'):=by
 have hm:maxLen<9223372036854775808:=by decide +kernel
 exact ⟨_,ZfX text ⟨y.1,y.2.1,y.2.2⟩ times (by omega) (by show y.2.2.length<_;omega) .empty⟩
end Go.Q15
