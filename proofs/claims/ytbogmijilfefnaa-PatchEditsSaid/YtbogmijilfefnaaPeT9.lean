/- A part of the proof: PEc, SSf, SSg, PEd, PEe, SSh, PEf, PEg, PEh, YM, YN, PVa, PVb, SSi, SSj, SSk, SQe, SSl, PEi, STc, STd, STa, STb, SM, SRa, PEk, PEl, PEm, PEn, PEo, PEj, SQf, SQg. No condition. -/
import Derived.Maps.RangeRun
import Derived.Test.YtbogmijilfefnaaPeT8
set_option linter.unusedVariables false
set_option linter.unusedSimpArgs false
namespace Go.Q15
open Go Go.QAbs
set_option maxRecDepth 100000
set_option maxHeartbeats 8000000
noncomputable def Yr (N:ZJ) (q:Tr × Tr) (p:Pce):Tr × Tr :=
 if p.k=2 then ((concM N q.1 (Z3 p.t)).own,q.2)
 else if p.k=1 then ((concM N q.1 (cutF N q.2.h q.2 p.n).1.own).own,(cutF N q.2.h q.2 p.n).2.own)
 else (q.1,(cutF N q.2.h q.2 p.n).2.own)
noncomputable def JD (N:ZJ) (t:Tr) (l:List Pce):Tr × Tr:=l.foldl (Yr N) (.zero,t)
theorem Xe (N:ZJ) (t:Tr) (l:List Pce) (p:Pce):JD N t (l++[p])=Yr N (JD N t l) p:=by simp [JD]
structure PlOk (N:ZJ) (t:Tr) (l:List Pce) (q:Tr × Tr):Prop where
 d:VE N q.1
 r:VE N q.2
 db:q.1.bytes=J5 l
 rb:q.2.bytes=t.bytes-inL l
theorem VE.zero (N:ZJ):VE N .zero:=.inl zero_empty
theorem ZlR {N:ZJ} (hN:GoodN N) {t:Tr} {l:List Pce} {q:Tr × Tr} (h:PlOk N t l q) (hl:∀ p∈l,Xd p) {p:Pce} (hp:Xd p) (ht:t.bytes<=65536) (hi:inL (l++[p])<=t.bytes) (ho:J5 (l++[p])<=65536):PlOk N t (l++[p]) (Yr N q p):=by
 obtain ⟨hd,hr,hdb,hrb⟩:=h
 have e1:inL (l++[p])=inL l+inP p/\J5 (l++[p])=J5 l+ZD7 p:=by simp [inL,J5]
 obtain ⟨i1,i2⟩:=ZDB hl;rw [e1.1] at hi;rw [e1.2] at ho;unfold Yr;unfold Xd at hp
 split
 ·rename_i h2
  have ei:inP p=0:=by unfold inP;rw [if_neg (by omega)]
  have eo:ZD7 p=p.t.length:=by unfold ZD7;rw [if_neg (by omega),if_neg (by omega)]
  obtain ⟨b1,b2,b3⟩:=J8 hN (s:=p.t) (by omega)
  have k1:=YD hN hd b1 (by rw [b3];omega)
  exact ⟨ZKS k1.ve,hr,by rw [Yv,k1.bytes,b3,e1.2];omega,by show q.2.bytes=_;rw [e1.1];omega⟩
 ·rename_i h2
  have ei:inP p=p.n:=by unfold inP;rw [if_pos (by omega)]
  have c1:=Yk hN q.2.h q.2 p.n hr rfl (by omega) (by omega) (by omega)
  split
  ·rename_i h1
   have eo:ZD7 p=p.n:=by unfold ZD7;rw [if_pos h1]
   have hlb:(cutF N q.2.h q.2 p.n).1.own.bytes=p.n:=by rw [Yv];exact c1.lb
   have k1:=YD hN hd (ZKS c1.l) (by rw [hlb];omega)
   refine ⟨ZKS k1.ve,ZKS c1.r,by rw [Yv,k1.bytes,hlb,e1.2];omega,?_⟩
   rw [Yv,c1.rb,e1.1];omega
  ·rename_i h1
   have eo:ZD7 p=0:=by unfold ZD7;rw [if_neg h1,if_pos (by omega)]
   refine ⟨hd,ZKS c1.r,by show q.1.bytes=_;rw [e1.2];omega,?_⟩
   rw [Yv,c1.rb,e1.1];omega
theorem ZYL {N:ZJ} (hN:GoodN N) {t:Tr} (hv:VE N t) (ht:t.bytes<=65536) {l:List Pce} (hl:∀ p∈l,Xd p) (hi:inL l<=t.bytes) (ho:J5 l<=65536):∀ i,PlOk N t (l.take i) (JD N t (l.take i))
 | 0=>⟨VE.zero N,hv,rfl,by simp [inL,JD]⟩
 | i+1=>by
  have ih:=ZYL hN hv ht hl hi ho i
  rcases Nat.lt_or_ge i l.length with hlt|hge
  ·obtain ⟨p,hp⟩:∃ x,l[i]?=some x:=⟨l[i]'hlt,jE _⟩
   have e:l.take (i+1)=l.take i++[p]:=Zg hp;obtain ⟨s1,s2⟩:=ZCR l (i+1)
   obtain ⟨n1,n2⟩:=ZDB (l:=l.drop (i+1)) fun q hq=>hl q (List.mem_of_mem_drop hq)
   rw [e] at s1 s2 ⊢;rw [Xe]
   exact ZlR hN ih (fun q hq=>hl q (List.mem_of_mem_take hq)) (hl p (jM hp)) ht (by omega) (by omega)
  ·rw [List.take_of_length_le (by omega)] at ih ⊢
   exact ih
theorem ZiE {st:St} {lw iw la b:Nat} {N:ZJ} {t:Tr} {l:List Pce} {q:Tr × Tr} (H:Cl st [(lw,iw)] [wB la b q.1 q.2]) (hR:RdO st la (b+5) N [(lw,iw)]) (hN:GoodN N) (h:PlOk N t l q) (hl:∀ p∈l,Xd p) {p:Pce} (hp:Xd p) (ht:t.bytes<=65536) (hi:inL (l++[p])<=t.bytes) (ho:J5 (l++[p])<=65536) :
 S Tb Qd [.ptr lw iw 0 0 0,p.av] st=some (.int .i64 0,Ql st [(lw,iw)] [wB la b (Yr N q p).1 (Yr N q p).2]):=by
 obtain ⟨hd,hr,hdb,hrb⟩:=h
 have e1:inL (l++[p])=inL l+inP p/\J5 (l++[p])=J5 l+ZD7 p:=by simp [inL,J5]
 obtain ⟨i1,i2⟩:=ZDB hl;rw [e1.1] at hi;rw [e1.2] at ho;obtain ⟨k,n,s⟩:=p;unfold Xd at hp;unfold inP at hi;unfold ZD7 at ho;unfold Yr
 simp only at *
 rcases hp with ⟨h1,h2,h3⟩|⟨h1,h2,h3⟩
 ·subst h3
  rcases h1 with rfl|rfl
  ·rw [if_neg (by decide),if_pos rfl]
   simp only [true_or,if_true] at hi ho
   exact ZhB H hR hN hd hr (by omega) (by omega) (by omega) (by omega)
  ·rw [if_neg (by decide),if_neg (by decide)]
   simp only [or_true,if_true] at hi
   exact ZhC H hR hN hr (by omega) (by omega) (by omega)
 ·subst h1 h2
  rw [if_pos rfl]
  rw [if_neg (by decide),if_neg (by decide)] at ho
  exact ZjS H hR hN hd (by omega)
set_option maxHeartbeats 16000000
def Ys (N:ZJ) (rs:List Ro) (t:Tr):List Nat:=(rs.flatMap fun r=>Xy N r t).foldl JU []
theorem AROk.lv {r:AR} (h:AROk r):∀ l,Lv r.nodes l->l.length<=16384:=fun l hl=>h.few hl.1 hl.2
theorem AROk.nz {r:AR} (h:AROk r):∀ o x,lk r.nodes o=some x->o≠0:=fun o x hx=>(h.hnd hx).2
theorem ZIK {N:ZJ} (hN:GoodN N) (hK:∀ l,Lv N l->l.length<=16384) {r:Ro} (hr:RtOk N r) (t:Tr):(Xy N r t).length<=16384:=by
 unfold Xy
 split
 ·simp
 ·rename_i h0
  obtain ⟨x,x1,x2,x3,x4⟩:∃ x,lk N r.at_=some x/\NdOk x/\x.h=r.h/\x.mea=r.m:=by
   rcases hr with rfl|w
   ·exact absurd rfl h0
   ·exact w.2
  have:=hK _ (ZhD hN r.h r.at_ [] x x1 x3 ⟨by simp,by simp⟩)
  exact Nat.le_trans (List.length_filter_le ..) this
theorem ZlS {N:ZJ} (hN:GoodN N) (hK:∀ l,Lv N l->l.length<=16384) (t:Tr):∀ {rs:List Ro},(∀ r∈rs,RtOk N r)->(rs.flatMap fun r=>Xy N r t).length<=rs.length*16384:=by
 intro rs
 induction rs with
 | nil=>intro _;simp
 | cons r l ih =>
  intro h
  have h1:=ZIK hN hK (h r (by simp)) t
  have h2:=ih (fun z hz=>h z (List.mem_cons_of_mem _ hz))
  rw [List.flatMap_cons,lL,List.length_cons];omega
theorem DrOk.app {M:Nat} {G:List Blk} {dv:AV} {w:List Nat} (h:DrOk M G dv w) (T:List Blk):DrOk M (G++T) dv w:=by
 rcases h with h|⟨j,ver,h1,h2,h3⟩
 ·exact .inl h
 ·exact .inr ⟨j,ver,h1,h2,by rw [jL (List.getElem?_eq_some_iff.1 h3).1];exact h3⟩
theorem Zfq {A:List (Bool × List Blk)} {N:ZJ} (hN:GoodN N) (hK:∀ l,Lv N l->l.length<=16384) (hz:∀ o x,lk N o=some x->o≠0) {la b:Nat} (hR:∀ L,Rd ⟨A,false,L⟩ la (b+5) N) {rs:List Ro} (hrs:∀ r∈rs,RtOk N r) (hl:rs.length<=3) {t:Tr} (hv:VE N t) (hb:t.bytes<=65536) {b6:Blk} {k:List Fr} {Q:Jv}
 (hQ:∀ G dv,DrOk A.length G dv (Ys N rs t)->Rk (S Tb) k Q .norm [(0,.ptr la (b+5) 0 0 0),(6,.ptr A.length 0 0 0 0),(8,.ptr A.length 1 0 0 0),(10,.ptr A.length 2 0 0 0),(11,.map A.length 3),(29,.lit (rs.map Ro.av)),(30,.int .i64 rs.length),(31,.int .i64 rs.length),(32,.bool false)] ⟨A,false,chL b6 t dv (Ys N rs t) G⟩) :
 Ru (S Tb) p_edit_change_21.loop (.blk 0::k) Q [(0,.ptr la (b+5) 0 0 0),(6,.ptr A.length 0 0 0 0),(8,.ptr A.length 1 0 0 0),(10,.ptr A.length 2 0 0 0),(11,.map A.length 3),(29,.lit (rs.map Ro.av)),(30,.int .i64 rs.length),(31,.int .i64 0)] ⟨A,false,chL b6 t .nils [] []⟩:=by
 refine Z2 (α:=Nat × AV × List Blk) (fun p=>[(0,.ptr la (b+5) 0 0 0),(6,.ptr A.length 0 0 0 0),(8,.ptr A.length 1 0 0 0),(10,.ptr A.length 2 0 0 0),(11,.map A.length 3),(29,.lit (rs.map Ro.av)),(30,.int .i64 rs.length),(31,.int .i64 p.1)])
  (fun p=>⟨A,false,chL b6 t p.2.1 (Ys N (rs.take p.1) t) p.2.2⟩) (fun p=>p.1<=rs.length/\DrOk A.length p.2.2 p.2.1 (Ys N (rs.take p.1) t)) (fun p=>rs.length-p.1) (0,.nils,[]) rfl rfl ⟨Nat.zero_le _,.inl ⟨rfl,rfl⟩⟩ ?_
 rintro ⟨i,dv,G⟩ ⟨hi,hD⟩
 simp only at hi hD ⊢
 rcases Nat.lt_or_ge i rs.length with hlt|hge
 ·obtain ⟨ro,hro⟩:∃ x,rs[i]?=some x:=⟨rs[i]'hlt,jE _⟩
  have q:0<=((i:Nat):Int)/\rs[((i:Nat):Int).toNat]?=some ro:=⟨by omega,by rw [show ((i:Nat):Int).toNat=i by omega];exact hro⟩
  have hrt:=hrs ro (jM hro)
  have hDp:=fun L=>ZQM hN hK hz (hR L) hrt hv hb
  have hdl:=ZIK hN hK hrt t
  have hfl:=ZlS hN hK t (rs:=rs.take i) (fun z hz=>hrs z (List.mem_of_mem_take hz))
  rw [List.length_take,Nat.min_eq_left hi] at hfl
  have hwl:=ZbP ((rs.take i).flatMap fun r=>Xy N r t) []
  change (Ys N (rs.take i) t).length<=_ at hwl
  simp only [List.length_nil] at hwl
  have hnx:Ys N (rs.take (i+1)) t=(Xy N ro t).foldl JU (Ys N (rs.take i) t):=by
   unfold Ys;rw [Zg hro,List.flatMap_append,List.foldl_append];simp
  have hin:=fun k Q hQ=>ZlO (A:=A) (b6:=b6) (t:=t) (dl:=Xy N ro t) (hD.app [.arr 5 0 [ro.av]]) (by omega) (v0:=.ptr la (b+5) 0 0 0) (v29:=.lit (rs.map Ro.av)) (v30:=.int .i64 rs.length) (v31:=.int .i64 i) (k:=k) (Q:=Q) hQ
  rw [<- hnx] at hin
  generalize Xy N ro t=dl at *
  generalize Ys N (rs.take i) t=W at *
  have f13:∀ b0 b1 b2 b3:Blk,(b0::b1::b2::b3::G++[Blk.arr 5 0 [ro.av]])[(b0::b1::b2::b3::G).length]?=some (.arr 5 0 [ro.av]):=fun _ _ _ _=>List.getElem?_concat_length ..
  obtain ⟨ra,rh,rm⟩:=ro
  unfold chL Ro.av at *
  repeat' (first|refine hin _ _ (fun G' dv' hD'=>?_)|refine YE (f:=Ro.av) rfl rfl q (fun _=>rfl) ?_|refine ZDE rfl ?_|refine ZE ?_|refine ZD ?_|refine ZF rfl ?_|refine Zs rfl rfl ?_|refine ZA rfl ?_|refine ZC ?_|refine JF rfl rfl rfl ?_|refine QM rfl rfl ?_|(refine Zh rfl rfl (fun _=>?_) (fun _=>?_)<;>try (exfalso;omega))|(refine Zk rfl rfl (fun _=>?_) (fun _=>?_)<;>try (exfalso;omega))|refine ZV rfl ?_|refine ZH rfl ?_|refine Zm rfl rfl (by omega) ?_|refine Zw rfl rfl rfl ?_|refine Yf rfl rfl rfl rfl rfl rfl ?_|refine ZB rfl rfl (by first|rfl|(simp only [lE,lN,lC,ZZ,ZW,ZX];first|done|rfl)) (hDp _) ?_|refine ZP rfl rfl rfl (Zq _) ?_|refine ZI ?_|refine ZL ?_|refine Zy ?_|refine QH ?_)
  all_goals try contradiction
  all_goals try (exfalso;omega)
  exact ⟨(i+1,dv',G'),⟨rfl,rfl⟩,⟨by simp only;omega,hD'⟩,by simp only;omega⟩
 ·obtain rfl:i=rs.length:=by omega
  rw [List.take_length] at hD ⊢
  repeat' (first|refine ZE ?_|refine ZD ?_|refine ZA rfl ?_|refine ZC ?_|(refine Zh rfl rfl (fun _=>?_) (fun _=>?_)<;>try (exfalso;omega))|refine ZH rfl ?_|refine Zu ?_|refine Ze ?_|refine Zb rfl ?_|refine Zt ?_)
  all_goals try (exfalso;omega)
  exact hQ G dv hD
theorem ZlT {st:St} {la b:Nat} {r:AR} (hA:Has st la b r) (ho:AROk r) (hg:GoodN r.nodes) {rs:List Ro} (hrs:∀ r'∈rs,RtOk r.nodes r') (hl:rs.length<=3) {t:Tr} (hv:VE r.nodes t) (hb:t.bytes<=65536) {mk:FuncId} {caps:List AV}
 (hmk:∀ A L,A=st.ps->S Tb mk caps ⟨A,false,L⟩=some (.tup [t.av,.int .i64 0],⟨A,false,L⟩)) (hwk:ZX (ZZ ([]++[]++caps))=some caps) (hn:nw t<=r.n) :
 S Tb ZDt [.ptr la (b+5) 0 0 0,.func (.func mk) [] caps,.lit (rs.map Ro.av)] st=some (.tup [Qz (wrV t r).2.1 (wrV t r).2.2 (slH (Ys r.nodes rs t)),.int .i64 0],QP st la b (wrV t r).1):=by
 refine Xw rfl (fun A hA'=>?_)
 have hM:=fun L=>hmk A L hA'
 have hlp:=fun k Q hQ=>Zfq (A:=A) hg ho.lv ho.nz (fun L=>(hA.r.push hA' (ro:=false) (L:=L)).rd) hrs hl hv hb (b6:=.arr 7 0 [chZ]) (k:=k) (Q:=Q) hQ
 have hle:=hA.le
 have hWr:=fun L=>ZUG (hA.push hA' (ro:=false) (L:=L)) ho hg hv hb hn
 simp only [YV hA' hle] at hWr
 have hAl:A.length=((QP st la b (wrV t r).1).ps).length:=by rw [hA'];simp [ZBl]
 generalize (wrV t r).2.1=ro at *
 generalize (wrV t r).2.2=fr at *
 obtain ⟨A2,hA2⟩:∃ A2,A2=(QP st la b (wrV t r).1).ps:=⟨_,rfl⟩;rw [<- hA2] at hWr hAl;unfold chL at hlp
 unfold chZ at *
 repeat' (first|refine ZB rfl rfl hwk (hM _) ?_|refine hlp _ _ (fun G dv hD=>?_)|refine ZDE rfl ?_|refine ZE ?_|refine ZD ?_|refine ZF rfl ?_|refine Zs rfl rfl ?_|refine ZA rfl ?_|refine ZC ?_|(refine Zk rfl rfl (fun _=>?_) (fun _=>?_)<;>try (exfalso;omega))|refine ZH rfl ?_|refine Zn rfl rfl rfl ?_|refine Za rfl rfl rfl ?_|refine Zl rfl rfl rfl rfl rfl rfl ?_|refine ZCd rfl ?_|refine ZP rfl rfl rfl (Zq _) ?_|refine Zl rfl rfl rfl (Z8 _ _ _) (QY _ _) rfl ?_|refine ZI ?_|refine ZL ?_)
 all_goals try contradiction
 obtain ⟨ra,rh,rm⟩:=ro;unfold Ro.av at hWr
 rcases hD with ⟨e,rfl⟩|⟨j,ver,rfl,hne,hgd⟩
 ·rw [e]
  repeat' (first|refine ZF rfl ?_|refine ZQ rfl rfl ?_|refine Zs rfl rfl ?_|refine ZB rfl rfl (by first|rfl|(simp only [lE,lN,lC,ZZ,ZW,ZX];first|done|rfl)) (hWr _) ?_)
  rw [hAl]
  repeat' (first|refine ZE ?_|refine ZD ?_|refine ZF rfl ?_|refine ZQ rfl rfl ?_|refine ZP rfl rfl rfl rfl ?_|refine ZA rfl ?_|refine ZC ?_|(refine Zk rfl rfl (fun _=>?_) (fun _=>?_)<;>try (exfalso;omega))|refine ZH rfl ?_|refine Qo rfl rfl rfl rfl rfl rfl ?_|refine ZI ?_|refine ZS ?_|refine ZO ?_)
  all_goals try contradiction
  exact ZD9 (w:=Qz ⟨ra,rh,rm⟩ fr .nils) hA2 (.inr rfl) rfl rfl rfl rfl rfl rfl
 ·have hg3:∀ b0 b1 b2 b3:Blk,(b0::b1::b2::b3::G)[j+4]?=some (.arr 1 ver ((Ys r.nodes rs t).map Z6)):=fun _ _ _ _=>hgd
  unfold slH;rw [if_neg hne]
  generalize Ys r.nodes rs t=dd at *
  repeat' (first|refine ZF rfl ?_|refine ZQ rfl rfl ?_|refine Zs rfl rfl ?_|refine ZB rfl rfl (by first|rfl|(simp only [lE,lN,lC,ZZ,ZW,ZX];first|done|rfl)) (hWr _) ?_)
  rw [hAl]
  repeat' (first|refine Qo rfl rfl rfl rfl (ZlP (ro:=⟨ra,rh,rm⟩) (fr:=fr) _ (Nat.lt_succ_self _)) rfl ?_|refine ZE ?_|refine ZD ?_|refine ZF rfl ?_|refine ZQ rfl rfl ?_|refine ZP rfl rfl rfl rfl ?_|refine ZA rfl ?_|refine ZC ?_|(refine Zk rfl rfl (fun _=>?_) (fun _=>?_)<;>try (exfalso;omega))|refine ZH rfl ?_|refine Qo rfl rfl rfl rfl rfl rfl ?_|refine ZI ?_|refine ZS ?_|refine ZO ?_)
  all_goals try contradiction
  exact ZD9 (v:=Qz ⟨ra,rh,rm⟩ fr (.ref A2.length (j+4) ver 0 dd.length)) (w:=Qz ⟨ra,rh,rm⟩ fr (.lit (dd.map Z6))) hA2 (.inr rfl) rfl rfl rfl rfl rfl (ZlQ (hg3 _ _ _ _) rfl)
noncomputable def ZAv (N:ZJ) (ro:Ro) (l:List Pce):Tr:=(JD N (YW ro) l).1
structure PaOk (N:ZJ) (ro:Ro) (s0:List UInt8) (l:List Pce):Prop where
 rt:Rt N ro s0
 dl:DlOk l
 i:inL l=s0.length
 o:J5 l<=65536
 b:s0.length<=60000
section
variable {O:Orc} {k:List Fr} {Q:Jv} {e:Env} {st:St} {keep:List Nat} {is:List QAbs.PI}
theorem ZbQ {d la b:Nat} {x y:Opd} {t:Tr} (hx:Zc e x=some (.ptr la (b+5) 0 0 0)) (hy:Zc e y=some t.av) (h:Is O is keep k Q ((d,wAV la b .zero t)::e) st) :
 Is O (⟨some d,none,false,.build [.nilptr,(.int .u64 0),(.int .i64 0),(.int .i64 0),(.int .i64 0),(.int .i64 0),(.str []),.nils,(.int .u64 0),(.int .i64 0),(.int .i64 0),(.int .i64 0),(.int .i64 0),(.str []),.nils] [(0,1,x),(8,7,y)]⟩::is) keep k Q e st:=by
 refine Z1 (od:=some d) (v:=wAV la b .zero t) (st':=st) ?_ h
 cases t
 rename_i k1
 have e1:XN e [(0,1,x),(8,7,y)]=[(0,1,x.get e),(8,7,y.get e)]:=rfl;simp only [Zf,evalPO,e1,ZG hx,ZG hy]
 cases k1<;>simp only [fillV,Tr.av,Tr.avO,AV.wide,AV.cells]<;>rfl
end
theorem ZlU (la b:Nat) (d r:Tr):(wAV la b d r).wide=some 15:=by
 cases d;cases r
 rename_i k1 _ _ _ _ k2
 cases k1<;>cases k2<;>rfl
theorem ZiF (la b:Nat) (d r:Tr):Jw (wAV la b d r)=some (wAV la b d r):=by
 cases d;cases r
 rename_i k1 _ _ _ _ k2
 cases k1<;>cases k2<;>rfl
theorem Zno {A:List (Bool × List Blk)} {L:List Blk} {i:Nat} {x:Blk}:Ql ⟨A,false,L⟩ [(A.length,i)] [x]=⟨A,false,L.set i x⟩:=by
 simp [Ql,St.upd]
theorem ZnT {st:St} {la b lv ix ver:Nat} {r:AR} (hA:Has st la b r) (ho:AROk r) (hg:GoodN r.nodes) {ro:Ro} {s0:List UInt8} {l:List Pce} (h:PaOk r.nodes ro s0 l) (hgd:st.get lv ix=some (.arr 3 ver (l.map Pce.av))) (hn:nw (ZAv r.nodes ro l)<=r.n) :
 S Tb Yt [.ptr la (b+5) 0 0 0,ro.av,.ref lv ix ver 0 l.length] st=some (.tup [Qz (wrV (ZAv r.nodes ro l) r).2.1 (wrV (ZAv r.nodes ro l) r).2.2 (.lit ((Xy r.nodes ro (ZAv r.nodes ro l)).map Z6)),.int .i64 0],QP st la b (wrV (ZAv r.nodes ro l) r).1):=by
 unfold ZAv at *
 refine Xw rfl (fun A hA'=>?_)
 have hlv:=hA.le
 have hRO:∀ L,RdO ⟨A,false,L⟩ la (b+5) r.nodes [(A.length,3)]:=fun L=>by
  have h5:=ZU hA' (ro:=false) (L:=L) hA.h5;have h4:=ZU hA' (ro:=false) (L:=L) hA.h4
  have hal:A.length=st.A.length+1:=by rw [hA'];simp
  refine ⟨_,_,_,_,_,_,h5,h4,?_,?_⟩<;>simp only [List.mem_cons,jP,List.not_mem_nil,or_false]<;>omega
 have hRd:=fun L=>(hA.r.push hA' (ro:=false) (L:=L)).rd
 have hK:=fun L=>ZNF (hRd L) h.rt.rt
 have hLen:=fun L=>ZjE h.dl (ZU hA' (ro:=false) (L:=L) hgd)
 have hin:=h.i;have hb:=h.b;have hout:=h.o;have hmb:ro.m.b=s0.length:=(h.rt.b hg).2;have hkb:=(h.rt.b hg).1;have hkv:=h.rt.keep.1
 have hpl:=fun i=>ZYL hg hkv (by omega) h.dl.v (by rw [hkb,h.i];omega) h.o i
 have hdl:=h.dl;obtain ⟨ra,rh,rm⟩:=ro;obtain ⟨mb,mr,ml⟩:=rm
 simp only at hmb
 unfold Ro.av at *
 simp only at *
 generalize YW ⟨ra,rh,⟨mb,mr,ml⟩⟩=kt at *
 repeat' (first|refine ZbQ rfl rfl ?_|refine Zw rfl (ZlU _ _ _ _) (ZiF _ _ _ _) ?_|refine ZE ?_|refine ZD ?_|refine ZF rfl ?_|refine ZQ rfl rfl ?_|refine ZP rfl rfl rfl rfl ?_|refine Zs rfl rfl ?_|refine ZA rfl ?_|refine ZC ?_|refine YB rfl ?_|(refine QR rfl rfl (fun _=>?_) (fun _=>?_)<;>try (exfalso;omega))|(refine Zk rfl rfl (fun _=>?_) (fun _=>?_)<;>try (exfalso;omega))|refine ZH rfl ?_|refine Za rfl rfl rfl ?_|refine ZB rfl rfl (by first|rfl|(simp only [lE,lN,lC,ZZ,ZW,ZX];first|done|rfl)) (hK _) ?_|refine ZB rfl rfl (by first|rfl|(simp only [lE,lN,lC,ZZ,ZW,ZX];first|done|rfl)) (hLen _) ?_|refine ZP rfl rfl rfl (Zq _) ?_|refine Zl rfl rfl rfl (Z8 _ _ _) (QY _ _) rfl ?_|refine ZI ?_|refine ZL ?_|refine Zy ?_)
 all_goals try (exfalso;omega)
 all_goals try contradiction
 have g:=fun L=>ZU hA' (ro:=false) (L:=L) hgd
 have hw:∀ L,wIs 3 ver (St.get ⟨A,false,L⟩ lv ix)=true:=fun L=>by rw [g];simp [wIs]
 refine Z2 (α:=Nat) (fun i=>[(0,.ptr la (b+5) 0 0 0),(4,.ptr A.length 0 0 0 0),(6,.ptr A.length 1 0 0 0),(12,.ptr A.length 3 0 0 0),(55,.ref lv ix ver 0 l.length),(56,.int .i64 l.length),(57,.int .i64 i)])
  (fun i=>⟨A,false,.arr 5 0 [.agg [.int .u64 ra,.int .i64 rh,.int .i64 mb,.int .i64 mr,.int .i64 ml]]::.arr 7 0 [chZ]::.arr 7 0 [kt.av]::wB la b (JD r.nodes kt (l.take i)).1 (JD r.nodes kt (l.take i)).2::(l.take i).map fun p=>Blk.arr 3 0 [p.av]⟩) (fun i=>i<=l.length) (fun i=>l.length-i) 0 rfl rfl (by omega) ?_
 rintro i hi'
 have hn4:=hdl.n
 rcases Nat.lt_or_ge i l.length with hlt|hge
 ·obtain ⟨p,hp⟩:∃ x,l[i]?=some x:=⟨l[i]'hlt,jE _⟩
  have hpm:=jM hp
  have q:(l.map Pce.av)[0+((i:Nat):Int).toNat]?=some p.av:=by
   rw [show 0+((i:Nat):Int).toNat=i by omega,jG,hp];rfl
  have ht:l.take (i+1)=l.take i++[p]:=Zg hp;obtain ⟨s1,s2⟩:=ZCR l (i+1)
  obtain ⟨n1,n2⟩:=ZDB (l:=l.drop (i+1)) fun q hq=>hdl.v q (List.mem_of_mem_drop hq)
  rw [ht] at s1 s2
  have hP:=fun L (H:Cl ⟨A,false,L⟩ [(A.length,3)] [wB la b (JD r.nodes kt (l.take i)).1 (JD r.nodes kt (l.take i)).2])=>ZiE H (hRO L) hg (hpl i) (fun q hq=>hdl.v q (List.mem_of_mem_take hq)) (hdl.v p hpm) (by omega) (by omega) (by omega)
  have hst:JD r.nodes kt (l.take (i+1))=Yr r.nodes (JD r.nodes kt (l.take i)) p:=by rw [ht,Xe]
  generalize Yr r.nodes (JD r.nodes kt (l.take i)) p=q2 at *
  generalize JD r.nodes kt (l.take i)=q1 at *
  have hP2:∀ (b0 b1 b2:Blk) (T:List Blk),S Tb Qd [.ptr A.length 3 0 0 0,p.av] ⟨A,false,b0::b1::b2::wB la b q1.1 q1.2::T⟩=some (.int .i64 0,⟨A,false,b0::b1::b2::wB la b q2.1 q2.2::T⟩):=by
   intro b0 b1 b2 T
   rw [hP _ ⟨by simp,rfl,fun k hk=>?_,fun j lv ix c h1 h2=>?_⟩,Zno]
   ·rfl
   ·simp only [List.mem_cons,List.not_mem_nil,or_false] at hk
    subst hk
    simp [St.wr]
   ·match j,h1,h2 with
    | 0,h1,h2 =>
     simp only [List.getElem?_cons_zero,oJ,jP] at h1 h2;obtain ⟨rfl,rfl⟩:=h1;subst h2;simp only [St.get,if_true];rfl
  generalize hB:(l.take i).map (fun p=>Blk.arr 3 0 [p.av])=B
  repeat' (first|refine is_stPc rfl rfl ?_|refine Zdl rfl ?_|refine ZE ?_|refine ZD ?_|refine ZF rfl ?_|refine ZA rfl ?_|refine ZC ?_|(refine Zh rfl rfl (fun _=>?_) (fun _=>?_)<;>try (exfalso;omega))|(refine Zk rfl rfl (fun _=>?_) (fun _=>?_)<;>try (exfalso;omega))|refine ZV rfl ?_|refine ZH rfl ?_|refine Zm rfl rfl (by omega) ?_|refine Zw rfl rfl rfl ?_|refine ZBB rfl rfl (by omega) (hw _) ?_|refine Z9 rfl (g _) q rfl ?_|refine ZB rfl rfl rfl (hP2 _ _ _ _) ?_|refine ZI ?_|refine ZL ?_|refine Zy ?_|refine QH ?_)
  all_goals try (exfalso;omega)
  all_goals try contradiction
  refine ⟨i+1,⟨rfl,?_⟩,by omega,by omega⟩
  rw [hst,ht,List.map_append,hB];rfl
 ·obtain rfl:i=l.length:=by omega
  have hf:=hpl l.length;rw [List.take_length] at hf ⊢;have hv:=hf.d;have htb:=hf.db
  have hDr:=fun L=>ZQM hg ho.lv ho.nz (hRd L) h.rt.rt hv (by omega)
  have hWr:=fun L=>ZUG (hA.push hA' (ro:=false) (L:=L)) ho hg hv (by omega) hn
  simp only [YV hA' hlv] at hWr
  generalize (JD r.nodes kt l).2=rest at *
  generalize (JD r.nodes kt l).1=t at *
  have hAl:A.length=((QP st la b (wrV t r).1).ps).length:=by rw [hA'];simp [ZBl]
  generalize (wrV t r).2.1=ro2 at *
  generalize (wrV t r).2.2=fr at *
  obtain ⟨A2,hA2⟩:∃ A2,A2=(QP st la b (wrV t r).1).ps:=⟨_,rfl⟩;rw [<- hA2] at hWr hAl;unfold Ro.av at hDr
  simp only at hDr
  generalize Xy r.nodes ⟨ra,rh,⟨mb,mr,ml⟩⟩ t=dd at *
  obtain ⟨ra2,rh2,rm2⟩:=ro2;unfold Ro.av at hWr
  simp only at hWr
  generalize (l.map fun p=>Blk.arr 3 0 [p.av])=B at *
  have w1:=ZNI la b t rest
  unfold chZ at *
  repeat' (first|refine ZP rfl rfl rfl w1 ?_|refine ZE ?_|refine ZD ?_|refine ZF rfl ?_|refine ZQ rfl rfl ?_|refine ZP rfl rfl rfl rfl ?_|refine Zs rfl rfl ?_|refine ZA rfl ?_|refine ZC ?_|refine Zz rfl rfl ?_|(refine Zh rfl rfl (fun _=>?_) (fun _=>?_)<;>try (exfalso;omega))|(refine Zk rfl rfl (fun _=>?_) (fun _=>?_)<;>try (exfalso;omega))|refine ZH rfl ?_|refine ZB rfl rfl (by first|rfl|(simp only [lE,lN,lC,ZZ,ZW,ZX];first|done|rfl)) (hDr _) ?_|refine ZI ?_|refine Zu ?_|refine Ze ?_|refine Zb rfl ?_|refine Zt ?_)
  all_goals try (exfalso;omega)
  all_goals try contradiction
  repeat' (first|refine ZE ?_|refine ZD ?_|refine ZF rfl ?_|refine Zs rfl rfl ?_|refine ZA rfl ?_|refine ZC ?_|refine JF rfl rfl rfl ?_|(refine Zk rfl rfl (fun _=>?_) (fun _=>?_)<;>try (exfalso;omega))|refine ZH rfl ?_|refine Zn rfl rfl rfl ?_|refine Zw rfl rfl rfl ?_|refine Yf rfl rfl rfl rfl rfl rfl ?_|refine ZB rfl rfl (by first|rfl|(simp only [lE,lN,lC,ZZ,ZW,ZX];first|done|rfl)) (hWr _) ?_|refine ZI ?_)
  rw [hAl]
  repeat' (first|refine ZF rfl ?_|refine ZA rfl ?_|refine ZC ?_|refine Qo rfl rfl rfl rfl rfl rfl ?_|refine ZS ?_|refine ZO ?_)
  all_goals try contradiction
  exact ZD9 (v:=Qz ⟨ra2,rh2,rm2⟩ fr (.lit (dd.map Z6))) (w:=Qz ⟨ra2,rh2,rm2⟩ fr (.lit (dd.map Z6))) hA2 (.inr rfl) rfl rfl rfl rfl rfl rfl
def Sm (x y:Tr):Prop:=x.own=y.own
def SmL (l m:List Tr):Prop:=l.map Tr.own=m.map Tr.own
theorem ZNJ (t:Tr):t.own.own=t.own:=by
 induction t using Tr.ind with
 | step o h m s k ih =>
  rw [Tr.own,Tr.own]
  congr 1
  cases k with
  | none=>rw [Tr.ownO,Tr.ownO];rfl
  | some l =>
   rw [Tr.ownO,Tr.ownO,Tr.ownL_map,Tr.ownL_map,List.map_map]
   congr 1
   exact List.map_congr_left fun t ht=>ih t (by simpa using ht)
theorem Sm.refl (x:Tr):Sm x x:=rfl
theorem Sm.self (x:Tr):Sm x.own x:=ZNJ x
theorem Sm.symm {x y:Tr} (h:Sm x y):Sm y x:=Eq.symm h
theorem Sm.trans {x y z:Tr} (h:Sm x y) (k:Sm y z):Sm x z:=Eq.trans h k
theorem Sm.inv {o1 h1 o2 h2:Nat} {m1 m2:Mea} {s1 s2:List UInt8} {k1 k2:Option (List Tr)} (h:Sm (.mk o1 h1 m1 s1 k1) (.mk o2 h2 m2 s2 k2)):o1=o2/\h1=h2/\m1=m2/\s1=s2/\SmL (k1.getD []) (k2.getD []):=by
 unfold Sm at h;rw [Tr.own,Tr.own] at h;simp only [Tr.mk.injEq] at h;obtain ⟨a,b,c,d,e⟩:=h;refine ⟨a,b,c,d,?_⟩
 have:=congrArg (fun k=>Option.getD k []) e
 simp only [ZCS] at this;exact this
theorem Sm.h {x y:Tr} (h:Sm x y):x.h=y.h:=by rw [<- ZlB x,<- ZlB y,h]
theorem Sm.bytes {x y:Tr} (h:Sm x y):x.bytes=y.bytes:=by rw [<- Yv x,<- Yv y,h]
theorem SmL.refl (l:List Tr):SmL l l:=rfl
theorem SmL.len {l m:List Tr} (h:SmL l m):l.length=m.length:=by have:=congrArg List.length h;simpa using this
theorem SmL.app {l m l' m':List Tr} (h:SmL l m) (k:SmL l' m'):SmL (l++l') (m++m'):=by unfold SmL at *;rw [List.map_append,List.map_append,h,k]
theorem SmL.take {l m:List Tr} (h:SmL l m) (n:Nat):SmL (l.take n) (m.take n):=by unfold SmL at *;rw [List.map_take,List.map_take,h]
theorem SmL.drop {l m:List Tr} (h:SmL l m) (n:Nat):SmL (l.drop n) (m.drop n):=by unfold SmL at *;rw [List.map_drop,List.map_drop,h]
theorem SmL.cons {x y:Tr} {l m:List Tr} (h:Sm x y) (k:SmL l m):SmL (x::l) (y::m):=by unfold SmL at *;rw [jC,jC,h,k]
theorem SmL.get {l m:List Tr} (h:SmL l m) (n:Nat):Sm (l[n]?.getD .zero) (m[n]?.getD .zero):=by
 have:=congrArg (fun l:List Tr=>l[n]?) h
 simp only [jG] at this
 cases e1:l[n]?<;>cases e2:m[n]?<;>rw [e1,e2] at this<;>simp at this
 ·exact .refl _
 ·exact this
theorem SmL.two {l m:List Tr} (h:SmL l m):(l=[]/\m=[])\/(∃ x y,l=[x]/\m=[y]/\Sm x y)\/(2<=l.length/\2<=m.length):=by
 have hl:=h.len
 match l,m,hl,h with
 | [],[],_,_=>exact .inl ⟨rfl,rfl⟩
 | [x],[y],_,h=>exact .inr (.inl ⟨x,y,rfl,rfl,by unfold SmL at h;unfold Sm;simpa using h⟩)
 | _::_::_,_::_::_,_,_=>exact .inr (.inr ⟨by simp,by simp⟩)
theorem SmL.hs {l m:List Tr} (h:SmL l m):Tr.hs l=Tr.hs m:=by
 match l,m,h.len,h with
 | [],[],_,_=>rfl
 | x::l,y::m,_,h =>
  have:Sm x y:=by unfold SmL at h;simp only [jC,List.cons.injEq] at h;exact h.1
  exact this.h
theorem SmL.grp {l m:List Tr} (h:SmL l m):Sm (grp l) (grp m):=by
 rcases h.two with ⟨rfl,rfl⟩|⟨x,y,rfl,rfl,k⟩|⟨a,b⟩
 ·exact .refl _
 ·exact k
 ·rw [ZCE a,ZCE b,h.hs]
  unfold Sm;rw [Tr.own,Tr.own,Tr.ownO,Tr.ownO,Tr.ownL_map,Tr.ownL_map,h]
theorem Sm.childs {x y:Tr} (h:Sm x y) (N:ZJ):SmL (childs N x) (childs N y):=by
 obtain ⟨o1,h1,m1,s1,k1⟩:=x;obtain ⟨o2,h2,m2,s2,k2⟩:=y;obtain ⟨rfl,rfl,rfl,rfl,hk⟩:=h.inv
 show SmL (if o1=0 then k1.getD [] else match lk N o1 with|some x=>x.ks.map (Yj (x.h-1))|none=>[]) (if o1=0 then k2.getD [] else match lk N o1 with|some x=>x.ks.map (Yj (x.h-1))|none=>[])
 split
 ·exact hk
 ·exact .refl _
theorem Sm.line {x y:Tr} (h:Sm x y) (N:ZJ):Qc N x=Qc N y:=by
 obtain ⟨o1,h1,m1,s1,k1⟩:=x;obtain ⟨o2,h2,m2,s2,k2⟩:=y;obtain ⟨rfl,rfl,rfl,rfl,hk⟩:=h.inv;rfl
theorem SmL.foldM {l m:List Tr} (h:SmL l m):SmL (foldM l) (foldM m):=by
 unfold Go.Q15.foldM;rw [h.len]
 split
 ·exact .cons h.grp (.refl _)
 ·exact .cons (h.take _).grp (.cons (h.drop _).grp (.refl _))
theorem Sm.leavesM {x y x' y':Tr} (hx:Sm x x') (hy:Sm y y') (N:ZJ):SmL (leavesM N x y) (leavesM N x' y'):=by
 unfold Go.Q15.leavesM;rw [hx.bytes,hy.bytes,hx.line N,hy.line N]
 split
 ·exact .cons hx (.cons hy (.refl _))
 ·exact .refl _
theorem Sm.mergeF (N:ZJ):∀ (n:Nat) {x y x' y':Tr},Sm x x'->Sm y y'->SmL (mergeF N n x y) (mergeF N n x' y')
 | 0,x,y,x',y',hx,hy=>hx.leavesM hy N
 | n+1,x,y,x',y',hx,hy=>by
  have lx:=(hx.childs N).len;have ly:=(hy.childs N).len;unfold Go.Q15.mergeF;rw [hx.h,hy.h,lx,ly]
  split
  ·split
   ·exact .cons (((hx.childs N).app (hy.childs N)).grp) (.refl _)
   ·exact .cons hx (.cons hy (.refl _))
  ·split
   ·exact SmL.foldM (((hx.childs N).take _).app (Sm.mergeF N n ((hx.childs N).get _) hy))
   ·exact SmL.foldM ((Sm.mergeF N n hx ((hy.childs N).get _)).app ((hy.childs N).drop _))
theorem Sm.concM {x y x' y':Tr} (hx:Sm x x') (hy:Sm y y') (N:ZJ):Sm (concM N x y) (concM N x' y'):=by
 unfold Go.Q15.concM;rw [hx.bytes,hy.bytes,hx.h,hy.h]
 split
 ·exact hy
 ·split
  ·exact hx
  ·exact (Sm.mergeF N _ hx hy).grp
theorem SmL.skip:∀ {l m:List Tr} (a:Int),SmL l m->Qs l a=Qs m a
 | [],[],a,_=>rfl
 | [],_::_,a,h=>by have:=h.len;simp at this
 | _::_,[],a,h=>by have:=h.len;simp at this
 | x::l,y::m,a,h=>by
  have hx:Sm x y:=by unfold SmL at h;simp only [jC,List.cons.injEq] at h;exact h.1
  have hl:SmL l m:=by unfold SmL at h;simp only [jC,List.cons.injEq] at h;exact h.2
  cases l<;>cases m
  ·rfl
  ·have:=hl.len;simp at this
  ·have:=hl.len;simp at this
  ·simp only [Qs]
   rw [hx.bytes,SmL.skip _ hl]
theorem Sm.cutF (N:ZJ):∀ (n:Nat) {t t':Tr} (a:Int),Sm t t'->Sm (cutF N n t a).1 (cutF N n t' a).1/\Sm (cutF N n t a).2 (cutF N n t' a).2
 | 0,t,t',a,h=>by
  unfold Go.Q15.cutF;rw [h.bytes,h.line N]
  split
  ·exact ⟨.refl _,h⟩
  ·split
   ·exact ⟨h,.refl _⟩
   ·exact ⟨.refl _,.refl _⟩
 | n+1,t,t',a,h=>by
  have hs:=(h.childs N).skip a;unfold Go.Q15.cutF;rw [h.bytes,hs]
  split
  ·exact ⟨.refl _,h⟩
  ·split
   ·exact ⟨h,.refl _⟩
   ·split
    ·exact ⟨((h.childs N).take _).grp,((h.childs N).drop _).grp⟩
    ·obtain ⟨c1,c2⟩:=Sm.cutF N n (Qs (Go.Q15.childs N t') a).2 ((h.childs N).get (Qs (Go.Q15.childs N t') a).1)
     exact ⟨Sm.concM ((h.childs N).take _).grp c1 N,Sm.concM c2 ((h.childs N).drop _).grp N⟩
noncomputable def edV (N:ZJ) (ro:Ro) (a n:Int) (s:List UInt8):Tr:=(ZBt N (YW ro) a n s).own
structure EdOk (N:ZJ) (ro:Ro) (s0:List UInt8) (a n:Int) (s:List UInt8):Prop where
 rt:Rt N ro s0
 a0:0<=a
 n0:0<=n
 le:a+n<=s0.length
 b1:s0.length<=60000
 b2:s.length<=2000
theorem EdOk.ok {N:ZJ} (hN:GoodN N) {ro:Ro} {s0:List UInt8} {a n:Int} {s:List UInt8} (h:EdOk N ro s0 a n s) :
 VE N (edV N ro a n s)/\(edV N ro a n s).bytes=s0.length-n+s.length/\(edV N ro a n s).txt N=s0.take a.toNat++s++s0.drop (a+n).toNat:=by
 obtain ⟨hk,htx⟩:=h.rt.keep;have hb:=(h.rt.b hN).1;have h1:=h.a0;have h2:=h.n0;have h3:=h.le;have h4:=h.b1;have h5:=h.b2
 have:=ZfU hN (s:=s) hk h1 h2 (by omega) (by omega) (by omega)
 refine ⟨ZKS this.ve,?_,?_⟩
 ·show (Tr.own _).bytes=_;rw [Yv,this.bytes,hb]
 ·show (Tr.own _).txt N=_;rw [ZnM,this.txt,htx]
theorem ZlV {st:St} {la b:Nat} {N:ZJ} (hN:GoodN N) (hR:Rd st la (b+5) N) {ro:Ro} {s0:List UInt8} {a n:Int} {s:List UInt8} (h:EdOk N ro s0 a n s) :
 S Tb ZHB [.ptr la (b+5) 0 0 0,ro.av,.int .i64 a,.int .i64 n,.str s] st=some (.tup [(edV N ro a n s).av,.int .i64 0],st):=by
 refine QJ rfl (fun A hA=>?_)
 have hRA:=fun L=>hR.push hA (ro:=false) (L:=L)
 have hKp:=fun L=>ZNF (hRA L) h.rt.rt
 obtain ⟨hk,htx⟩:=h.rt.keep;have hb:=(h.rt.b hN).1;have h1:=h.a0;have h2:=h.n0;have h3:=h.le;have h4:=h.b1;have h5:=h.b2
 have hRp:=fun L=>ZjF hN (hRA L) hk (a:=a) (n:=n) (s:=s) h1 h2 (by omega) (by omega) (by omega)
 unfold edV
 generalize (ZBt N (YW ro) a n s).own=t at *
 generalize YW ro=kt at *
 obtain ⟨ra,rh,rm⟩:=ro
 unfold Ro.av at *
 repeat' (first|refine ZB rfl rfl ZnP (hRp _) ?_|refine ZE ?_|refine ZD ?_|refine ZF rfl ?_|refine ZP rfl rfl rfl rfl ?_|refine Zs rfl rfl ?_|refine ZA rfl ?_|refine ZC ?_|(refine Zk rfl rfl (fun _=>?_) (fun _=>?_)<;>try (exfalso;omega))|refine ZH rfl ?_|refine Za rfl rfl rfl ?_|refine ZB rfl rfl (by first|rfl|(simp only [lE,lN,lC,ZZ,ZW,ZX];first|done|rfl)) (hKp _) ?_|refine ZP rfl rfl rfl (Zq _) ?_|refine Zl rfl rfl rfl (Z8 _ _ _) (QY _ _) rfl ?_|refine ZI ?_|refine ZS ?_|refine ZO ?_)
 all_goals try contradiction
 all_goals try (exfalso;omega)
 exact ZCF hA (.inr rfl) rfl rfl rfl rfl
theorem ZlW {st:St} {la b lv:Nat} {N:ZJ} (hN:GoodN N) (hR:Rd st la (b+5) N) {ro:Ro} {s0:List UInt8} {a n:Int} {s:List UInt8} (h:EdOk N ro s0 a n s)
 (g0:st.get lv 0=some (.arr 1 0 [.ptr la (b+5) 0 0 0])) (g1:st.get lv 1=some (.arr 5 0 [ro.av])) (g2:st.get lv 2=some (.arr 1 0 [.int .i64 a])) (g3:st.get lv 3=some (.arr 1 0 [.int .i64 n])) (g4:st.get lv 4=some (.arr 1 0 [.str s])) :
 S Tb Xh [.ptr lv 0 0 0 0,.ptr lv 1 0 0 0,.ptr lv 2 0 0 0,.ptr lv 3 0 0 0,.ptr lv 4 0 0 0] st=some (.tup [(edV N ro a n s).av,.int .i64 0],st):=by
 refine QJ rfl (fun A hA=>?_)
 have hPl:=fun L=>ZlV hN (hR.push hA (ro:=false) (L:=L)) h
 have k0:=fun L=>ZU hA (ro:=false) (L:=L) g0
 have k1:=fun L=>ZU hA (ro:=false) (L:=L) g1
 have k2:=fun L=>ZU hA (ro:=false) (L:=L) g2
 have k3:=fun L=>ZU hA (ro:=false) (L:=L) g3
 have k4:=fun L=>ZU hA (ro:=false) (L:=L) g4
 generalize edV N ro a n s=t at *
 repeat' (first|refine Z9 rfl (k0 _) rfl rfl ?_|refine Z9 rfl (k1 _) rfl (ZnO _) ?_|refine Z9 rfl (k2 _) rfl rfl ?_|refine Z9 rfl (k3 _) rfl rfl ?_|refine Z9 rfl (k4 _) rfl rfl ?_|refine ZE ?_|refine ZD ?_|refine ZF rfl ?_|refine Zs rfl rfl ?_|refine ZA rfl ?_|refine ZC ?_|refine Za rfl rfl rfl ?_|refine ZB rfl rfl (by first|rfl|(simp only [lE,lN,lC,ZZ,ZW,ZX];first|done|rfl)) (hPl _) ?_|refine Zl rfl rfl rfl (Z8 _ _ _) (QY _ _) rfl ?_|refine ZS ?_|refine ZO ?_)
 all_goals try contradiction
 exact ZCF hA (.inr rfl) rfl rfl rfl rfl
theorem ZYM {st:St} {la b:Nat} {r:AR} (hA:Has st la b r) (ho:AROk r) (hg:GoodN r.nodes) {ro:Ro} {s0:List UInt8} {a n:Int} {s:List UInt8} (h:EdOk r.nodes ro s0 a n s) (hn:nw (edV r.nodes ro a n s)<=r.n) :
 S Tb ZAc [.ptr la (b+5) 0 0 0,ro.av,.int .i64 a,.int .i64 n,.str s] st=some (.tup [Qz (wrV (edV r.nodes ro a n s) r).2.1 (wrV (edV r.nodes ro a n s) r).2.2 (slH (Ys r.nodes [ro] (edV r.nodes ro a n s))),.int .i64 0],QP st la b (wrV (edV r.nodes ro a n s) r).1):=by
 refine Xw rfl (fun A hA'=>?_)
 have hle:=hA.le;obtain ⟨hv,hvb,_⟩:=h.ok hg;have h1:=h.n0;have h4:=h.b1;have h5:=h.b2
 have hCh:=ZlT (st:=⟨A,false,[.arr 1 0 [.ptr la (b+5) 0 0 0],.arr 5 0 [ro.av],.arr 1 0 [.int .i64 a],.arr 1 0 [.int .i64 n],.arr 1 0 [.str s],.arr 7 0 [chZ]]⟩) (hA.push hA') ho hg (rs:=[ro]) (fun z hz=>by rw [List.mem_singleton] at hz;rw [hz];exact h.rt.rt) (by simp) hv (by omega) (mk:=Xh) (caps:=[.ptr A.length 0 0 0 0,.ptr A.length 1 0 0 0,.ptr A.length 2 0 0 0,.ptr A.length 3 0 0 0,.ptr A.length 4 0 0 0])
  (fun A2 L h2=>ZlW hg ((hA.push hA').r.rd.push h2) h (ZU h2 (St.get_cur ..)) (ZU h2 (St.get_cur ..)) (ZU h2 (St.get_cur ..)) (ZU h2 (St.get_cur ..)) (ZU h2 (St.get_cur ..))) rfl hn
 rw [YV hA' hle] at hCh
 have hAl:A.length=((QP st la b (wrV (edV r.nodes ro a n s) r).1).ps).length:=by rw [hA'];simp [ZBl]
 generalize (wrV (edV r.nodes ro a n s) r).2.1=r2 at *
 generalize (wrV (edV r.nodes ro a n s) r).2.2=fr at *
 generalize Ys r.nodes [ro] (edV r.nodes ro a n s)=dd at *
 obtain ⟨A2,hA2⟩:∃ A2,A2=(QP st la b (wrV (edV r.nodes ro a n s) r).1).ps:=⟨_,rfl⟩;rw [<- hA2] at hCh hAl;simp only [jC,List.map_nil] at hCh;obtain ⟨x1,x2,x3⟩:=r2;unfold chZ at hCh;unfold Ro.av at hCh ⊢
 by_cases hd:dd=[]
 ·subst hd
  rw [show slH []=.nils from rfl] at hCh ⊢
  unfold Qz at hCh
  repeat' (first|refine ZE ?_|refine ZD ?_|refine ZF rfl ?_|refine ZP rfl rfl rfl rfl ?_|refine Zs rfl rfl ?_|refine ZA rfl ?_|refine ZC ?_|refine ZBA rfl rfl ?_|refine Za rfl rfl rfl ?_|refine Qa rfl rfl rfl rfl ?_|refine ZB rfl rfl rfl (hCh) ?_)
  rw [hAl]
  repeat' (first|refine ZF rfl ?_|refine ZA rfl ?_|refine ZC ?_|refine Zl rfl rfl rfl rfl rfl rfl ?_|refine ZS ?_|refine ZO ?_)
  all_goals try contradiction
  exact ZD9 (w:=Qz ⟨x1,x2,x3⟩ fr .nils) hA2 (.inr rfl) rfl rfl rfl rfl rfl rfl
 ·rw [show slH dd=.lit (dd.map Z6) from if_neg hd] at hCh ⊢
  unfold Qz at hCh
  repeat' (first|refine ZE ?_|refine ZD ?_|refine ZF rfl ?_|refine ZP rfl rfl rfl rfl ?_|refine Zs rfl rfl ?_|refine ZA rfl ?_|refine ZC ?_|refine ZBA rfl rfl ?_|refine Za rfl rfl rfl ?_|refine Qa rfl rfl rfl rfl ?_|refine ZB rfl rfl rfl (hCh) ?_)
  rw [hAl]
  repeat' (first|refine ZF rfl ?_|refine ZA rfl ?_|refine ZC ?_|refine Zl rfl rfl rfl rfl rfl rfl ?_|refine ZS ?_|refine ZO ?_)
  all_goals try contradiction
  exact ZD9 (w:=Qz ⟨x1,x2,x3⟩ fr (.lit (dd.map Z6))) hA2 (.inr rfl) rfl rfl rfl rfl rfl rfl
theorem ZoY:Tr.zero.bytes=0:=rfl
theorem ZIL (N:ZJ) (n:Nat) (t:Tr):cutF N n t 0=(.zero,t):=by cases n<;>simp [cutF]
theorem Zfr (N:ZJ) (n:Nat) (t:Tr) (a:Int) (h:a=t.bytes) (h0:a≠0):cutF N n t a=(t,.zero):=by cases n<;>simp only [cutF,if_neg h0,if_pos h]
theorem ZKT (N:ZJ) (y:Tr):concM N .zero y=y:=by simp [concM,ZoY]
theorem ZlX (N:ZJ) {x:Tr} (y:Tr) (h:x.bytes=0):concM N x y=y:=by unfold concM;rw [if_pos h]
theorem ZYN (N:ZJ) {x y:Tr} (h:y.bytes=0) (hx:x.bytes≠0):concM N x y=x:=by unfold concM;rw [if_neg hx,if_pos h]
def ZAs (n:Int):Pce:=⟨1,n,[]⟩
def ZGC (s:List UInt8):Pce:=⟨2,0,s⟩
def ZBu (n:Int):Pce:=⟨3,n,[]⟩
theorem ZbR (N:ZJ) (q:Tr × Tr) (n:Int):Yr N q (ZAs n)=((concM N q.1 (cutF N q.2.h q.2 n).1.own).own,(cutF N q.2.h q.2 n).2.own):=rfl
theorem ZlY (N:ZJ) (q:Tr × Tr) (s:List UInt8):Yr N q (ZGC s)=((concM N q.1 (Z3 s)).own,q.2):=rfl
theorem ZjT (N:ZJ) (q:Tr × Tr) (n:Int):Yr N q (ZBu n)=(q.1,(cutF N q.2.h q.2 n).2.own):=rfl
theorem ZYO (N:ZJ) (t:Tr) (a:Int):Sm (Yr N (.zero,t) (ZAs a)).1 (cutF N t.h t a).1/\Sm (Yr N (.zero,t) (ZAs a)).2 (cutF N t.h t a).2:=by
 rw [ZbR,ZKT];exact ⟨(Sm.self _).trans (Sm.self _),Sm.self _⟩
theorem ZQN (N:ZJ) {q:Tr × Tr} {d r:Tr} (h1:Sm q.1 d) (h2:Sm q.2 r) (n:Int) (hn:n=r.bytes) (h0:n≠0):Sm (Yr N q (ZAs n)).1 (concM N d r):=by
 rw [ZbR,Zfr N _ _ n (by rw [hn,h2.bytes]) h0]
 exact (Sm.self _).trans (Sm.concM h1 ((Sm.self _).trans h2) N)
def QG (n:Int):List Pce:=if 0<n then [ZAs n] else []
theorem ZoZ {N:ZJ} (hN:GoodN N) {t:Tr} (hv:VE N t) (hb:t.bytes<=60000) {a:Int} (h0:0<=a) (h1:a<=t.bytes) {s:List UInt8} (hs:s≠[]) (hs2:s.length<=2000) :
 Sm (JD N t (QG a++[ZGC s]++QG (t.bytes-a))).1 (ZBt N t a 0 s):=by
 obtain ⟨b1,b2,b3⟩:=J8 hN (s:=s) (by omega)
 have hsl:0<s.length:=List.length_pos_iff.2 hs
 have c1:=Yk hN t.h t a hv rfl h0 h1 (by omega)
 have clb:=c1.lb;have crb:=c1.rb;unfold ZBt
 rw [if_neg (fun q=>hs q.2),ZIL]
 have mid:∀ q:Tr × Tr,Sm q.1 (cutF N t.h t a).1->Sm q.2 (cutF N t.h t a).2->Sm (Yr N q (ZGC s)).1 (concM N (cutF N t.h t a).1 (Z3 s))/\Sm (Yr N q (ZGC s)).2 (cutF N t.h t a).2:=by
  intro q k1 k2;rw [ZlY];exact ⟨(Sm.self _).trans (Sm.concM k1 (.refl _) N),k2⟩
 have hfirst:Sm (JD N t (QG a)).1 (cutF N t.h t a).1/\Sm (JD N t (QG a)).2 (cutF N t.h t a).2:=by
  unfold QG
  split
  ·exact ZYO N t a
  ·have:a=0:=by omega
   subst this;rw [ZIL];exact ⟨.refl _,.refl _⟩
 have hm:=mid _ hfirst.1 hfirst.2;rw [<- Xe] at hm
 have k1:=YD hN c1.l b1 (by rw [b3];omega)
 unfold QG at hm ⊢
 by_cases hr:0<t.bytes-a
 ·rw [if_pos hr,Xe]
  exact ZQN N hm.1 hm.2 _ (by rw [crb]) (by omega)
 ·rw [if_neg hr,lN,ZYN N (by rw [crb];omega) (by rw [k1.bytes,b3];omega)]
  exact hm.1
theorem Zoa {N:ZJ} (hN:GoodN N) {t:Tr} (hv:VE N t) (hb:t.bytes<=60000) {a n:Int} (h0:0<=a) (hn:0<n) (h1:a+n<=t.bytes) :
 Sm (JD N t (QG a++[ZBu n]++QG (t.bytes-a-n))).1 (ZBt N t a n []):=by
 have c1:=Yk hN t.h t a hv rfl h0 (by omega) (by omega)
 have clb:=c1.lb;have crb:=c1.rb
 have c2:=Yk hN (cutF N t.h t a).2.h (cutF N t.h t a).2 n c1.r rfl (by omega) (by omega) (by omega)
 have c2b:=c2.rb
 obtain ⟨b1,b2,b3⟩:=J8 hN (s:=[]) (by decide)
 have b3':(Z3 []).bytes=0:=by rw [b3];rfl
 unfold ZBt
 rw [if_neg (by omega)]
 have hfirst:Sm (JD N t (QG a)).1 (cutF N t.h t a).1/\Sm (JD N t (QG a)).2 (cutF N t.h t a).2:=by
  unfold QG
  split
  ·exact ZYO N t a
  ·have:a=0:=by omega
   subst this;rw [ZIL];exact ⟨.refl _,.refl _⟩
 have hm:Sm (Yr N (JD N t (QG a)) (ZBu n)).1 (cutF N t.h t a).1/\Sm (Yr N (JD N t (QG a)) (ZBu n)).2 (cutF N (cutF N t.h t a).2.h (cutF N t.h t a).2 n).2:=by
  rw [ZjT];refine ⟨hfirst.1,(Sm.self _).trans ?_⟩;rw [hfirst.2.h];exact (Sm.cutF N _ n hfirst.2).2
 rw [<- Xe] at hm
 generalize hc:(cutF N (cutF N t.h t a).2.h (cutF N t.h t a).2 n).2=r2 at *
 by_cases ha:a=0
 ·subst ha
  rw [ZIL] at *
  rw [ZKT,ZlX N r2 b3']
  by_cases hr:0<t.bytes-0-n
  ·unfold QG at hm ⊢
   rw [if_pos hr,Xe]
   have:=ZQN N hm.1 hm.2 (t.bytes-0-n) (by omega) (by omega)
   rwa [ZKT] at this
  ·have e:QG (t.bytes-0-n)=[]:=by unfold QG;rw [if_neg hr]
   have hc':(cutF N t.h t n).2=r2:=hc
   rw [Zfr N _ _ n (by omega) (by omega)] at hc'
   subst hc';rw [e,lN];exact hm.1
 ·rw [ZYN N b3' (by omega)]
  by_cases hr:0<t.bytes-a-n
  ·unfold QG at hm ⊢
   rw [if_pos hr,Xe]
   exact ZQN N hm.1 hm.2 _ (by omega) (by omega)
  ·have e:QG (t.bytes-a-n)=[]:=by unfold QG;rw [if_neg hr]
   rw [e,lN,ZYN N (by omega) (by omega)]
   exact hm.1
theorem ZbS (N:ZJ) (t:Tr):∀ l:List Pce,(JD N t l).1=.zero\/(JD N t l).1.own=(JD N t l).1:=by
 have key:∀ (l:List Pce) (q:Tr × Tr),(q.1=.zero\/q.1.own=q.1)->((l.foldl (Yr N) q).1=.zero\/(l.foldl (Yr N) q).1.own=(l.foldl (Yr N) q).1):=by
  intro l
  induction l with
  | nil=>intro q h;exact h
  | cons p l ih =>
   intro q h;refine ih _ ?_;unfold Yr
   split
   ·exact .inr (ZNJ _)
   ·split
    ·exact .inr (ZNJ _)
    ·exact h
 exact fun l=>key l _ (.inl rfl)
theorem Zfs {N:ZJ} {p e:Tr} (h:Sm p e) (he:e.own=e) (hp:p=.zero\/p.own=p) (r:AR) (ro:Ro):wrV p r=wrV e r/\nw p=nw e/\Xy N ro p=Xy N ro e:=by
 rcases hp with rfl|hp
 ·have:e=Tr.zero.own:=by rw [<- he];exact h.symm
  subst this;exact ⟨rfl,rfl,rfl⟩
 ·have:p=e:=by rw [<- hp,<- he];exact h
  subst this;exact ⟨rfl,rfl,rfl⟩
theorem ZbT {N:ZJ} (hN:GoodN N) {ro:Ro} (hr:RtOk N ro) (t:Tr):Ys N [ro] t=Xy N ro t:=by
 unfold Ys;rw [List.flatMap_cons,List.flatMap_nil,lN];refine Zfe ?_;unfold Xy
 split
 ·exact List.nodup_nil
 ·rename_i h0
  obtain ⟨x,h1,h2,h3,h4⟩:∃ x,lk N ro.at_=some x/\NdOk x/\x.h=ro.h/\x.mea=ro.m:=by
   rcases hr with rfl|q
   ·exact absurd rfl h0
   ·exact q.2
  exact ((ZhD hN ro.h ro.at_ [] x h1 h3 ⟨List.nodup_nil,by simp⟩).1).filter _
def ZIo (a L:Int) (s:List UInt8):List Pce:=QG a++[ZGC s]++QG (L-a)
def ZQO (a n L:Int):List Pce:=QG a++[ZBu n]++QG (L-a-n)
theorem ZBc (n:Int) (h:0<=n):inL (QG n)=n/\J5 (QG n)=n/\(∀ p∈QG n,Xd p)/\(QG n).length<=1:=by
 unfold QG
 split
 ·refine ⟨by simp [inL,inP,ZAs],by simp [J5,ZD7,ZAs],?_,by simp⟩
  intro p hp;rw [List.mem_singleton] at hp;subst hp
  exact .inl ⟨.inl rfl,by show 1<=n;omega,rfl⟩
 ·exact ⟨by simp [inL];omega,by simp [J5];omega,by simp,by simp⟩
theorem ZDl (l m:List Pce):inL (l++m)=inL l+inL m/\J5 (l++m)=J5 l+J5 m:=by simp [inL,J5]
theorem ZiG {N:ZJ} {ro:Ro} {s0:List UInt8} (h:Rt N ro s0) (hb:s0.length<=60000) {a:Int} (h0:0<=a) (h1:a<=s0.length) {s:List UInt8} (hs:s≠[]) (hs2:s.length<=2000):PaOk N ro s0 (ZIo a s0.length s):=by
 obtain ⟨a1,a2,a3,a4⟩:=ZBc a h0
 obtain ⟨b1,b2,b3,b4⟩:=ZBc (s0.length-a) (by omega)
 have p1:inL [ZGC s]=0/\J5 [ZGC s]=s.length:=by simp [inL,J5,inP,ZD7,ZGC]
 have hi:inL (ZIo a s0.length s)=s0.length:=by unfold ZIo;rw [(ZDl _ _).1,(ZDl _ _).1,a1,b1,p1.1];omega
 have ho:J5 (ZIo a s0.length s)=s0.length+s.length:=by unfold ZIo;rw [(ZDl _ _).2,(ZDl _ _).2,a2,b2,p1.2];omega
 refine ⟨h,⟨fun p hp=>?_,?_,by omega,by omega⟩,hi,by omega,hb⟩
 ·unfold ZIo at hp
  simp only [List.mem_append,List.mem_singleton] at hp
  rcases hp with (hp|rfl)|hp
  ·exact a3 p hp
  ·exact .inr ⟨rfl,rfl,hs⟩
  ·exact b3 p hp
 ·unfold ZIo;simp only [lL,List.length_singleton];omega
theorem ZnU {N:ZJ} {ro:Ro} {s0:List UInt8} (h:Rt N ro s0) (hb:s0.length<=60000) {a n:Int} (h0:0<=a) (hn:0<n) (h1:a+n<=s0.length):PaOk N ro s0 (ZQO a n s0.length):=by
 obtain ⟨a1,a2,a3,a4⟩:=ZBc a h0
 obtain ⟨b1,b2,b3,b4⟩:=ZBc (s0.length-a-n) (by omega)
 have p1:inL [ZBu n]=n/\J5 [ZBu n]=0:=by simp [inL,J5,inP,ZD7,ZBu]
 have hi:inL (ZQO a n s0.length)=s0.length:=by unfold ZQO;rw [(ZDl _ _).1,(ZDl _ _).1,a1,b1,p1.1];omega
 have ho:J5 (ZQO a n s0.length)=s0.length-n:=by unfold ZQO;rw [(ZDl _ _).2,(ZDl _ _).2,a2,b2,p1.2];omega
 refine ⟨h,⟨fun p hp=>?_,?_,by omega,by omega⟩,hi,by omega,hb⟩
 ·unfold ZQO at hp
  simp only [List.mem_append,List.mem_singleton] at hp
  rcases hp with (hp|rfl)|hp
  ·exact a3 p hp
  ·exact .inl ⟨.inr rfl,by show 1<=n;omega,rfl⟩
  ·exact b3 p hp
 ·unfold ZQO;simp only [lL,List.length_singleton];omega
theorem ZbU {r:AR} (hg:GoodN r.nodes) {ro:Ro} {s0:List UInt8} (h:Rt r.nodes ro s0) (hb:s0.length<=60000) {a:Int} (h0:0<=a) (h1:a<=s0.length) {s:List UInt8} (hs:s≠[]) (hs2:s.length<=2000) :
 wrV (ZAv r.nodes ro (ZIo a s0.length s)) r=wrV (edV r.nodes ro a 0 s) r/\nw (ZAv r.nodes ro (ZIo a s0.length s))=nw (edV r.nodes ro a 0 s) /\
  Xy r.nodes ro (ZAv r.nodes ro (ZIo a s0.length s))=Ys r.nodes [ro] (edV r.nodes ro a 0 s):=by
 have hkb:=(h.b hg).1
 have hsm:=ZoZ hg h.keep.1 (by omega) h0 (by omega) hs hs2
 rw [hkb] at hsm;obtain ⟨w1,w2,w3⟩:=Zfs (N:=r.nodes) (p:=ZAv r.nodes ro (ZIo a s0.length s)) (e:=edV r.nodes ro a 0 s) (hsm.trans (Sm.self _).symm) (ZNJ _) (ZbS _ _ _) r ro
 exact ⟨w1,w2,by rw [w3,ZbT hg h.rt]⟩
theorem ZjU {r:AR} (hg:GoodN r.nodes) {ro:Ro} {s0:List UInt8} (h:Rt r.nodes ro s0) (hb:s0.length<=60000) {a n:Int} (h0:0<=a) (hn:0<n) (h1:a+n<=s0.length) :
 wrV (ZAv r.nodes ro (ZQO a n s0.length)) r=wrV (edV r.nodes ro a n []) r/\nw (ZAv r.nodes ro (ZQO a n s0.length))=nw (edV r.nodes ro a n []) /\
  Xy r.nodes ro (ZAv r.nodes ro (ZQO a n s0.length))=Ys r.nodes [ro] (edV r.nodes ro a n []):=by
 have hkb:=(h.b hg).1
 have hsm:=Zoa hg h.keep.1 (by omega) h0 hn (by omega)
 rw [hkb] at hsm;obtain ⟨w1,w2,w3⟩:=Zfs (N:=r.nodes) (p:=ZAv r.nodes ro (ZQO a n s0.length)) (e:=edV r.nodes ro a n []) (hsm.trans (Sm.self _).symm) (ZNJ _) (ZbS _ _ _) r ro
 exact ⟨w1,w2,by rw [w3,ZbT hg h.rt]⟩
theorem ZjV {st:St} {l:List Pce} (hl:DlOk l) :
 S Tb X5 [.lit (l.map Pce.av)] st=some (.tup [.int .i64 (inL l),.int .i64 (J5 l),.int .i64 0],st):=by
 refine QJ rfl (fun A hA=>?_)
 have hn:=hl.n;have hi:=hl.i;have ho:=hl.o
 repeat' (first|refine ZDE rfl ?_|refine ZE ?_|refine ZD ?_|refine ZF rfl ?_|refine ZA rfl ?_|refine ZC ?_|(refine QR rfl rfl (fun _=>?_) (fun _=>?_)<;>try (exfalso;omega))|refine ZH rfl ?_|refine ZI ?_|refine ZL ?_)
 all_goals try (exfalso;omega)
 refine Z2 (α:=Nat) (fun i=>[(2,.int .i64 (inL (l.take i))),(3,.int .i64 (J5 (l.take i))),(12,.lit (l.map Pce.av)),(13,.int .i64 l.length),(14,.int .i64 i)]) (fun i=>⟨A,false,(l.take i).map fun p=>Blk.arr 3 0 [p.av]⟩) (fun i=>i<=l.length) (fun i=>l.length-i) 0 rfl rfl (by omega) ?_
 rintro i hi'
 rcases Nat.lt_or_ge i l.length with hlt|hge
 ·obtain ⟨p,hp⟩:∃ x,l[i]?=some x:=⟨l[i]'hlt,jE _⟩
  have hpm:=jM hp
  have q:0<=((i:Nat):Int)/\l[((i:Nat):Int).toNat]?=some p:=⟨by omega,by rw [show ((i:Nat):Int).toNat=i by omega];exact hp⟩
  have hV:=fun L=>ZfS p ⟨A,false,L⟩
  rw [decide_eq_true (hl.v p hpm)] at hV
  have hS:=fun L=>ZfT p (hl.text hpm) ⟨A,false,L⟩
  obtain ⟨p1,p2⟩:=Zg1 (hl.v p hpm);have ht:l.take (i+1)=l.take i++[p]:=Zg hp
  have hi2:inL (l.take (i+1))=inL (l.take i)+inP p/\J5 (l.take (i+1))=J5 (l.take i)+ZD7 p:=by rw [ht];simp [inL,J5]
  obtain ⟨n1,n2⟩:=ZDB (l:=l.take i) fun q hq=>hl.v q (List.mem_of_mem_take hq)
  obtain ⟨n3,n4⟩:=ZDB (l:=l.drop (i+1)) fun q hq=>hl.v q (List.mem_of_mem_drop hq)
  obtain ⟨s1,s2⟩:=ZCR l (i+1)
  generalize hB:(l.take i).map (fun p=>Blk.arr 3 0 [p.av])=B
  generalize inL (l.take i)=x at *
  generalize J5 (l.take i)=y at *
  repeat' (first|refine YE (f:=Pce.av) rfl rfl q (fun _=>rfl) ?_|refine is_stPc rfl rfl ?_|refine Zdl rfl ?_|refine ZE ?_|refine ZD ?_|refine ZF rfl ?_|refine QE rfl ?_|refine Zo rfl rfl rfl rfl ?_|refine Zs rfl rfl ?_|refine ZA rfl ?_|refine ZC ?_|refine QM rfl rfl ?_|(refine Zh rfl rfl (fun _=>?_) (fun _=>?_)<;>try (exfalso;omega))|(refine QR rfl rfl (fun _=>?_) (fun _=>?_)<;>try (exfalso;omega))|refine ZV rfl ?_|refine ZH rfl ?_|refine Jc rfl rfl ?_|refine Zm rfl rfl (by omega) ?_|refine JR rfl rfl (by omega) ?_|refine Zw rfl rfl rfl ?_|refine ZB rfl rfl rfl (hV _) ?_|refine ZB rfl rfl rfl (hS _) ?_|refine ZI ?_|refine ZL ?_|refine Zy ?_|refine QH ?_)
  all_goals try (exfalso;omega)
  all_goals try contradiction
  all_goals refine ⟨i+1,⟨?_,?_⟩,by omega,by omega⟩
  ·rw [hi2.1,hi2.2];rfl
  ·rw [ht,List.map_append,hB];rfl
 ·obtain rfl:i=l.length:=by omega
  rw [List.take_length]
  repeat' (first|refine ZE ?_|refine ZD ?_|refine ZF rfl ?_|refine ZA rfl ?_|refine ZC ?_|(refine Zh rfl rfl (fun _=>?_) (fun _=>?_)<;>try (exfalso;omega))|refine ZH rfl ?_|refine ZS ?_|refine Zu ?_|refine ZO ?_|refine Ze ?_|refine Zb rfl ?_|refine Zt ?_)
  all_goals try (exfalso;omega)
  refine Zj hA (by first|exact .inl rfl|exact .inr rfl) rfl rfl rfl rfl ?_
  rfl
theorem ZnV {st:St} {la b:Nat} {r:AR} (hA:Has st la b r) (ho:AROk r) (hg:GoodN r.nodes) {ro:Ro} {s0:List UInt8} {l:List Pce} (h:PaOk r.nodes ro s0 l) (hn:nw (ZAv r.nodes ro l)<=r.n) :
 S Tb Yt [.ptr la (b+5) 0 0 0,ro.av,.lit (l.map Pce.av)] st=some (.tup [Qz (wrV (ZAv r.nodes ro l) r).2.1 (wrV (ZAv r.nodes ro l) r).2.2 (.lit ((Xy r.nodes ro (ZAv r.nodes ro l)).map Z6)),.int .i64 0],QP st la b (wrV (ZAv r.nodes ro l) r).1):=by
 unfold ZAv at *
 refine Xw rfl (fun A hA'=>?_)
 have hlv:=hA.le
 have hRO:∀ L,RdO ⟨A,false,L⟩ la (b+5) r.nodes [(A.length,3)]:=fun L=>by
  have h5:=ZU hA' (ro:=false) (L:=L) hA.h5;have h4:=ZU hA' (ro:=false) (L:=L) hA.h4
  have hal:A.length=st.A.length+1:=by rw [hA'];simp
  refine ⟨_,_,_,_,_,_,h5,h4,?_,?_⟩<;>simp only [List.mem_cons,jP,List.not_mem_nil,or_false]<;>omega
 have hRd:=fun L=>(hA.r.push hA' (ro:=false) (L:=L)).rd
 have hK:=fun L=>ZNF (hRd L) h.rt.rt
 have hLen:=fun L=>ZjV (st:=⟨A,false,L⟩) h.dl
 have hin:=h.i;have hb:=h.b;have hout:=h.o;have hmb:ro.m.b=s0.length:=(h.rt.b hg).2;have hkb:=(h.rt.b hg).1;have hkv:=h.rt.keep.1
 have hpl:=fun i=>ZYL hg hkv (by omega) h.dl.v (by rw [hkb,h.i];omega) h.o i
 have hdl:=h.dl;obtain ⟨ra,rh,rm⟩:=ro;obtain ⟨mb,mr,ml⟩:=rm
 simp only at hmb
 unfold Ro.av at *
 simp only at *
 generalize YW ⟨ra,rh,⟨mb,mr,ml⟩⟩=kt at *
 repeat' (first|refine ZDE rfl ?_|refine ZbQ rfl rfl ?_|refine Zw rfl (ZlU _ _ _ _) (ZiF _ _ _ _) ?_|refine ZE ?_|refine ZD ?_|refine ZF rfl ?_|refine ZQ rfl rfl ?_|refine ZP rfl rfl rfl rfl ?_|refine Zs rfl rfl ?_|refine ZA rfl ?_|refine ZC ?_|(refine QR rfl rfl (fun _=>?_) (fun _=>?_)<;>try (exfalso;omega))|(refine Zk rfl rfl (fun _=>?_) (fun _=>?_)<;>try (exfalso;omega))|refine ZH rfl ?_|refine Za rfl rfl rfl ?_|refine ZB rfl rfl (by first|rfl|(simp only [lE,lN,lC,ZZ,ZW,ZX];first|done|rfl)) (hK _) ?_|refine ZB rfl rfl (by first|rfl|(simp only [lE,lN,lC,ZZ,ZW,ZX];first|done|rfl)) (hLen _) ?_|refine ZP rfl rfl rfl (Zq _) ?_|refine Zl rfl rfl rfl (Z8 _ _ _) (QY _ _) rfl ?_|refine ZI ?_|refine ZL ?_|refine Zy ?_)
 all_goals try (exfalso;omega)
 all_goals try contradiction
 refine Z2 (α:=Nat) (fun i=>[(0,.ptr la (b+5) 0 0 0),(4,.ptr A.length 0 0 0 0),(6,.ptr A.length 1 0 0 0),(12,.ptr A.length 3 0 0 0),(55,.lit (l.map Pce.av)),(56,.int .i64 l.length),(57,.int .i64 i)])
  (fun i=>⟨A,false,.arr 5 0 [.agg [.int .u64 ra,.int .i64 rh,.int .i64 mb,.int .i64 mr,.int .i64 ml]]::.arr 7 0 [chZ]::.arr 7 0 [kt.av]::wB la b (JD r.nodes kt (l.take i)).1 (JD r.nodes kt (l.take i)).2::(l.take i).map fun p=>Blk.arr 3 0 [p.av]⟩) (fun i=>i<=l.length) (fun i=>l.length-i) 0 rfl rfl (by omega) ?_
 rintro i hi'
 have hn4:=hdl.n
 rcases Nat.lt_or_ge i l.length with hlt|hge
 ·obtain ⟨p,hp⟩:∃ x,l[i]?=some x:=⟨l[i]'hlt,jE _⟩
  have hpm:=jM hp
  have q:0<=((i:Nat):Int)/\l[((i:Nat):Int).toNat]?=some p:=⟨by omega,by rw [show ((i:Nat):Int).toNat=i by omega];exact hp⟩
  have ht:l.take (i+1)=l.take i++[p]:=Zg hp;obtain ⟨s1,s2⟩:=ZCR l (i+1)
  obtain ⟨n1,n2⟩:=ZDB (l:=l.drop (i+1)) fun q hq=>hdl.v q (List.mem_of_mem_drop hq)
  rw [ht] at s1 s2
  have hP:=fun L (H:Cl ⟨A,false,L⟩ [(A.length,3)] [wB la b (JD r.nodes kt (l.take i)).1 (JD r.nodes kt (l.take i)).2])=>ZiE H (hRO L) hg (hpl i) (fun q hq=>hdl.v q (List.mem_of_mem_take hq)) (hdl.v p hpm) (by omega) (by omega) (by omega)
  have hst:JD r.nodes kt (l.take (i+1))=Yr r.nodes (JD r.nodes kt (l.take i)) p:=by rw [ht,Xe]
  generalize Yr r.nodes (JD r.nodes kt (l.take i)) p=q2 at *
  generalize JD r.nodes kt (l.take i)=q1 at *
  have hP2:∀ (b0 b1 b2:Blk) (T:List Blk),S Tb Qd [.ptr A.length 3 0 0 0,p.av] ⟨A,false,b0::b1::b2::wB la b q1.1 q1.2::T⟩=some (.int .i64 0,⟨A,false,b0::b1::b2::wB la b q2.1 q2.2::T⟩):=by
   intro b0 b1 b2 T
   rw [hP _ ⟨by simp,rfl,fun k hk=>?_,fun j lv ix c h1 h2=>?_⟩,Zno]
   ·rfl
   ·simp only [List.mem_cons,List.not_mem_nil,or_false] at hk
    subst hk
    simp [St.wr]
   ·match j,h1,h2 with
    | 0,h1,h2 =>
     simp only [List.getElem?_cons_zero,oJ,jP] at h1 h2;obtain ⟨rfl,rfl⟩:=h1;subst h2;simp only [St.get,if_true];rfl
  generalize hB:(l.take i).map (fun p=>Blk.arr 3 0 [p.av])=B
  repeat' (first|refine YE (f:=Pce.av) rfl rfl q (fun _=>rfl) ?_|refine is_stPc rfl rfl ?_|refine Zdl rfl ?_|refine ZE ?_|refine ZD ?_|refine ZF rfl ?_|refine ZA rfl ?_|refine ZC ?_|refine QM rfl rfl ?_|(refine Zh rfl rfl (fun _=>?_) (fun _=>?_)<;>try (exfalso;omega))|(refine Zk rfl rfl (fun _=>?_) (fun _=>?_)<;>try (exfalso;omega))|refine ZV rfl ?_|refine ZH rfl ?_|refine Zm rfl rfl (by omega) ?_|refine Zw rfl rfl rfl ?_|refine ZB rfl rfl rfl (hP2 _ _ _ _) ?_|refine ZI ?_|refine ZL ?_|refine Zy ?_|refine QH ?_)
  all_goals try (exfalso;omega)
  all_goals try contradiction
  refine ⟨i+1,⟨rfl,?_⟩,by omega,by omega⟩
  rw [hst,ht,List.map_append,hB];rfl
 ·obtain rfl:i=l.length:=by omega
  have hf:=hpl l.length;rw [List.take_length] at hf ⊢;have hv:=hf.d;have htb:=hf.db
  have hDr:=fun L=>ZQM hg ho.lv ho.nz (hRd L) h.rt.rt hv (by omega)
  have hWr:=fun L=>ZUG (hA.push hA' (ro:=false) (L:=L)) ho hg hv (by omega) hn
  simp only [YV hA' hlv] at hWr
  generalize (JD r.nodes kt l).2=rest at *
  generalize (JD r.nodes kt l).1=t at *
  have hAl:A.length=((QP st la b (wrV t r).1).ps).length:=by rw [hA'];simp [ZBl]
  generalize (wrV t r).2.1=ro2 at *
  generalize (wrV t r).2.2=fr at *
  obtain ⟨A2,hA2⟩:∃ A2,A2=(QP st la b (wrV t r).1).ps:=⟨_,rfl⟩;rw [<- hA2] at hWr hAl;unfold Ro.av at hDr
  simp only at hDr
  generalize Xy r.nodes ⟨ra,rh,⟨mb,mr,ml⟩⟩ t=dd at *
  obtain ⟨ra2,rh2,rm2⟩:=ro2;unfold Ro.av at hWr
  simp only at hWr
  generalize (l.map fun p=>Blk.arr 3 0 [p.av])=B at *
  have w1:=ZNI la b t rest
  unfold chZ at *
  repeat' (first|refine ZP rfl rfl rfl w1 ?_|refine ZE ?_|refine ZD ?_|refine ZF rfl ?_|refine ZQ rfl rfl ?_|refine ZP rfl rfl rfl rfl ?_|refine Zs rfl rfl ?_|refine ZA rfl ?_|refine ZC ?_|refine Zz rfl rfl ?_|(refine Zh rfl rfl (fun _=>?_) (fun _=>?_)<;>try (exfalso;omega))|(refine Zk rfl rfl (fun _=>?_) (fun _=>?_)<;>try (exfalso;omega))|refine ZH rfl ?_|refine ZB rfl rfl (by first|rfl|(simp only [lE,lN,lC,ZZ,ZW,ZX];first|done|rfl)) (hDr _) ?_|refine ZI ?_|refine Zu ?_|refine Ze ?_|refine Zb rfl ?_|refine Zt ?_)
  all_goals try (exfalso;omega)
  all_goals try contradiction
  repeat' (first|refine ZE ?_|refine ZD ?_|refine ZF rfl ?_|refine Zs rfl rfl ?_|refine ZA rfl ?_|refine ZC ?_|refine JF rfl rfl rfl ?_|(refine Zk rfl rfl (fun _=>?_) (fun _=>?_)<;>try (exfalso;omega))|refine ZH rfl ?_|refine Zn rfl rfl rfl ?_|refine Zw rfl rfl rfl ?_|refine Yf rfl rfl rfl rfl rfl rfl ?_|refine ZB rfl rfl (by first|rfl|(simp only [lE,lN,lC,ZZ,ZW,ZX];first|done|rfl)) (hWr _) ?_|refine ZI ?_)
  rw [hAl]
  repeat' (first|refine ZF rfl ?_|refine ZA rfl ?_|refine ZC ?_|refine Qo rfl rfl rfl rfl rfl rfl ?_|refine ZS ?_|refine ZO ?_)
  all_goals try contradiction
  exact ZD9 (v:=Qz ⟨ra2,rh2,rm2⟩ fr (.lit (dd.map Z6))) (w:=Qz ⟨ra2,rh2,rm2⟩ fr (.lit (dd.map Z6))) hA2 (.inr rfl) rfl rfl rfl rfl rfl rfl
end Go.Q15
namespace Go.QAbs
open Go.RowKit (Below)
open Go.ChangeMaps (setBlock)
def ZQP:Obj->Bool
 | .mapIter _ _ _ _=>true
 | _=>false
structure Jk (r:Nat) (W W':World):Prop where
 os:W'.os=W.os
 tape:W'.tape=W.tape
 output:W'.output=W.output
 size:W.heap.size<=W'.heap.size
 blk:∀ i,i<W.heap.size->i≠r->W'.heap[i]?=W.heap[i]?
 it:W.heap.size<=r\/∃ o o',W.heap[r]?=some o/\ZQP o=true/\W'.heap[r]?=some o'/\ZQP o'=true
section
variable {P:Program} {W0:World} {B0:Bse} {st st':St} {ρ:Rho} {W W':World} {e:Env} {r:Nat}
theorem Jk.heap (h:Jk r W W') {i:Nat} {o:Obj} (ho:W.heap[i]?=some o) (hi:ZQP o=false):W'.heap[i]?=some o:=by
 have hlt:=QW ho
 by_cases e:i=r
 ·subst e
  rcases h.it with q|⟨o1,o2,q1,q2,_⟩
  ·omega
  ·rw [q1] at ho;simp only [oJ] at ho;subst ho;rw [q2] at hi;simp at hi
 ·rw [h.blk i hlt e];exact ho
theorem Jk.cell (h:Jk r W W') {a:Addr} {v:Value} (hv:W.cell? a=some v):W'.cell? a=some v:=by
 unfold World.cell? at hv ⊢
 cases ho:W.heap[a.block]? with
 | none=>rw [ho] at hv;simp at hv
 | some o =>
  rw [ho] at hv
  cases o<;>simp at hv
  rename_i c t f
  rw [h.heap ho rfl]
  simpa using hv
theorem Jk.frozen (h:Jk r W W') {a:Addr} (hv:(W.cell? a).isSome=true):W'.frozen? a=W.frozen? a:=by
 unfold World.cell? at hv
 cases ho:W.heap[a.block]? with
 | none=>rw [ho] at hv;simp at hv
 | some o =>
  rw [ho] at hv
  cases o<;>simp at hv
  rename_i c t f
  unfold World.frozen?;rw [h.heap ho rfl,ho]
theorem Rel.jk (h:Rel W0 B0 st ρ W) (hj:Jk r W W') (hr:B0.n<=r):Goes W0 B0 st ρ W st ρ W':=by
 have hle:∀ m,(cx st ρ W m).le (cx st ρ W' m):=fun m=>⟨fun b o v q=>⟨hj.cell q.1,q.2⟩,fun _ _ _ _ _ _ q=>q,fun _ _ _ _ _ _ q=>q,fun _ _ _ q=>q,fun _ _ _ q=>q⟩
 have hb0:=h.b0
 have hbel:BelowS B0 W0 W':=by
  refine h.below.trans ⟨⟨hj.os,hj.tape,hj.output,hj.size,fun i hi=>hj.blk i (by omega) (by omega)⟩,fun i ob hi hs=>hj.heap hi (by cases ob<;>simp_all [JW,ZQP])⟩
 refine ⟨⟨hbel,Nat.le_trans h.b0 hj.size,h.yl,?_,h.sep,?_,h.msep⟩,⟨rfl,fun m _=>hle m,fun _ r h=>⟨r,h,rfl,fun _=>rfl⟩,rfl,fun _=>rfl,rfl⟩⟩
 ·intro lv ix w ver es hg
  obtain ⟨a1,a2,a3⟩:=h.arr lv ix w ver es hg
  refine ⟨a1,fun i e he=>?_,fun j hj'=>?_⟩
  ·obtain ⟨x,h1,h2,h3⟩:=a2 i e he
   exact ⟨x,h1.mono (hle lv),h2,h3.mono fun _ _ _=>hj.cell⟩
  ·obtain ⟨m1,m2,m3⟩:=a3 j hj'
   obtain ⟨u,hu⟩:=Option.isSome_iff_exists.1 m2
   exact ⟨m1,by rw [hj.cell hu];rfl,by rw [hj.frozen m2];exact m3⟩
 ·intro lv ix es hg
  obtain ⟨m1,en,clock,m2,m3,m4⟩:=h.map lv ix es hg
  refine ⟨m1,en,clock,hj.heap m2 rfl,m3,fun i k v hk=>?_⟩
  obtain ⟨n1,x,n2,n3,n4⟩:=m4 i k v hk;exact ⟨n1,x,n2,n3.mono (hle lv),n4.mono (hle lv)⟩
theorem Jk.trans {W W1 W2:World} {r:Nat} (hr:W.heap.size<=r) (h:Jk r W W1) (k:Jk r W1 W2):Jk r W W2 :=
 ⟨k.os.trans h.os,k.tape.trans h.tape,k.output.trans h.output,Nat.le_trans h.size k.size,fun i hi hne=>(k.blk i (Nat.lt_of_lt_of_le hi h.size) hne).trans (h.blk i hi hne),.inl hr⟩
theorem Jk.step {w1:World} (h1:w1=W\/w1=W.drew) {o o':Obj} (ho:W.heap[r]?=some o) (hi:ZQP o=true) (hi':ZQP o'=true):Jk r W (setBlock w1 r o'):=by
 have hh:w1.heap=W.heap:=by rcases h1 with rfl|rfl<;>rfl
 have hlt:=QW ho
 refine ⟨by rcases h1 with rfl|rfl<;>rfl,by rcases h1 with rfl|rfl<;>rfl,by rcases h1 with rfl|rfl<;>rfl,by simp [setBlock,hh],fun i hi hne=>?_,.inr ⟨o,o',ho,hi,?_,hi'⟩⟩
 ·simp only [setBlock,hh]
  rw [Array.getElem?_setIfInBounds,if_neg (fun q=>hne q.symm)]
 ·simp only [setBlock,hh]
  rw [Array.getElem?_setIfInBounds,if_pos rfl,if_pos hlt]
theorem ZNK {ops:Array Oper} {i:Nat} {o:Oper} {a:Act} {Q:Exit->Act->World->Prop} {K:Act->World->Prop} {x:Value} (ho:ops[i]?=some o) (hg:o.guard=none) (hnd:∀ c,o.op≠.defer c)
 (hrun:(execOp a.eval o).run P W=.ok (.value x) W') (hK:K (a.put o.dst x) W'):wpOpIn (fen none) 0 P ops Q i K a W:=by
 unfold wpOpIn
 have hw:Region.wanted o (yielded ops a.tmps)=true:=by unfold Region.wanted;rw [hg]
 simp only [ho,hw,if_true]
 refine ⟨fun _ _=>trivial,?_⟩
 rw [Oper.semAt_eq _ _ _ hnd,hrun];exact hK
theorem Zft {o:Oper} {a:Act} {t k el:TypeId} {m:Operand} (hop:o.op=.range t m) (ht:P.underlying t=some (.map k el)) {b:Nat} {en:Array MapEntry} {clock:Nat} (hm:a.eval m=.map (some b)) (hb:W.heap[b]?=some (.map en clock)) :
 (execOp a.eval o).run P W=.ok (.value (.pointer (some ⟨W.heap.size,0,none⟩))) (W.alloc (.mapIter (some b) clock #[] clock)):=by
 simp only [execOp,hop,Instr.range,hm,Sem.run_bind,Zx ht,Result.andThen_ok,ZA7 hb,Sem.run_pure];rfl
def Xn (en:Array MapEntry) (seen:Array Nat):List MapEntry:=(leftOf en seen).toList
theorem run_nextOp {o:Oper} {a:Act} {it:Operand} (hop:o.op=.next it false) {r bm clock c0:Nat} {seen:Array Nat} {en:Array MapEntry} {n:Nat} (hit:a.eval it=.pointer (some ⟨r,0,none⟩))
 (hr:W.heap[r]?=some (.mapIter (some bm) clock seen c0)) (hb:W.heap[bm]?=some (.map en clock)) (hf:MapFit en clock n) (hc:clock<=c0) :
 (Xn en seen=[]/\(execOp a.eval o).run P W=.ok (.value (.tuple #[.bool false])) W) \/
 ∃ x∈Xn en seen,∃ w1:World,(w1=W\/w1=W.drew)/\(execOp a.eval o).run P W=.ok (.value (.tuple #[.bool true,x.key,x.val])) (setBlock w1 r (.mapIter (some bm) clock (seen.push x.born) clock)):=by
 rcases run_next_at (P:=P) W o.type r bm clock c0 seen en clock hr hb hf.lt hc with ⟨h1,h2⟩|⟨x,hx,w1,hw,h2⟩
 ·refine .inl ⟨List.eq_nil_of_length_eq_zero (by simpa [Xn] using h1),?_⟩
  simp only [execOp,hop,hit];exact Xr h2
 ·refine .inr ⟨x,hx,w1,hw,?_⟩
  simp only [execOp,hop,hit];exact Xr h2
theorem Zfu {o:Oper} {a:Act} {it:Operand} (hop:o.op=.entry it) {r bm clock:Nat} {seen:Array Nat} {en:Array MapEntry} {n:Nat} {x:MapEntry} (hit:a.eval it=.pointer (some ⟨r,0,none⟩))
 (hr:W.heap[r]?=some (.mapIter (some bm) clock (seen.push x.born) clock)) (hb:W.heap[bm]?=some (.map en clock)) (hf:MapFit en clock n) (hx:x∈en.toList) :
 (execOp a.eval o).run P W=.ok (.value (.tuple #[x.key,x.val])) W:=by
 simp only [execOp,hop,hit];exact Xr (run_entry_at W r bm clock seen en clock x hr hb hx hf.nd)
theorem ZjW (en:Array MapEntry):Xn en #[]=en.toList:=by
 simp [Xn,leftOf]
theorem ZQQ {en:Array MapEntry} {seen:Array Nat} {x:MapEntry} (h:x∈Xn en seen):x∈en.toList:=by
 simp only [Xn,leftOf,Array.toList_filter,List.mem_filter] at h;exact h.1
theorem ZYP {en:Array MapEntry} {clock n:Nat} (hf:MapFit en clock n) {seen:Array Nat} {x:MapEntry} (h:x∈Xn en seen):(Xn en seen).Perm (x::Xn en (seen.push x.born)):=by
 have key:∀ (l:List MapEntry),(l.map (·.born)).Nodup->x∈l->(seen.contains x.born=false) ->
  (l.filter fun e=>!seen.contains e.born).Perm (x::l.filter fun e=>!(seen.push x.born).contains e.born):=by
  intro l
  induction l with
  | nil=>intro _ h;simp at h
  | cons y l ih =>
   intro hn hx hs;simp only [jC,List.nodup_cons] at hn
   have hc:∀ z:MapEntry,(seen.push x.born).contains z.born=(seen.contains z.born || z.born == x.born):=by
    intro z;rw [Bool.eq_iff_iff];simp [or_comm]
   by_cases hyx:y=x
   ·subst hyx
    simp only [List.filter_cons,hs,Bool.not_false,if_true,hc,beq_self_eq_true,Bool.or_true,Bool.not_true,jB,if_false];refine .cons _ ?_
    have:(l.filter fun e=>!seen.contains e.born)=l.filter fun e=>!(seen.contains e.born || e.born == y.born):=by
     apply List.filter_congr
     intro z hz
     have:z.born≠y.born:=fun q=>hn.1 (List.mem_map.2 ⟨z,hz,q⟩)
     simp [this]
    rw [this]
   ·have hx' : x ∈ l := by
     rcases List.mem_cons.1 hx with q|q
     ·exact absurd q.symm hyx
     ·exact q
    have hb:y.born≠x.born:=fun q=>hn.1 (List.mem_map.2 ⟨x,hx',q.symm⟩)
    have ih':=ih hn.2 hx' hs;simp only [hc] at ih' ⊢;simp only [List.filter_cons]
    have hyb:(y.born == x.born)=false:=by simpa using hb
    rw [hyb,Bool.or_false]
    split
    ·exact (List.Perm.cons _ ih').trans (.swap ..)
    ·exact ih'
 have hm:=h;simp only [Xn,leftOf,Array.toList_filter,List.mem_filter,Bool.not_eq_true'] at hm
 have:=key en.toList hf.nd hm.1 hm.2
 simpa [Xn,leftOf] using this
end
section
variable {P:Program} {T:Tab} {O:Orc} {nt:Nat} {W0:World} {B0:Bse} {st st':St} {ρ:Rho} {W W':World} {e:Env} {r:Nat}
theorem Act.put_look {a:Act} {d:Nat} {x:Value} (h:d<a.tmps.size):(a.put (some d) x).eval (.tmp d)=x:=by
 simp [Act.put,Act.eval,h]
theorem Act.put_other {a:Act} {d t:Nat} {x:Value} (h:d≠t):(a.put (some d) x).eval (.tmp t)=a.eval (.tmp t):=by
 simp [Act.put,Act.eval,Array.getElem?_setIfInBounds,h]
theorem ZQR {o:Oper} {a:Act} {t:Operand} {k:Nat} {xs:Array Value} {x:Value} (hop:o.op=.extract t k) (ht:a.eval t=.tuple xs) (hx:xs[k]?=some x):(execOp a.eval o).run P W=.ok (.value x) W:=by
 simp [execOp,hop,ht,Instr.extract,hx,Sem.run]
def ZhE (W:World) (r:Nat):Array Nat:=match W.heap[r]? with|some (.mapIter _ _ s _)=>s|_=>#[]
structure Itr (W:World) (b r clock:Nat) (en:Array MapEntry) (seen:Array Nat):Prop where
 map:W.heap[b]?=some (.map en clock)
 it:∃ c0,clock<=c0/\W.heap[r]?=some (.mapIter (some b) clock seen c0)
theorem Itr.seen {b clock:Nat} {en:Array MapEntry} {seen:Array Nat} (h:Itr W b r clock en seen):ZhE W r=seen:=by
 obtain ⟨c0,_,h2⟩:=h.it
 simp [ZhE,h2]
theorem ZhF {en:Array MapEntry} {clock n b:Nat} (hf:MapFit en clock n) {o3 o4:Oper} {it:Operand} {nx ok i6 id:Nat} {body:Code} {Q:Exit->Act->World->Prop}
 (h3:o3.op=.next it false) (g3:o3.guard=none) (d3:o3.dst=some nx) (h4:o4.op=.extract (.tmp nx) 0) (g4:o4.guard=none) (d4:o4.dst=some ok)
 (I:Array Nat->Act->World->Prop)
 (hI:∀ seen a W,I seen a W->a.eval it=.pointer (some ⟨r,0,none⟩)/\nx<a.tmps.size/\ok<a.tmps.size/\Itr W b r clock en seen)
 (hdone:∀ seen a W,I seen a W->Xn en seen=[]->Q .normal ((a.put (some nx) (.tuple #[.bool false])).put (some ok) (.bool false)) W)
 (hstep:∀ seen a W x w1,I seen a W->x∈Xn en seen->(w1=W\/w1=W.drew)->Itr (setBlock w1 r (.mapIter (some b) clock (seen.push x.born) clock)) b r clock en (seen.push x.born) ->
  (setBlock w1 r (.mapIter (some b) clock (seen.push x.born) clock)).heap[r]?=some (.mapIter (some b) clock (seen.push x.born) clock)->Jk r W (setBlock w1 r (.mapIter (some b) clock (seen.push x.born) clock)) ->
  body.wpIn (fen none) 0 P (fun ex a2 W2=>ex=.normal/\I (seen.push x.born) a2 W2) ((a.put (some nx) (.tuple #[.bool true,x.key,x.val])).put (some ok) (.bool true)) (setBlock w1 r (.mapIter (some b) clock (seen.push x.born) clock)))
 {a:Act} (h0:I #[] a W):(Code.block id (.loop (.seq (.region i6 #[o3,o4] false) (.seq (.cond (.tmp ok) .skip (.exit id)) body)))).wpIn (fen none) 0 P Q a W:=by
 refine wpIn_block (wpIn_loop (fun a w=>∃ seen,I seen a w) (fun _ w=>(Xn en (ZhE w r)).length) ⟨_,h0⟩ ?_)
 rintro a W ⟨seen,hi⟩
 obtain ⟨e1,e2,e3,e4⟩:=hI _ _ _ hi;obtain ⟨c0,hc,hit⟩:=e4.it;refine wpIn_seq (wpIn_region ?_)
 show wpOpsIn (fen none) 0 P #[o3,o4] _ [0,1] a W
 rw [wpOpsIn_cons]
 have nd3:∀ c,o3.op≠.defer c:=fun c q=>by rw [h3] at q;simp at q
 have nd4:∀ c,o4.op≠.defer c:=fun c q=>by rw [h4] at q;simp at q
 rcases run_nextOp (P:=P) h3 e1 hit e4.map hf hc with ⟨k1,k2⟩|⟨x,hx,w1,hw,k2⟩
 ·refine ZNK (o:=o3) rfl g3 nd3 k2 ?_
  rw [wpOpsIn_cons,d3];refine ZNK (o:=o4) rfl g4 nd4 (ZQR h4 (Act.put_look e2) (x:=.bool false) rfl) ?_;rw [d4]
  show Code.wpIn _ _ _ _ _ _ _
  refine wpIn_seq (wpIn_cond_false (Act.put_look (by simpa [Act.put] using e3)) (wpIn_exit ?_))
  show Exit.inBlock id Q (.exit id) _ _
  simp only [Exit.inBlock,if_true];exact hdone _ _ _ hi k1
 ·refine ZNK (o:=o3) rfl g3 nd3 k2 ?_
  rw [wpOpsIn_cons,d3];refine ZNK (o:=o4) rfl g4 nd4 (ZQR h4 (Act.put_look e2) (x:=.bool true) rfl) ?_;rw [d4]
  show Code.wpIn _ _ _ _ _ _ _
  refine wpIn_seq (wpIn_cond_true (Act.put_look (by simpa [Act.put] using e3)) (wpIn_skip ?_))
  show Code.wpIn _ _ _ _ _ _ _
  have hjk:=Jk.step (W:=W) hw hit rfl (o':=.mapIter (some b) clock (seen.push x.born) clock) rfl
  have hnew:(setBlock w1 r (.mapIter (some b) clock (seen.push x.born) clock)).heap[r]?=some (.mapIter (some b) clock (seen.push x.born) clock):=by
   have hlt:=QW hit
   have hh:w1.heap=W.heap:=by rcases hw with rfl|rfl<;>rfl
   simp [setBlock,hh,hlt]
  refine wpIn_mono (hstep seen a W x w1 hi hx hw ⟨hjk.heap e4.map rfl,clock,Nat.le_refl _,hnew⟩ hnew hjk) ?_
  rintro ex a2 W2 ⟨rfl,h2⟩
  refine ⟨⟨_,h2⟩,?_⟩;rw [(hI _ _ _ h2).2.2.2.seen,e4.seen,(ZYP hf hx).length_eq]
  simp
end
structure OpIs (o:Oper) (op:Op) (d:Nat):Prop where
 op:o.op=op
 gd:o.guard=none
 dst:o.dst=some d
theorem ZJD {P:Program} {W W':World} {ops:Array Oper} {i d:Nat} {o:Oper} {op:Op} {a:Act} {Q:Exit->Act->World->Prop} {K:Act->World->Prop} {x:Value} (h:OpIs o op d) (ho:ops[i]?=some o) (hnd:∀ c,op≠.defer c)
 (hrun:(execOp a.eval o).run P W=.ok (.value x) W') (hK:K (a.put (some d) x) W'):wpOpIn (fen none) 0 P ops Q i K a W :=
 ZNK ho h.gd (fun c q=>hnd c (h.op.symm.trans q)) hrun (by rw [h.dst];exact hK)
section
variable {P:Program} {W0:World} {B0:Bse} {st st':St} {ρ:Rho} {W W':World} {e:Env} {a:Act}
theorem ZHy {o:Oper} {x:Operand} (hop:o.op=.move x\/o.op=.assign x):(execOp a.eval o).run P W=.ok (.value (a.eval x)) W:=by
 rcases hop with h|h<;>simp [execOp,h]
theorem ZbV {o:Oper} {op:BinOp} {t yt:TypeId} {x y:Operand} {k:IntKind} {m n r:Int} (hop:o.op=.binOp op t x y yt) (hx:a.eval x=.int k m) (hy:a.eval y=.int k n)
 (h:ZEB op (.int k m) (.int k n)=some (.int k r)):(execOp a.eval o).run P W=.ok (.value (.int k r)) W:=by
 let C:Cx:=⟨fun _ _ _=>True,fun _ _ _ _ _ _=>True,fun _ _ _ _ _ _=>True,fun _ _ _=>True,fun _ _ _=>True⟩
 obtain ⟨z,hz,hv⟩:=ZhQ (P:=P) (W:=W) (t:=t) (ox:=x) (oy:=y) (C:=C) h (.int k m) (.int k n)
 have:=J2 (hv C);subst this
 simp only [execOp,hop,hx,hy];exact Xr hz
end
theorem ZnW {n:Int} (h:0<=n) (h2:n<4611686018427387904):IntKind.i64.wrap n=n:=by
 have h1:n % 2 ^ 64=n:=Int.emod_eq_of_lt h (by omega)
 simp only [IntKind.wrap,IntKind.bits,IntKind.signed,h1]
 rw [if_neg (by simp;omega)]
section
variable {P:Program} {T:Tab} {O:Orc} {nt:Nat} {W0:World} {B0:Bse} {st st':St} {ρ:Rho} {W W':World} {e:Env} {r:Nat}
theorem CodeOk.seq {c d:Code} {F G:Run} (h:CodeOk none P O nt W0 B0 c F) (k:CodeOk none P O nt W0 B0 d G):CodeOk none P O nt W0 B0 (.seq c d) (fun e st=>(F e st).bind (JV G)):=by
 intro e st ρ W a r Q hx hr he hn hQ;simp only [oB] at hx;obtain ⟨⟨xx,e1,st1⟩,hx1,hx2⟩:=hx;refine wpIn_seq (h e st ρ W a (xx,e1,st1) _ hx1 hr he hn ?_);intro a' ρ' W' g he' hs' hd'
 cases xx with
 | norm=>exact k e1 st1 ρ' W' a' r Q hx2 g.rel he' (by omega) (hQ.after g hs' hd')
 | ex id=>simp only [JV,oJ] at hx2;subst hx2;exact hQ a' ρ' W' g he' hs' hd'
 | ret=>simp only [JV,oJ] at hx2;subst hx2;exact hQ a' ρ' W' g he' hs' hd'
theorem Zfv (hm:P.follows .mixedOrders=true) (hT:TabOk P T) {hs hs':List Hint} {c:Code} {pc:PC} (hc:Jz P nt hs c=some (pc,hs')) (hg:KG P W0 B0):CodeOk none P (S T) nt W0 B0 c (exec (S T) itS pc):=by
 intro e st ρ W a r Q hx hr he hn hQ;obtain ⟨n,hx⟩:=ZCJ hx
 exact exec_ok (ro:=none) (ZAW hm (K:=fun _ _=>True) hT.y n) ⟨trivial,hg⟩ hm n c hs hs' pc hc e st ρ W a r Q hx hr he hn hQ
def toM (P:Program) (nt:Nat) (k:Nat):List Hint->Code->Option ((PC × Code × PC) × List Hint)
 | hs,.seq a b =>
  match Jz P nt hs a with
  | some r=>(toM P nt k r.2 b).map fun q=>((.seq r.1 q.1.1,q.1.2.1,q.1.2.2),q.2)
  | none=>(Jz P nt (hs.drop k) b).map fun r=>((.skip,a,r.1),r.2)
 | _,_=>none
def ZQ1 (O:Orc) (I:Run->Run) (X:Run) (pre post:PC):Run:=fun e st=>(exec O I pre e st).bind (JV fun e st=>(X e st).bind (JV (exec O I post)))
theorem Zob (hm:P.follows .mixedOrders=true) (hT:TabOk P T) {k:Nat} {X:Run} (hg:KG P W0 B0):∀ (c:Code) (hs hs':List Hint) (p1 p2:PC) (x:Code),toM P nt k hs c=some ((p1,x,p2),hs')->CodeOk none P (S T) nt W0 B0 x X ->
 CodeOk none P (S T) nt W0 B0 c (ZQ1 (S T) itS X p1 p2):=by
 intro c
 induction c with
 | seq a b _ ihb =>
  intro hs hs' p1 p2 x hc hX
  have hc':(match Jz P nt hs a with
   | some r=>(toM P nt k r.2 b).map fun q=>(((.seq r.1 q.1.1,q.1.2.1,q.1.2.2):PC × Code × PC),q.2)
   | none=>(Jz P nt (hs.drop k) b).map fun r=>((.skip,a,r.1),r.2))=some ((p1,x,p2),hs'):=by cases hs<;>exact hc
  cases ha:Jz P nt hs a with
  | some q =>
   obtain ⟨pa,h1⟩:=q;rw [ha] at hc';simp only [oM,jP] at hc';obtain ⟨⟨⟨q1,q2,q3⟩,h2⟩,hy,⟨rfl,rfl,rfl⟩,rfl⟩:=hc'
   have:=(Zfv hm hT ha hg).seq (ihb h1 h2 q1 q3 q2 hy hX)
   intro e st ρ W a r Q hx;refine this e st ρ W a r Q ?_;simp only [ZQ1,exec] at hx;rw [ZFM] at hx;exact hx
  | none =>
   rw [ha] at hc';simp only [oM,jP] at hc';obtain ⟨⟨pb,h1⟩,hb,⟨rfl,rfl,rfl⟩,rfl⟩:=hc'
   have:=hX.seq (Zfv hm hT hb hg)
   intro e st ρ W a r Q hx;refine this e st ρ W a r Q ?_;simp only [ZQ1,exec,oS,JV] at hx;exact hx
 | _=>intro hs hs' p1 p2 x hc;cases hs<;>simp [toM] at hc
def fnO (F:Run) (rs:List RV):List AV->St->Option (AV × St):=fun args st=>(F (QZ 0 args) st.push).bind (Q9 false rs)
theorem ZpA {f:FuncId} {fn:Func} {c:Code} {F:Run} {rs:List RV} (hf:P.funcs[f]?=some fn) (hb:fn.body=some c) (hF:∀ W0 B0,KG P W0 B0->CodeOk none P O fn.ntmps W0 B0 c F) (hX:FrX F)
 (hrs:fn.results.toList.mapM (ZBv P)=some rs):ZQf P f (.base (fnO F rs)):=by
 refine ⟨fun args=>Zej hX _ rs,?_⟩
 intro args st v st' h W0 B0 ρ W xs hg hr hx;have h:(F (QZ 0 args) st.push).bind (Q9 false rs)=some (v,st'):=h;simp only [oB] at h;obtain ⟨⟨ex,e1,st1⟩,hex,hend⟩:=h;refine (callsIn_wide (n:=0)).1 (callsIn_of_wp_marks (F:=.wide) hf hb trivial ?_)
 have hsz:fn.ntmps<=(xs.toArray++Array.replicate (fn.ntmps-xs.toArray.size) Go.undef).size:=by simp;omega
 have hpl:st.push.A.length=st.A.length+1:=by simp [St.push]
 have hpush:=Sub.push st
 refine hF W B0 (hg.rel hr) (QZ 0 args) st.push ρ W { tmps:=xs.toArray++Array.replicate (fn.ntmps-xs.toArray.size) Go.undef,defers:=[] } (ex,e1,st1) _ hex (hpush.rel hr).rebase
  ((ZFL ((hx.mono (hpush.cx (Nat.le_refl _))).mono (ZIs (by omega))) _)) hsz ?_
 intro a' ρ' W' g he' _ hd'
 have key:(QQ st1 e1 rs).bind (ZAU st1)=some (v,st')->LeavesInM .wide 0 P fn a'.tmps (fun e W'=>∃ x ρ',e=.returned x/\Goes W0 B0 st ρ W st' ρ' W'/\R (cx st' ρ' W' st'.A.length) v x) a'.defers .returning W':=by
  intro hend;rw [hd'];simp only [oB,ZAU,JN,ZIR,oJ,jP] at hend;obtain ⟨v0,hv,⟨v1,st2⟩,hseal,⟨A',r0⟩,hpop,rfl,rfl⟩:=hend;obtain ⟨x,hx,hxv⟩:=ZH7 hrs hv g.rel he'
  have hl1:st1.A.length=st.A.length+1:=by rw [g.ev.len,hpl]
  obtain ⟨g2,hv2⟩:=Xq QD st1.A.length st1 v0 x v1 st2 g.rel (by omega) hxv hseal
  obtain ⟨g3,hle⟩:=ZCZ g2.rel (g.ev.trans g2.ev) hpop;refine ⟨x,hx,x,ρ',rfl,⟨g3.rel.base (hr.below.trans g3.rel.below),g3.ev⟩,?_⟩;rw [hl1] at hv2;have hl3:(⟨A',r0.1,r0.2⟩:St).A.length=st.A.length:=g3.ev.len;rw [hl3]
  exact R.mono (show R (cx st2 ρ' W' st.A.length) v1 x from hv2) hle
 cases ex with
 | norm=>exact key (by simpa [Q9] using hend)
 | ret=>exact key (by simpa [Q9] using hend)
 | ex id=>simp [Q9] at hend
end
end Go.QAbs
namespace Go.Q15
open Go Go.QAbs
open Go.ChangeMaps (setBlock)
set_option maxRecDepth 100000
set_option maxHeartbeats 8000000
def ZQ2:Code->List (Array Oper)
 | .seq a b=>ZQ2 a++ZQ2 b|.cond _ a b=>ZQ2 a++ZQ2 b|.block _ b=>ZQ2 b|.loop b=>ZQ2 b|.scope b=>ZQ2 b
 | .region _ ops _=>[ops]
 | _=>[]
noncomputable def cV:Code:=Proofs.Try.f20.body.getD .skip
noncomputable def oV (i j:Nat):Oper:=((ZQ2 cV).getD i #[]).getD j default
noncomputable def xV8:Code:=.region 8 #[oV 8 0,oV 8 1,oV 8 2,oV 8 3,oV 8 4] false
noncomputable def xVb:Code:=.block 1 (.seq (.region 7 #[oV 7 0,oV 7 1,oV 7 2] false) xV8)
noncomputable def xV:Code:=.seq (.region 5 #[oV 5 0,oV 5 1] false) (.block 0 (.loop (.seq (.region 6 #[oV 6 0,oV 6 1] false) (.seq (.cond (.tmp 26) .skip (.exit 0)) xVb))))
def h_V:List Hint:=[⟨[0,4,5],[],[],[],[],[]⟩,⟨[8,9],[],[],[],[],[]⟩,⟨[8,9,21],[],[],[],[],[]⟩,⟨[6,7],[],[],[],[],[]⟩,⟨[8,10],[],[],[],[],[]⟩,⟨[],[],[],[],[],[]⟩,⟨[],[],[],[],[],[]⟩,⟨[],[],[],[],[],[]⟩,⟨[],[],[],[],[],[]⟩,⟨[6,7],[],[],[],[],[]⟩]
def ZpB:PC:=.reg [0,4,5] [⟨(some 4),none,false,.box (.s 1)⟩,⟨(some 5),none,false,.box (.s 2)⟩,⟨(some 6),none,false,.mv (.v (.int .i64 0))⟩,⟨(some 7),none,false,.mv (.v (.int .i64 0))⟩]
def ZpC:PC:=.reg [8,9] [⟨(some 14),none,false,.mv (.s 0)⟩,⟨(some 15),none,false,.ld true 5 (.s 4)⟩,⟨(some 16),none,false,.ld true 5 (.s 5)⟩,⟨(some 17),none,false,.call .norm (.v (.func (.func ZCf) [] [])) [(.s 14),(.s 15),(.s 16)]⟩,⟨(some 13),none,false,.mv (.s 17)⟩,⟨(some 18),none,false,.ext (.s 13) 0⟩,⟨(some 19),none,false,.ext (.s 13) 1⟩,⟨(some 8),none,false,.mv (.s 18)⟩,⟨(some 9),none,false,.mv (.s 19)⟩]
def ZpD:PC:=.reg [8,9,21] [⟨(some 20),none,false,.mv (.s 9)⟩,⟨(some 21),none,false,.bin .neq (.s 20) (.v (.int .i64 0))⟩]
def ZpE:PC:=.reg [6,7] [⟨(some 22),none,false,.mv (.s 9)⟩,⟨(some 6),none,false,.mv (.v (.int .i64 0))⟩,⟨(some 7),none,false,.mv (.s 22)⟩]
def ZpF:PC:=.reg [8,10] [⟨(some 10),none,false,.mv (.v (.int .i64 0))⟩]
def pV1:PC:=.seq ZpB (D ZpC (D (D ZpD (E 21 (D ZpE .ret) .skip)) (D ZpF .skip)))
def pV2:PC:=.seq (R [6,7] [⟨(some 33),none,false,.mv (.s 10)⟩,⟨(some 6),none,false,.mv (.s 33)⟩,⟨(some 7),none,false,.mv (.v (.int .i64 0))⟩]) .ret
def rsV:List RV:=[.s 6,.s 7]
theorem cV_m:toM Proofs.Try.prog 34 4 h_V cV=some ((pV1,xV,pV2),[]):=by kernel_rfl
theorem oV50:OpIs (oV 5 0) (.move (.tmp 8)) 23:=⟨by kernel_rfl,by kernel_rfl,by kernel_rfl⟩
theorem oV51:OpIs (oV 5 1) (.range 90 (.tmp 23)) 24:=⟨by kernel_rfl,by kernel_rfl,by kernel_rfl⟩
theorem oV60:OpIs (oV 6 0) (.next (.tmp 24) false) 25:=⟨by kernel_rfl,by kernel_rfl,by kernel_rfl⟩
theorem oV61:OpIs (oV 6 1) (.extract (.tmp 25) 0) 26:=⟨by kernel_rfl,by kernel_rfl,by kernel_rfl⟩
theorem oV70:OpIs (oV 7 0) (.entry (.tmp 24)) 27:=⟨by kernel_rfl,by kernel_rfl,by kernel_rfl⟩
theorem oV71:OpIs (oV 7 1) (.extract (.tmp 27) 1) 28:=⟨by kernel_rfl,by kernel_rfl,by kernel_rfl⟩
theorem oV72:OpIs (oV 7 2) (.assign (.tmp 28)) 12:=⟨by kernel_rfl,by kernel_rfl,by kernel_rfl⟩
theorem oV80:OpIs (oV 8 0) (.move (.tmp 10)) 29:=⟨by kernel_rfl,by kernel_rfl,by kernel_rfl⟩
theorem oV81:OpIs (oV 8 1) (.move (.tmp 12)) 30:=⟨by kernel_rfl,by kernel_rfl,by kernel_rfl⟩
theorem oV82:OpIs (oV 8 2) (.binOp .rem 3 (.tmp 30) (.const (.int .i64 2)) 3) 31:=⟨by kernel_rfl,by kernel_rfl,by kernel_rfl⟩
theorem oV83:OpIs (oV 8 3) (.binOp .add 3 (.tmp 29) (.tmp 31) 3) 32:=⟨by kernel_rfl,by kernel_rfl,by kernel_rfl⟩
theorem oV84:OpIs (oV 8 4) (.assign (.tmp 32)) 10:=⟨by kernel_rfl,by kernel_rfl,by kernel_rfl⟩
attribute [irreducible] oV
def Zds:AV->Option Int
 | .int .i64 v=>if 0<=v then some (v % 2) else none
 | _=>none
def ZHz:List (AV × AV)->Option Int
 | []=>some 0
 | (_,v)::l=>(Zds v).bind fun x=>(ZHz l).map fun y=>x+y
def Zfw:Run:=fun e st=>match QAbs.look e 8,QAbs.look e 10 with
 | .map lv ix,.int .i64 n0=>(ZFC (st.get lv ix)).bind fun es=>if n0=0/\es.length<1000000000 then (ZHz es).map fun s=>(.norm,[(10,.int .i64 s)],st) else none
 | _,_=>none
def ZYQ (x:MapEntry):Int:=match x.val with|.int _ v=>v % 2|_=>0
theorem ZbW {C:Cx}:∀ {es:List (AV × AV)} {l:List MapEntry} {s:Int},EntR C es l->ZHz es=some s->(l.map ZYQ).sum=s/\∀ x∈l,∃ v:Int,0<=v/\x.val=.int .i64 v
 | [],l,s,h,hs=>by
  have:l=[]:=List.eq_nil_of_length_eq_zero h.1.symm
  subst this;simp only [ZHz,oJ] at hs
  exact ⟨by simpa using hs,by simp⟩
 | (k,v)::es,[],s,h,hs=>by have:=h.1;simp at this
 | (k,v)::es,x::l,s,h,hs=>by
  simp only [ZHz,oB,oM] at hs;obtain ⟨n,hn,m,hm,rfl⟩:=hs
  obtain ⟨i1,i2⟩:=ZbW (C:=C) (es:=es) (l:=l) ⟨by have:=h.1;simpa using this,fun i k' v' x' a b=>h.2 (i+1) k' v' x' (by simpa using a) (by simpa using b)⟩ hm
  obtain ⟨_,_,hv⟩:=h.2 0 k v x rfl rfl;unfold Zds at hn
  split at hn
  ·rename_i w
   split at hn
   ·rename_i hw
    simp only [oJ] at hn;have hx:=J2 hv
    refine ⟨by simp [ZYQ,hx,i1,hn],fun y hy=>?_⟩
    rcases List.mem_cons.1 hy with rfl|hy
    ·exact ⟨w,hw,hx⟩
    ·exact i2 y hy
   ·simp at hn
  ·simp at hn
theorem ZiH {l:List MapEntry} (h:∀ x∈l,∃ v:Int,0<=v/\x.val=.int .i64 v):0<=(l.map ZYQ).sum/\(l.map ZYQ).sum<=l.length:=by
 induction l with
 | nil=>simp
 | cons x l ih =>
  obtain ⟨i1,i2⟩:=ih fun y hy=>h y (by simp [hy])
  obtain ⟨v,hv,hx⟩:=h x (by simp)
  have:ZYQ x=v % 2:=by simp [ZYQ,hx]
  simp only [jC,List.sum_cons,List.length_cons,this];omega
structure VI (W:World) (a:Act) (b clock:Nat) (en:Array MapEntry) (s:Int) (seen:Array Nat) (a':Act) (W':World):Prop where
 it:Itr W' b W.heap.size clock en seen
 jk:Jk W.heap.size W W'
 sz:a'.tmps.size=a.tmps.size
 df:a'.defers=a.defers
 ev:a'.eval (.tmp 24)=.pointer (some ⟨W.heap.size,0,none⟩)
 n:∃ n:Int,0<=n/\a'.eval (.tmp 10)=.int .i64 n/\n+((Xn en seen).map ZYQ).sum=s
theorem Zoc {T:Tab} {W0:World} {B0:Bse}:CodeOk none Proofs.Try.prog (S T) 34 W0 B0 xV Zfw:=by
 intro e st ρ W a r Q hx hr he hn hQ;unfold Zfw at hx
 split at hx
 case h_2=>simp at hx
 rename_i lv ix n0 hl hl10
 simp only [oB] at hx;obtain ⟨es,hes,hx⟩:=hx
 split at hx
 case isFalse=>simp at hx
 rename_i hlen
 obtain ⟨rfl,hlen⟩:=hlen;simp only [oM] at hx;obtain ⟨s,hs,rfl⟩:=hx;have hg:=ZG9 hes;have h10:=he 10;rw [hl10] at h10;have hev10:a.eval (.tmp 10)=.int .i64 0:=J2 h10;have h8:=he 8;rw [hl] at h8;generalize hm8:a.tmps.getD 8 Go.undef=m8 at h8
 have hev8:a.eval (.tmp 8)=m8:=by rw [<- hm8];rfl
 cases h8 with
 | map hp =>
 obtain ⟨p1,p2,r0,rfl,p3⟩:=hp
 have:=p3 es hg;subst this
 obtain ⟨en,clock,h1,h2,hf⟩:=(hr.map lv ix es hg).ent;obtain ⟨hsum,hall⟩:=ZbW h2 hs
 have hsz:en.toList.length<1000000000:=by have:=h2.1;omega
 unfold xV;refine wpIn_seq (wpIn_region ?_)
 show wpOpsIn (fen none) 0 _ #[oV 5 0,oV 5 1] _ [0,1] a W
 rw [wpOpsIn_cons]
 refine ZJD oV50 rfl (by simp) (ZHy (x:=.tmp 8) (.inl oV50.op)) ?_
 rw [wpOpsIn_cons,hev8]
 have z23:23<a.tmps.size:=by omega
 refine ZJD oV51 rfl (by simp) (Zft (m:=.tmp 23) (t:=90) oV51.op (show Proofs.Try.prog.underlying 90=some (TypeDesc.map 29 3) by kernel_rfl) (Act.put_look z23) h1) ?_
 show Code.wpIn _ _ _ _ _ _ _
 have hjk0:Jk W.heap.size W (W.alloc (.mapIter (some (ρ lv ix).b) clock #[] clock)):=by
  exact ⟨rfl,rfl,rfl,by simp,fun i hi _=>Go.RowKit.Below.heap_alloc _ _ _ hi,.inl (Nat.le_refl _)⟩
 refine ZhF (o3:=oV 6 0) (o4:=oV 6 1) (it:=.tmp 24) (nx:=25) (ok:=26) hf oV60.op oV60.gd oV60.dst oV61.op oV61.gd oV61.dst
  (VI W a (ρ lv ix).b clock en s) (fun seen a' W' h=>⟨h.ev,by have:=h.sz;omega,by have:=h.sz;omega,h.it⟩) ?_ ?_ ?_
 ·intro seen a' W' h hl
  obtain ⟨n,hn0,hn1,hn2⟩:=h.n;rw [hl] at hn2;simp only [List.map_nil,List.sum_nil,Int.add_zero] at hn2;subst hn2
  refine hQ _ ρ W' (hr.jk h.jk hr.b0) ?_ (by simpa [Act.put] using h.sz) h.df
  intro t
  by_cases ht:t=10
  ·subst ht
   have h1:((a'.put (some 25) (.tuple #[.bool false])).put (some 26) (.bool false)).eval (.tmp 10)=.int .i64 n:=by
    rw [Act.put_other (by decide),Act.put_other (by decide)];exact hn1
   have h2:((a'.put (some 25) (.tuple #[.bool false])).put (some 26) (.bool false)).tmps.getD 10 Go.undef=.int .i64 n:=h1;rw [h2];exact .int _ _
  ·have:QAbs.look [((10:Nat),(AV.int .i64 n))] t=.any:=by simp [QAbs.look,Ne.symm ht]
   show QAbs.R _ (QAbs.look [((10:Nat),(AV.int .i64 n))] t) _
   rw [this];exact .any _
 ·intro seen a' W' x w1 h hx hw hit hnew hjk
  obtain ⟨n,hn0,hn1,hn2⟩:=h.n;obtain ⟨v,hv0,hv⟩:=hall x (ZQQ hx);have hsz':=h.sz
  generalize hW1:setBlock w1 W.heap.size (.mapIter (some (ρ lv ix).b) clock (seen.push x.born) clock)=W1 at *
  have hperm:=ZYP hf hx
  have hsum2:((Xn en seen).map ZYQ).sum=v % 2+((Xn en (seen.push x.born)).map ZYQ).sum:=by
   have:∀ l l':List Int,l.Perm l'->l.sum=l'.sum:=fun l l' h=>by
    induction h with
    | nil=>rfl
    | cons x _ ih=>simp [ih]
    | swap x y l=>simp;omega
    | trans _ _ i1 i2=>exact i1.trans i2
   rw [this _ _ (hperm.map ZYQ)]
   simp [ZYQ,hv]
  have hrest:=ZiH (l:=Xn en (seen.push x.born)) fun y hy=>hall y (ZQQ hy)
  have hlen2:(Xn en (seen.push x.born)).length<=en.toList.length:=by
   have:(Xn en (seen.push x.born))=en.toList.filter fun e=>!(seen.push x.born).contains e.born:=by simp [Xn,leftOf]
   rw [this];exact List.length_filter_le ..
  have hs0:=(ZiH hall).2;rw [hsum] at hs0;unfold xVb;refine wpIn_block (wpIn_seq (wpIn_region ?_))
  show wpOpsIn (fen none) 0 _ #[oV 7 0,oV 7 1,oV 7 2] _ [0,1,2] _ W1
  generalize ha1:(a'.put (some 25) (.tuple #[.bool true,x.key,x.val])).put (some 26) (.bool true)=a1
  have s1:a1.tmps.size=a.tmps.size:=by rw [<- ha1];simpa [Act.put] using hsz'
  have d1:a1.defers=a.defers:=by rw [<- ha1];exact h.df
  have e24:a1.eval (.tmp 24)=.pointer (some ⟨W.heap.size,0,none⟩):=by rw [<- ha1,Act.put_other (by decide),Act.put_other (by decide)];exact h.ev
  have e10:a1.eval (.tmp 10)=.int .i64 n:=by rw [<- ha1,Act.put_other (by decide),Act.put_other (by decide)];exact hn1
  rw [wpOpsIn_cons]
  refine ZJD oV70 rfl (by simp) (Zfu (it:=.tmp 24) oV70.op e24 hnew hit.map hf (ZQQ hx)) ?_
  rw [wpOpsIn_cons]
  refine ZJD oV71 rfl (by simp) (ZQR (t:=.tmp 27) (k:=1) (x:=x.val) oV71.op (Act.put_look (by omega)) rfl) ?_
  rw [wpOpsIn_cons]
  refine ZJD oV72 rfl (by simp) (ZHy (x:=.tmp 28) (.inr oV72.op)) ?_
  rw [Act.put_look (by simp [Act.put];omega),hv]
  show Code.wpIn _ _ _ _ _ _ _
  generalize ha2:((a1.put (some 27) (.tuple #[x.key,.int .i64 v])).put (some 28) (.int .i64 v)).put (some 12) (.int .i64 v)=a2
  have s2:a2.tmps.size=a.tmps.size:=by rw [<- ha2];simpa [Act.put] using s1
  have d2:a2.defers=a.defers:=by rw [<- ha2];exact d1
  have f24:a2.eval (.tmp 24)=.pointer (some ⟨W.heap.size,0,none⟩):=by rw [<- ha2,Act.put_other (by decide),Act.put_other (by decide),Act.put_other (by decide)];exact e24
  have f10:a2.eval (.tmp 10)=.int .i64 n:=by rw [<- ha2,Act.put_other (by decide),Act.put_other (by decide),Act.put_other (by decide)];exact e10
  have f12:a2.eval (.tmp 12)=.int .i64 v:=by rw [<- ha2];exact Act.put_look (by simp [Act.put];omega)
  unfold xV8;refine wpIn_region ?_
  show wpOpsIn (fen none) 0 _ #[oV 8 0,oV 8 1,oV 8 2,oV 8 3,oV 8 4] _ [0,1,2,3,4] a2 W1
  rw [wpOpsIn_cons]
  refine ZJD oV80 rfl (by simp) (ZHy (x:=.tmp 10) (.inl oV80.op)) ?_
  rw [f10,wpOpsIn_cons]
  refine ZJD oV81 rfl (by simp) (ZHy (x:=.tmp 12) (.inl oV81.op)) ?_
  rw [Act.put_other (by decide),f12,wpOpsIn_cons]
  refine ZJD oV82 rfl (by simp) (ZbV (x:=.tmp 30) (y:=.const (.int .i64 2)) (m:=v) (n:=2) (r:=v % 2) oV82.op (Act.put_look (by simp [Act.put];omega)) rfl
   (by show some (AV.int .i64 (v.tmod 2))=_;rw [Int.tmod_eq_emod_of_nonneg hv0])) ?_
  rw [wpOpsIn_cons]
  refine ZJD oV83 rfl (by simp) (ZbV (x:=.tmp 29) (y:=.tmp 31) (m:=n) (n:=v % 2) (r:=n+v % 2) oV83.op (by rw [Act.put_other (by decide),Act.put_other (by decide)];exact Act.put_look (by omega)) (Act.put_look (by simp [Act.put];omega))
   (by show some (AV.int .i64 (IntKind.i64.wrap (n+v % 2)))=_;rw [ZnW (by omega) (by omega)])) ?_
  rw [wpOpsIn_cons]
  refine ZJD oV84 rfl (by simp) (ZHy (x:=.tmp 32) (.inr oV84.op)) ?_
  rw [Act.put_look (by simp [Act.put];omega)]
  refine ⟨rfl,hit,h.jk.trans (Nat.le_refl _) hjk,by simpa [Act.put] using s2,d2,?_,n+v % 2,by omega,Act.put_look (by simp [Act.put];omega),by omega⟩
  rw [Act.put_other (by decide),Act.put_other (by decide),Act.put_other (by decide),Act.put_other (by decide),Act.put_other (by decide)];exact f24
 ·refine ⟨⟨?_,clock,Nat.le_refl _,?_⟩,hjk0,by simp [Act.put],rfl,Act.put_look (by simp [Act.put];omega),0,by omega,?_,?_⟩
  ·exact hjk0.heap h1 rfl
  ·exact World.alloc_heap_new _ _
  ·rw [Act.put_other (by decide),Act.put_other (by decide)];exact hev10
  ·rw [ZjW,hsum];omega
end Go.Q15
namespace Go.Q15
open Go Go.QAbs
set_option maxRecDepth 100000
set_option maxHeartbeats 8000000
theorem ZnX:FrX Zfw:=FrX.of fun e st r hr=>by
 unfold Zfw at hr ⊢
 split at hr
 case h_2=>simp at hr
 rename_i lv ix n0 h1 h2
 simp only [oB] at hr;obtain ⟨es,hes,hr⟩:=hr
 split at hr
 case isFalse=>simp at hr
 rename_i hc
 simp only [oM] at hr;obtain ⟨s,hs,rfl⟩:=hr
 refine ⟨rfl,fun M i B hh=>?_⟩
 have hg:=ZG9 hes;simp only [Jq hh lv ix _ hg];simp only [ZFC,oS,if_pos hc,hs,Option.map_some]
theorem ZjX {P:Program} {T:Tab} (hm:P.follows .mixedOrders=true) (hT:TabOk P T) {X:Run} (hX:FrX X) (p1 p2:PC):FrX (ZQ1 (S T) itS X p1 p2) :=
 ZCb (Za4 hm hT p1) fun x r hr=>ZEK (ZCb hX fun x r hr=>ZEK (Za4 hm hT p2) hr) hr
noncomputable def visE:Ent:=.base (fnO (ZQ1 (S T3) itS Zfw pV1 pV2) rsV)
noncomputable def tv:List (FuncId × Ent):=(J6,visE)::t3
noncomputable def TV:Tab:=ZAX tv
theorem ZnY (hT:TabOk Proofs.Try.prog T3) (hm:Proofs.Try.prog.follows .mixedOrders=true) (hf:Proofs.Try.prog.funcs[J6]?=some Proofs.Try.f20):ZQf Proofs.Try.prog J6 visE:=by
 refine ZpA (c:=cV) (O:=S T3) hf (by kernel_rfl) (fun W0 B0 hg=>?_) (ZjX hm hT ZnX _ _) (by kernel_rfl)
 exact Zob (nt:=Proofs.Try.f20.ntmps) hm hT hg cV h_V [] pV1 pV2 xV cV_m Zoc
def ZG3 (l:List (Nat × Int)):List (AV × AV):=l.map fun p=>(AV.int .u64 p.1,AV.int .i64 p.2)
def ZGD (h:Nat):List (Nat × Int)->List (Nat × Int)
 | []=>[(h,1)]
 | (k,n)::l=>if k=h then (k,n+1)::l else (k,n)::ZGD h l
def ZAw (h:Nat):List (Nat × Int)->Int
 | []=>0
 | (k,n)::l=>if k=h then n else ZAw h l
def fC (h:Nat):List (Nat × Int)->Option AV
 | []=>none
 | (k,n)::l=>if k=h then some (.int .i64 n) else fC h l
theorem Zfx (o:Nat):∀ l,ZAJ (.int .u64 o) (ZG3 l)=some (fC o l)
 | []=>rfl
 | (k,n)::l=>by
  rw [ZG3,jC,ZAJ]
  show (Option.bind (if IntKind.u64=IntKind.u64 then some ((o:Int) == (k:Int)) else none) fun b=>if b=true then some (some (AV.int .i64 n)) else ZAJ (.int .u64 o) (ZG3 l))=_
  rw [if_pos rfl,oS,Zfx o l,fC]
  by_cases h:k=o
  ·subst h;simp
  ·rw [if_neg h,if_neg (by simp;omega)]
theorem ZlZ (o:Nat):∀ l,(fC o l).getD (.int .i64 0)=.int .i64 (ZAw o l)
 | []=>rfl
 | (k,n)::l=>by
  unfold fC ZAw
  split
  ·rfl
  ·exact ZlZ o l
theorem Zdt (o:Nat):∀ l,ZCT (.int .u64 o) (.int .i64 (ZAw o l+1)) (ZG3 l)=some (ZG3 (ZGD o l))
 | []=>rfl
 | (k,n)::l=>by
  rw [ZG3,jC,ZCT]
  show (Option.bind (if IntKind.u64=IntKind.u64 then some ((o:Int) == (k:Int)) else none) fun b=>if b=true then some ((AV.int .u64 o,AV.int .i64 (ZAw o ((k,n)::l)+1))::ZG3 l) else (ZCT (.int .u64 o) (.int .i64 (ZAw o ((k,n)::l)+1)) (ZG3 l)).map fun r=>(AV.int .u64 k,AV.int .i64 n)::r)=_
  rw [if_pos rfl,oS]
  by_cases h:k=o
  ·subst h
   rw [if_pos (by simp),ZAw,if_pos rfl,ZGD,if_pos rfl];rfl
  ·rw [if_neg (by simp;omega),ZAw,if_neg h,Zdt o l,ZGD,if_neg h];rfl
theorem ZiI {st:St} {lv mx:Nat} {l:List (Nat × Int)} (hg:st.get lv mx=some (.map (ZG3 l))) (o:Nat):lookV st 0 (.int .i64 0) false (.int .u64 o) (.map lv mx)=some (.int .i64 (ZAw o l)):=by
 simp only [lookV,Zah,hg,ZFC,oS,YL,if_true,Zfx,Option.map_some,oJ];rw [<- ZlZ]
 cases fC o l<;>rfl
theorem Zfy (o h:Nat):∀ l,ZAw o (ZGD h l)=ZAw o l+if o=h then 1 else 0
 | []=>by simp only [ZGD,ZAw];by_cases e:h=o<;>simp [e,Ne.symm]
 | (k,n)::l=>by
  unfold ZGD
  by_cases e:k=h
  ·subst e
   rw [if_pos rfl];unfold ZAw
   by_cases e2:k=o
   ·subst e2;simp
   ·rw [if_neg e2,if_neg e2,if_neg (fun q=>e2 q.symm)];simp
  ·rw [if_neg e]
   show (if k=o then n else ZAw o (ZGD h l))=(if k=o then n else ZAw o l)+_
   by_cases e2:k=o
   ·subst e2;rw [if_pos rfl,if_pos rfl,if_neg e];simp
   ·rw [if_neg e2,if_neg e2];exact Zfy o h l
def Y0 (c:List (Nat × Int)) (l:List Nat):List (Nat × Int):=l.foldl (fun c h=>ZGD h c) c
theorem ZIM (o:Nat):∀ (l:List Nat) (c:List (Nat × Int)),ZAw o (Y0 c l)=ZAw o c+l.count o
 | [],c=>by simp [Y0]
 | h::l,c=>by
  show ZAw o (Y0 (ZGD h c) l)=_
  rw [ZIM o l,Zfy,List.count_cons]
  by_cases e:o=h
  ·subst e;simp;omega
  ·rw [if_neg e,if_neg (by simpa using fun q=>e q.symm)];simp
theorem ZbX (c:List (Nat × Int)) (l:List Nat) (h:Nat):Y0 c (l++[h])=ZGD h (Y0 c l):=by simp [Y0]
theorem ZbY {O:Orc} {k:List Fr} {Q:Jv} {e:Env} {A:List (Bool × List Blk)} {L:List Blk} {keep:List Nat} {is:List QAbs.PI} {kk ix:Nat} {x i v:Opd} {ki w:AV} {es es':List (AV × AV)}
 (hx:Zc e x=some (.map A.length ix)) (hi:Zc e i=some ki) (hki:YL kk ki=true) (hv:Zc e v=some w) (hs:ZY QD (A.length+1) ⟨A,false,L⟩ w=some (w,⟨A,false,L⟩)) (hb:L[ix]?=some (.map es)) (hp:ZCT ki w es=some es')
 (h:Is O is keep k Q e ⟨A,false,L.set ix (.map es')⟩):Is O (⟨none,none,false,.mupd kk x i v⟩::is) keep k Q e ⟨A,false,L⟩:=by
 have hlt:=Zr hb
 have hg:St.get ⟨A,false,L⟩ A.length ix=some (.map es):=by simp only [St.get,if_true,hb];rfl
 have hput:St.put ⟨A,false,L⟩ A.length ix (.map es')=some ⟨A,false,L.set ix (.map es')⟩:=by simp only [St.put,if_true,jB,if_false,if_pos hlt]
 refine Z1 (od:=none) (v:=.undef) (st':=⟨A,false,L.set ix (.map es')⟩) ?_ h;simp only [Zf,evalPO,ZG hx,ZG hi,ZG hv,ZG4,hki,if_true,hs,oS,ZIp,hg,ZFC,hp,hput,ZBO]
theorem leV:TLe T3 TV:=fun g y hg=>ZYG (l:=t3) (by decide +kernel) g y hg
theorem upV {f:FuncId} {args:List AV} {st:St} {r:AV × St} (h:S T3 f args st=some r):S TV f args st=some r:=Ze9 leV _ _ _ _ h
theorem Zla {A:List (Bool × List Blk)} {X Y:Blk} {la b:Nat} {N:ZJ} (hN:GoodN N) (hR:∀ L,Rd ⟨A,false,L⟩ la (b+5) N) {x y:Ro} (hx:RtOk N x) (hy:RtOk N y) :
 S T3 ZCf [.ptr la (b+5) 0 0 0,x.av,y.av] ⟨A,false,[X,Y]⟩=some (.tup [.map A.length 4,.int .i64 0],
  ⟨A,false,[X,Y,.arr 5 0 [x.av],.arr 5 0 [y.av],.map (ZG3 (Y0 (Y0 [] (YF (Qx N x))) (YF (Qx N y)))),.arr 5 0 [x.av],.arr 5 0 [y.av],.arr 5 0 [x.av],.arr 5 0 [y.av]]⟩):=by
 refine ZBh rfl ?_
 have cx:=fun L=>up13 (Zdq hN (hR L) hx)
 have cy:=fun L=>up13 (Zdq hN (hR L) hy)
 have nx:=fun L=>(Zh9 hN (hR L) hx)
 have ny:=fun L=>(Zh9 hN (hR L) hy)
 have lx:=ZDC hN hx;have ly:=ZDC hN hy
 have lx2:(YF (Qx N x)).length<=1000000000:=by have:=(ZDD (Qx N x)).2.2;omega
 have ly2:(YF (Qx N y)).length<=1000000000:=by have:=(ZDD (Qx N y)).2.2;omega
 generalize YF (Qx N x)=vx at *
 generalize YF (Qx N y)=vy at *
 unfold Ro.av at *
 repeat' (first|refine ZE ?_|refine ZD ?_|refine ZF rfl ?_|refine ZP rfl rfl rfl rfl ?_|refine ZA rfl ?_|refine ZC ?_|refine ZAZ rfl rfl ?_|refine Za rfl rfl rfl ?_|refine Qa rfl rfl rfl rfl ?_|refine ZCd rfl ?_|refine ZL ?_)
 refine Qh ?_
 repeat' (first|refine ZE ?_|refine ZD ?_|refine ZF rfl ?_|refine ZP rfl rfl rfl rfl ?_|refine ZA rfl ?_|refine ZC ?_|refine QM rfl rfl ?_|refine ZJN rfl rfl (by first|omega|decide|(simp only [List.length_cons,List.length_nil];omega)) rfl rfl ?_|(refine Zh rfl rfl (fun _=>?_) (fun _=>?_)<;>try (exfalso;omega))|(refine Zk rfl rfl (fun _=>?_) (fun _=>?_)<;>try (exfalso;omega))|refine ZV rfl ?_|refine ZH rfl ?_|refine Zm rfl rfl (by omega) ?_|refine Za rfl rfl rfl ?_|refine Zl rfl rfl rfl rfl rfl rfl ?_|refine ZB rfl rfl rfl (cx _) ?_|refine ZI ?_|refine ZL ?_|refine Zy ?_)
 all_goals try contradiction
 refine Qh ?_
 repeat' (first|refine ZE ?_|refine ZD ?_|refine ZF rfl ?_|refine ZP rfl rfl rfl rfl ?_|refine ZA rfl ?_|refine ZC ?_|refine QM rfl rfl ?_|refine ZJN rfl rfl (by first|omega|decide|(simp only [List.length_cons,List.length_nil];omega)) rfl rfl ?_|(refine Zh rfl rfl (fun _=>?_) (fun _=>?_)<;>try (exfalso;omega))|(refine Zk rfl rfl (fun _=>?_) (fun _=>?_)<;>try (exfalso;omega))|refine ZV rfl ?_|refine ZH rfl ?_|refine Zm rfl rfl (by omega) ?_|refine Za rfl rfl rfl ?_|refine Zl rfl rfl rfl rfl rfl rfl ?_|refine ZB rfl rfl rfl (cy _) ?_|refine ZI ?_|refine ZL ?_|refine Zy ?_)
 all_goals try contradiction
 refine Qh ?_
 repeat' (first|refine ZE ?_|refine ZD ?_|refine ZF rfl ?_|refine ZP rfl rfl rfl rfl ?_|refine ZA rfl ?_|refine ZC ?_|refine ZAZ rfl rfl ?_|(refine Zh rfl rfl (fun _=>?_) (fun _=>?_)<;>try (exfalso;omega))|refine ZH rfl ?_|refine Qa rfl rfl rfl rfl ?_|refine Zu ?_|refine ZL ?_|refine Ze ?_|refine Zb rfl ?_)
 all_goals try (exfalso;omega)
 refine Qh ?_
 repeat' (first|refine ZE ?_|refine ZD ?_|refine ZF rfl ?_|refine ZP rfl rfl rfl rfl ?_|refine Zs rfl rfl ?_|refine ZA rfl ?_|refine ZC ?_|refine QU rfl ?_|refine QM rfl rfl ?_|refine ZJN rfl rfl (by first|omega|decide|(simp only [List.length_cons,List.length_nil];omega)) rfl rfl ?_|(refine Zh rfl rfl (fun _=>?_) (fun _=>?_)<;>try (exfalso;omega))|(refine Zk rfl rfl (fun _=>?_) (fun _=>?_)<;>try (exfalso;omega))|refine ZV rfl ?_|refine ZH rfl ?_|refine Za rfl rfl rfl ?_|refine Zl rfl rfl rfl rfl rfl rfl ?_|refine ZB rfl rfl rfl (nx _) ?_|refine ZI ?_|refine ZL ?_)
 all_goals try contradiction
 refine Z2 (α:=Nat) (fun i=>[(0,.ptr la (b+5) 0 0 0),(8,.map A.length 4),(36,.lit [x.av,y.av]),(37,.int .i64 2),(38,.int .i64 0),(51,.lit (vx.map Z6)),(52,.int .i64 vx.length),(53,.int .i64 i)]) (fun i=>⟨A,false,[X,Y,.arr 5 0 [x.av],.arr 5 0 [y.av],.map (ZG3 (Y0 [] (vx.take i))),.arr 5 0 [x.av],.arr 5 0 [y.av],.arr 5 0 [x.av]]⟩) (fun i=>i<=vx.length) (fun i=>vx.length-i) 0 rfl rfl (by omega) ?_
 rintro i hi
 unfold Ro.av
 rcases Nat.lt_or_ge i vx.length with hlt|hge
 ·obtain ⟨h,hh⟩:∃ k,vx[i]?=some k:=⟨vx[i]'hlt,jE _⟩
  have qk:0<=((i:Nat):Int)/\vx[((i:Nat):Int).toNat]?=some h:=⟨by omega,by rw [show ((i:Nat):Int).toNat=i by omega];exact hh⟩
  have ht:vx.take (i+1)=vx.take i++[h]:=Zg hh
  have hg0:0<=ZAw h (Y0 [] (vx.take i))/\ZAw h (Y0 [] (vx.take i))<=2000000000:=by
   have h1:=ZIM h (vx.take i) [];have h2:=List.count_le_length (a:=h) (l:=vx.take i)
   have h3:(vx.take i).length<=vx.length:=by rw [List.length_take];omega
   simp only [ZAw] at h1;omega
  have hc:Y0 [] (vx.take (i+1))=ZGD h (Y0 [] (vx.take i)):=by rw [ht,ZbX]
  generalize Y0 [] (vx.take i)=c at *
  have hlk:lookV ⟨A,false,[X,Y,.arr 5 0 [x.av],.arr 5 0 [y.av],.map (ZG3 c),.arr 5 0 [x.av],.arr 5 0 [y.av],.arr 5 0 [x.av]]⟩ 0 (.int .i64 0) false (.int .u64 h) (.map A.length 4)=some (.int .i64 (ZAw h c)):=ZiI (by simp only [St.get,if_true];rfl) h
  have hput:=Zdt h c
  generalize ZAw h c=n at *
  repeat' (first|refine YE (f:=Z6) rfl rfl qk (fun _=>rfl) ?_|refine Ye rfl rfl hlk ?_|refine ZbY rfl rfl rfl rfl rfl rfl hput ?_|refine ZE ?_|refine ZD ?_|refine ZF rfl ?_|refine ZA rfl ?_|refine ZC ?_|refine QM rfl rfl ?_|(refine Zh rfl rfl (fun _=>?_) (fun _=>?_)<;>try (exfalso;omega))|refine ZV rfl ?_|refine Zm rfl rfl (by omega) ?_|refine ZI ?_|refine ZL ?_|refine Zy ?_|refine QH ?_)
  all_goals try (exfalso;omega)
  refine ⟨i+1,⟨rfl,?_⟩,by omega,by omega⟩
  rw [hc];rfl
 ·obtain rfl:i=vx.length:=by omega
  rw [List.take_length]
  repeat' (first|refine ZE ?_|refine ZD ?_|refine ZF rfl ?_|refine ZA rfl ?_|refine ZC ?_|(refine Zh rfl rfl (fun _=>?_) (fun _=>?_)<;>try (exfalso;omega))|refine ZH rfl ?_|refine Zm rfl rfl (by omega) ?_|refine Zu ?_|refine Ze ?_|refine Zy ?_|refine Zb rfl ?_|refine Zt ?_)
  all_goals try (exfalso;omega)
  refine Qh ?_
  repeat' (first|refine ZE ?_|refine ZD ?_|refine ZF rfl ?_|refine ZP rfl rfl rfl rfl ?_|refine Zs rfl rfl ?_|refine ZA rfl ?_|refine ZC ?_|refine QU rfl ?_|refine QM rfl rfl ?_|refine ZJN rfl rfl (by first|omega|decide|(simp only [List.length_cons,List.length_nil];omega)) rfl rfl ?_|(refine Zh rfl rfl (fun _=>?_) (fun _=>?_)<;>try (exfalso;omega))|(refine Zk rfl rfl (fun _=>?_) (fun _=>?_)<;>try (exfalso;omega))|refine ZV rfl ?_|refine ZH rfl ?_|refine Za rfl rfl rfl ?_|refine Zl rfl rfl rfl rfl rfl rfl ?_|refine ZB rfl rfl rfl (ny _) ?_|refine ZI ?_|refine ZL ?_)
  all_goals try contradiction
  refine Z2 (α:=Nat) (fun i=>[(0,.ptr la (b+5) 0 0 0),(8,.map A.length 4),(36,.lit [x.av,y.av]),(37,.int .i64 2),(38,.int .i64 1),(51,.lit (vy.map Z6)),(52,.int .i64 vy.length),(53,.int .i64 i)]) (fun i=>⟨A,false,[X,Y,.arr 5 0 [x.av],.arr 5 0 [y.av],.map (ZG3 (Y0 (Y0 [] vx) (vy.take i))),.arr 5 0 [x.av],.arr 5 0 [y.av],.arr 5 0 [x.av],.arr 5 0 [y.av]]⟩) (fun i=>i<=vy.length) (fun i=>vy.length-i) 0 rfl rfl (by omega) ?_
  rintro i hi
  unfold Ro.av
  rcases Nat.lt_or_ge i vy.length with hlt|hge
  ·obtain ⟨h,hh⟩:∃ k,vy[i]?=some k:=⟨vy[i]'hlt,jE _⟩
   have qk:0<=((i:Nat):Int)/\vy[((i:Nat):Int).toNat]?=some h:=⟨by omega,by rw [show ((i:Nat):Int).toNat=i by omega];exact hh⟩
   have ht:vy.take (i+1)=vy.take i++[h]:=Zg hh
   have hg0:0<=ZAw h (Y0 (Y0 [] vx) (vy.take i))/\ZAw h (Y0 (Y0 [] vx) (vy.take i))<=2000000000:=by
    have h1:=ZIM h (vy.take i) (Y0 [] vx);have h2:=List.count_le_length (a:=h) (l:=vy.take i)
    have h3:(vy.take i).length<=vy.length:=by rw [List.length_take];omega
    have h4:=ZIM h vx [];have h5:=List.count_le_length (a:=h) (l:=vx);simp only [ZAw] at h4;omega
   have hc:Y0 (Y0 [] vx) (vy.take (i+1))=ZGD h (Y0 (Y0 [] vx) (vy.take i)):=by rw [ht,ZbX]
   generalize Y0 (Y0 [] vx) (vy.take i)=c at *
   have hlk:lookV ⟨A,false,[X,Y,.arr 5 0 [x.av],.arr 5 0 [y.av],.map (ZG3 c),.arr 5 0 [x.av],.arr 5 0 [y.av],.arr 5 0 [x.av],.arr 5 0 [y.av]]⟩ 0 (.int .i64 0) false (.int .u64 h) (.map A.length 4)=some (.int .i64 (ZAw h c)):=ZiI (by simp only [St.get,if_true];rfl) h
   have hput:=Zdt h c
   generalize ZAw h c=n at *
   repeat' (first|refine YE (f:=Z6) rfl rfl qk (fun _=>rfl) ?_|refine Ye rfl rfl hlk ?_|refine ZbY rfl rfl rfl rfl rfl rfl hput ?_|refine ZE ?_|refine ZD ?_|refine ZF rfl ?_|refine ZA rfl ?_|refine ZC ?_|refine QM rfl rfl ?_|(refine Zh rfl rfl (fun _=>?_) (fun _=>?_)<;>try (exfalso;omega))|refine ZV rfl ?_|refine Zm rfl rfl (by omega) ?_|refine ZI ?_|refine ZL ?_|refine Zy ?_|refine QH ?_)
   all_goals try (exfalso;omega)
   refine ⟨i+1,⟨rfl,?_⟩,by omega,by omega⟩
   rw [hc];rfl
  ·obtain rfl:i=vy.length:=by omega
   rw [List.take_length]
   repeat' (first|refine ZE ?_|refine ZD ?_|refine ZF rfl ?_|refine ZA rfl ?_|refine ZC ?_|(refine Zh rfl rfl (fun _=>?_) (fun _=>?_)<;>try (exfalso;omega))|refine ZH rfl ?_|refine Zm rfl rfl (by omega) ?_|refine Zu ?_|refine Ze ?_|refine Zy ?_|refine Zb rfl ?_|refine Zt ?_)
   all_goals try (exfalso;omega)
   refine Qh ?_
   repeat' (first|refine ZE ?_|refine ZD ?_|refine ZF rfl ?_|refine ZA rfl ?_|refine ZC ?_|(refine Zh rfl rfl (fun _=>?_) (fun _=>?_)<;>try (exfalso;omega))|refine ZH rfl ?_|refine ZS ?_|refine Zu ?_|refine ZO ?_|refine Ze ?_|refine Zb rfl ?_)
   all_goals try (exfalso;omega)
   all_goals first|rfl|exact Xs (.inr rfl) rfl rfl rfl rfl rfl
theorem s_mr {T T0:Tab} {f:FuncId} {X:Run} {pre post:PC} {rs:List RV} {args:List AV} {st:St} {r:AV × St} (hT:T f=some (.base (fnO (ZQ1 (S T0) itS X pre post) rs)))
 (h:∀ A,A=st.ps->Ru (S T0) pre [] (fun x e s=>(x=.ret/\Q9 false rs (.ret,e,s)=some r)\/(x=.norm/\∃ e2 s2,X e s=some (.norm,e2,s2)/\Ru (S T0) post [] (fun x e s=>Q9 false rs (x,e,s)=some r) e2 s2)) (QZ 0 args) ⟨A,false,[]⟩):S T f args st=some r:=by
 refine Zbu (o:=fnO (ZQ1 (S T0) itS X pre post) rs) hT ?_;obtain ⟨x,e1,s1,h1,h2⟩:=(h _ rfl).h;unfold fnO ZQ1
 have:st.push=⟨st.ps,false,[]⟩:=rfl
 rw [this,h1,oS]
 rcases h2 with ⟨rfl,h3⟩|⟨rfl,e2,s2,h3,⟨x,e3,s3,h5,h6⟩⟩
 ·simp only [JV,oS];exact h3
 ·simp only [JV,h3,oS,h5];exact h6
theorem Zlb (h:Nat):∀ c:List (Nat × Int),(∀ p∈c,0<=p.2)->(∀ p∈ZGD h c,0<=p.2)/\(ZGD h c).length<=c.length+1
 | [],_=>by simp [ZGD]
 | (k,n)::c,hc=>by
  unfold ZGD
  split
  ·refine ⟨fun p hp=>?_,by simp⟩
   rcases List.mem_cons.1 hp with rfl|hp
   ·have:=hc (k,n) (by simp);simp only at *;omega
   ·exact hc p (by simp [hp])
  ·obtain ⟨i1,i2⟩:=Zlb h c fun p hp=>hc p (by simp [hp])
   refine ⟨fun p hp=>?_,by simp only [List.length_cons];omega⟩
   rcases List.mem_cons.1 hp with rfl|hp
   ·exact hc _ (by simp)
   ·exact i1 p hp
theorem Zdu:∀ (l:List Nat) (c:List (Nat × Int)),(∀ p∈c,0<=p.2)->(∀ p∈Y0 c l,0<=p.2)/\(Y0 c l).length<=c.length+l.length
 | [],c,hc=>⟨hc,by simp [Y0]⟩
 | h::l,c,hc=>by
  obtain ⟨i1,i2⟩:=Zlb h c hc;obtain ⟨j1,j2⟩:=Zdu l (ZGD h c) i1
  exact ⟨j1,by show (Y0 (ZGD h c) l).length<=_;simp only [List.length_cons];omega⟩
def oddC (c:List (Nat × Int)):Int:=(c.map fun p=>p.2 % 2).sum
theorem ZbZ:∀ c:List (Nat × Int),(∀ p∈c,0<=p.2)->ZHz (ZG3 c)=some (oddC c)
 | [],_=>rfl
 | (k,n)::c,hc=>by
  have h0:=hc (k,n) (by simp)
  simp only at h0
  show (Zds (.int .i64 n)).bind (fun x=>(ZHz (ZG3 c)).map fun y=>x+y)=_
  rw [ZbZ c fun p hp=>hc p (by simp [hp]),Zds,if_pos h0]
  rfl
theorem ZnZ {e:Env} {st:St} {lv ix:Nat} {es:List (AV × AV)} {s:Int} (h8:QAbs.look e 8=.map lv ix) (h10:QAbs.look e 10=.int .i64 0) (hg:st.get lv ix=some (.map es)) (hl:es.length<1000000000) (hs:ZHz es=some s):Zfw e st=some (.norm,[(10,.int .i64 s)],st):=by
 unfold Zfw;simp only [h8,h10,hg,ZFC,oS,hs,Option.map_some];rw [if_pos ⟨trivial,hl⟩]
def Zod (N:ZJ) (x y:Ro):Int:=oddC (Y0 (Y0 [] (YF (Qx N x))) (YF (Qx N y)))
theorem ZjY {st:St} {la b:Nat} {N:ZJ} (hN:GoodN N) (hR:Rd st la (b+5) N) {x y:Ro} (hx:RtOk N x) (hy:RtOk N y) :
 S TV J6 [.ptr la (b+5) 0 0 0,x.av,y.av] st=some (.tup [.int .i64 (Zod N x y),.int .i64 0],st):=by
 refine s_mr (X:=Zfw) (pre:=pV1) (post:=pV2) (rs:=rsV) rfl (fun A hA=>?_)
 have hC:=Zla (A:=A) (X:=.arr 5 0 [x.av]) (Y:=.arr 5 0 [y.av]) hN (fun L=>hR.push hA (ro:=false) (L:=L)) hx hy
 have lx:=(ZDD (Qx N x)).2.2;have ly:=(ZDD (Qx N y)).2.2;have mx:=ZDC hN hx;have my:=ZDC hN hy
 have k1:=Zdu (YF (Qx N x)) [] (by simp)
 have k2:=Zdu (YF (Qx N y)) _ k1.1;have hs:=ZbZ _ k2.1
 have hlen:(ZG3 (Y0 (Y0 [] (YF (Qx N x))) (YF (Qx N y)))).length<1000000000:=by
  have:=k1.2
  have:=k2.2
  simp only [ZG3,List.length_map,List.length_nil] at *
  omega
 unfold Zod
 generalize Y0 (Y0 [] (YF (Qx N x))) (YF (Qx N y))=c at *
 unfold Ro.av at *
 repeat' (first|refine ZE ?_|refine ZD ?_|refine ZF rfl ?_|refine ZP rfl rfl rfl rfl ?_|refine Zs rfl rfl ?_|refine ZA rfl ?_|refine ZC ?_|(refine Zk rfl rfl (fun _=>?_) (fun _=>?_)<;>try (exfalso;omega))|refine ZH rfl ?_|refine Za rfl rfl rfl ?_|refine ZB rfl rfl rfl (hC) ?_|refine ZI ?_|refine ZO ?_)
 all_goals try contradiction
 refine .inr ⟨rfl,_,_,ZnZ rfl rfl (by simp only [St.get,if_true];rfl) hlen hs,?_⟩
 repeat' (first|refine ZE ?_|refine ZD ?_|refine ZF rfl ?_|refine ZA rfl ?_|refine ZC ?_|refine ZS ?_|refine ZO ?_)
 all_goals refine Zj hA (by first|exact .inl rfl|exact .inr rfl) rfl rfl rfl rfl ?_
 all_goals rfl
set_option maxHeartbeats 16000000
theorem ZDF (w:List Nat) (hl:w.length<9223372036854775808) (st:St):S Tb Qq [.lit (w.map Z6),.lit (w.map Z6)] st=some (.bool true,st):=by
 refine QJ rfl (fun A hA=>?_)
 repeat' (first|refine ZDE rfl ?_|refine ZE ?_|refine ZD ?_|refine ZF rfl ?_|refine ZA rfl ?_|refine ZC ?_|(refine Zk rfl rfl (fun _=>?_) (fun _=>?_)<;>try (exfalso;omega))|refine ZH rfl ?_|refine ZI ?_|refine ZL ?_)
 all_goals try contradiction
 refine Z2 (α:=Nat) (fun i=>[(0,.lit (w.map Z6)),(1,.lit (w.map Z6)),(5,.int .i64 i)]) (fun i=>⟨A,false,[]⟩) (fun i=>i<=w.length) (fun i=>w.length-i) 0 rfl rfl (Nat.zero_le _) ?_
 intro i hi;replace hi:i<=w.length:=hi
 rcases Nat.lt_or_ge i w.length with hlt|hge
 ·obtain ⟨k,hk⟩:∃ k,w[i]?=some k:=⟨w[i]'hlt,jE _⟩
  have q:0<=((i:Nat):Int)/\w[((i:Nat):Int).toNat]?=some k:=⟨by omega,by rw [show ((i:Nat):Int).toNat=i by omega];exact hk⟩
  repeat' (first|refine ZDE rfl ?_|refine YE (f:=Z6) rfl rfl q (fun _=>rfl) ?_|refine ZE ?_|refine ZD ?_|refine ZF rfl ?_|refine ZA rfl ?_|refine ZC ?_|refine QM rfl rfl ?_|(refine Zh rfl rfl (fun _=>?_) (fun _=>?_)<;>try (exfalso;omega))|(refine Zk rfl rfl (fun _=>?_) (fun _=>?_)<;>try (exfalso;omega))|refine ZV rfl ?_|refine ZH rfl ?_|refine Zm rfl rfl (by omega) ?_|refine ZI ?_|refine ZL ?_|refine Zy ?_|refine QH ?_)
  all_goals try contradiction
  all_goals try (exfalso;omega)
  all_goals first|exact absurd rfl ‹_›|exact ⟨i+1,⟨rfl,rfl⟩,by omega,by omega⟩
 ·obtain rfl:i=w.length:=by omega
  repeat' (first|refine ZDE rfl ?_|refine ZE ?_|refine ZD ?_|refine ZF rfl ?_|refine ZA rfl ?_|refine ZC ?_|(refine Zh rfl rfl (fun _=>?_) (fun _=>?_)<;>try (exfalso;omega))|refine ZH rfl ?_|refine ZS ?_|refine Zu ?_|refine ZO ?_|refine Ze ?_|refine Zb rfl ?_|refine Zt ?_)
  all_goals try (exfalso;omega)
  refine Zj hA (by first|exact .inl rfl|exact .inr rfl) rfl rfl rfl rfl ?_
  rfl
structure Op where
 at_:Int
 num:Int
 text:List UInt8
def ZpG (l:List Op):Prop:=∃ s∈l,300<s.text.length
noncomputable instance (l:List Op):Decidable (ZpG l):=Classical.propDecidable _
def exU:List UInt8:=[97,98,99,100,101,102,103,104,105,106,107,108,109,110,111,112,113]
theorem ZE6:Z3 exU=.mk 0 1 .zero [] (some [Ja [97,98,99,100,101,102,103,104,105],Ja [106,107,108,109,110,111,112,113]]):=by
 rfl
noncomputable def exUR:AR:=(wrV (Z3 exU) (QA 8 4)).1
theorem Zlc:(wrV (Z3 exU) (QA 8 4)).2.1=⟨65538,1,⟨17,17,0⟩⟩:=by
 rw [ZE6];rfl
theorem Zld:nw (Z3 exU)=3:=by rw [ZE6];rfl
theorem ZpH:exUR.n=5:=by unfold exUR;rw [ZE6];rfl
theorem Zoe:nw (edV exUR.nodes ⟨65538,1,⟨17,17,0⟩⟩ 9 0 [120,121,122])<=5:=by
 unfold exUR;rw [ZE6]
 decide +kernel
def exURo:Ro:=⟨65538,1,⟨17,17,0⟩⟩
theorem exU_ok:AROk exUR/\GoodN exUR.nodes/\Rt exUR.nodes exURo exU:=by
 obtain ⟨b1,b2,b3⟩:=J8 ZAr (s:=exU) (by decide)
 have ho:=ZNG 8 4 (by omega) (by omega)
 obtain ⟨w1,w2⟩:=ZiA (r:=QA 8 4) (ZCH [] [] [] _) ho ZAr b1 (by rw [b3];decide) (by rw [Zld];decide)
 rw [show (QA 8 4).nodes=[] from rfl,b2,Zlc] at w2
 exact ⟨w1.ok,w1.good,w2⟩
theorem exU_edOk:EdOk exUR.nodes exURo exU 9 0 [120,121,122]:=⟨exU_ok.2.2,by decide,by decide,by decide,by decide,by decide⟩
theorem ZiJ:nw (edV exUR.nodes exURo 9 0 [120,121,122])<=exUR.n:=by rw [ZpH];exact Zoe
theorem Zle {st:St} {la b:Nat} {r:AR} (hA:Has st la b r) (ho:AROk r) (hg:GoodN r.nodes) {ro:Ro} {s0:List UInt8} {a:Int} {s:List UInt8} (h:EdOk r.nodes ro s0 a 0 s) (hn:nw (edV r.nodes ro a 0 s)<=r.n) :
 S Tb ZDr [.ptr la (b+5) 0 0 0,ro.av,.int .i64 a,.str s] st=some (.tup [Qz (wrV (edV r.nodes ro a 0 s) r).2.1 (wrV (edV r.nodes ro a 0 s) r).2.2 (slH (Ys r.nodes [ro] (edV r.nodes ro a 0 s))),.int .i64 0],QP st la b (wrV (edV r.nodes ro a 0 s) r).1):=by
 refine Xw rfl (fun A hA'=>?_)
 have hle:=hA.le
 have hCh:=fun L=>ZYM (hA.push hA' (ro:=false) (L:=L)) ho hg h hn
 simp only [YV hA' hle] at hCh
 have hAl:A.length=((QP st la b (wrV (edV r.nodes ro a 0 s) r).1).ps).length:=by rw [hA'];simp [ZBl]
 generalize (wrV (edV r.nodes ro a 0 s) r).2.1=r2 at *
 generalize (wrV (edV r.nodes ro a 0 s) r).2.2=fr at *
 generalize Ys r.nodes [ro] (edV r.nodes ro a 0 s)=dd at *
 obtain ⟨A2,hA2⟩:∃ A2,A2=(QP st la b (wrV (edV r.nodes ro a 0 s) r).1).ps:=⟨_,rfl⟩;rw [<- hA2] at hCh hAl;obtain ⟨x1,x2,x3⟩:=r2;unfold Ro.av at hCh ⊢
 by_cases hd:dd=[]
 ·subst hd
  rw [show slH []=.nils from rfl] at hCh ⊢
  unfold Qz at hCh
  repeat' (first|refine ZE ?_|refine ZD ?_|refine ZF rfl ?_|refine ZP rfl rfl rfl rfl ?_|refine Zs rfl rfl ?_|refine ZA rfl ?_|refine ZC ?_|refine Za rfl rfl rfl ?_|refine ZB rfl rfl rfl (hCh _) ?_)
  rw [hAl]
  repeat' (first|refine ZF rfl ?_|refine ZA rfl ?_|refine ZC ?_|refine Zl rfl rfl rfl rfl rfl rfl ?_|refine ZS ?_|refine ZO ?_)
  all_goals try contradiction
  exact ZD9 (w:=Qz ⟨x1,x2,x3⟩ fr .nils) hA2 (.inr rfl) rfl rfl rfl rfl rfl rfl
 ·rw [show slH dd=.lit (dd.map Z6) from if_neg hd] at hCh ⊢
  unfold Qz at hCh
  repeat' (first|refine ZE ?_|refine ZD ?_|refine ZF rfl ?_|refine ZP rfl rfl rfl rfl ?_|refine Zs rfl rfl ?_|refine ZA rfl ?_|refine ZC ?_|refine Za rfl rfl rfl ?_|refine ZB rfl rfl rfl (hCh _) ?_)
  rw [hAl]
  repeat' (first|refine ZF rfl ?_|refine ZA rfl ?_|refine ZC ?_|refine Zl rfl rfl rfl rfl rfl rfl ?_|refine ZS ?_|refine ZO ?_)
  all_goals try contradiction
  exact ZD9 (w:=Qz ⟨x1,x2,x3⟩ fr (.lit (dd.map Z6))) hA2 (.inr rfl) rfl rfl rfl rfl rfl rfl
theorem ZjZ (A:List (Bool × List Blk)):S Tb YK [] ⟨A,false,[]⟩=some (.tup [.ptr A.length 6 0 0 0,exURo.av,.bool true],⟨A,false,[.arr 5 0 [exURo.av]]++(arB A.length 1 exUR++[.arr 5 0 [exURo.av]])⟩):=by
 have hN:=Zdk 8 4 (by omega) (by omega) A [.arr 5 0 [Ro.zero.av]]
 have h1:=Zdr (ZCH A [.arr 5 0 [Ro.zero.av]] [] (QA 8 4)) (ZNG 8 4 (by omega) (by omega)) ZAr exU (by decide) (by rw [Zld];decide)
 rw [Zfh,Zlc] at h1
 change S Tb ZBE [.ptr A.length 6 0 0 0,.str exU] ⟨A,false,_⟩=some (_,⟨A,false,[.arr 5 0 [Ro.zero.av]]++(arB A.length 1 exUR++[])⟩) at h1
 refine ZBh rfl ?_
 repeat' (first|refine ZE ?_|refine ZD ?_|refine ZF rfl ?_|refine QE rfl ?_|refine Zo rfl rfl rfl rfl ?_|refine Zs rfl rfl ?_|refine ZA rfl ?_|refine ZC ?_|(refine Zk rfl rfl (fun _=>?_) (fun _=>?_)<;>try (exfalso;omega))|refine ZH rfl ?_|refine JA rfl rfl rfl rfl ?_|refine Za rfl rfl rfl ?_|refine ZB rfl rfl rfl (hN) ?_|refine ZI ?_)
 all_goals try contradiction
 all_goals try (exfalso;omega)
 unfold exU at h1;refine ZB rfl rfl rfl h1 ?_
 change Is _ _ _ _ _ _ ⟨A,false,[.arr 5 0 [Ro.zero.av],exUR.b0,exUR.b1,exUR.b2,exUR.b3 A.length 1,exUR.b4,exUR.b5 A.length 1]⟩
 generalize hb0:exUR.b0=b0 at *
 generalize hb1:exUR.b1=b1 at *
 generalize hb2:exUR.b2=b2 at *
 generalize hb3:exUR.b3 A.length 1=b3 at *
 generalize hb4:exUR.b4=b4 at *
 generalize hb5:exUR.b5 A.length 1=b5 at *
 repeat' (first|refine ZII rfl rfl rfl rfl rfl rfl ?_|refine ZF5 rfl rfl rfl rfl rfl rfl rfl ?_|refine ZE ?_|refine ZD ?_|refine ZF rfl ?_|refine ZQ rfl rfl ?_|refine ZP rfl rfl rfl rfl ?_|refine QE rfl ?_|refine Zo rfl rfl rfl rfl ?_|refine Zs rfl rfl ?_|refine ZA rfl ?_|refine ZC ?_|(refine Zp rfl rfl (fun _=>?_) (fun _=>?_)<;>try (exfalso;omega))|refine Za rfl rfl rfl ?_|refine Zl rfl rfl rfl rfl rfl rfl ?_|refine ZS ?_|refine ZO ?_)
 all_goals first|exact absurd rfl ‹_›|(refine (Zn6 (.inr rfl) rfl rfl rfl rfl rfl).trans ?_;subst hb0 hb1 hb2 hb3 hb4 hb5;rfl)
theorem Zna {T:Tab} {g:FuncId} {ws:List AV} {A:List (Bool × List Blk)} {L L':List Blk} {v v':AV} (hc:S T g ws ⟨A++[(false,L)],false,[]⟩=some (v,⟨A++[(false,L')],false,[]⟩))
 (hs:ZY QD (A++[(false,L')]).length ⟨A++[(false,L')],false,[]⟩ v=some (v',⟨A++[(false,L')],false,[]⟩)):Qf (S T) .inner g ws ⟨A,false,L⟩=some (v',⟨A,false,L'⟩):=by
 simp only [Qf,St.push,hc,oS,ZFD,ZAU];rw [hs];simp only [oS,JN,ZCY,ZIR]
theorem ZNL (n:Int) (st:St):S Tb JG [.int .i64 n] st=some ((ZAs n).av,st):=by
 refine QJ rfl (fun A hA=>?_)
 repeat' (first|refine ZE ?_|refine ZD ?_|refine ZF rfl ?_|refine ZA rfl ?_|refine ZC ?_|refine Zn rfl rfl rfl ?_|refine Za rfl rfl rfl ?_|refine Zl rfl rfl rfl rfl rfl rfl ?_|refine ZS ?_|refine ZO ?_)
 refine XR hA (by first|exact .inl rfl|exact .inr rfl) rfl rfl rfl rfl rfl ?_
 all_goals rfl
theorem ZiK (s:List UInt8) (st:St):S Tb Y4 [.str s] st=some ((ZGC s).av,st):=by
 refine QJ rfl (fun A hA=>?_)
 repeat' (first|refine ZE ?_|refine ZD ?_|refine ZF rfl ?_|refine ZA rfl ?_|refine ZC ?_|refine Zn rfl rfl rfl ?_|refine Za rfl rfl rfl ?_|refine Zl rfl rfl rfl rfl rfl rfl ?_|refine ZS ?_|refine ZO ?_)
 refine XR hA (by first|exact .inl rfl|exact .inr rfl) rfl rfl rfl rfl rfl ?_
 all_goals rfl
theorem ZpI:ZIo 9 17 [120,121,122]=[ZAs 9,ZGC [120,121,122],ZAs 8]:=by rfl
theorem ZpJ:Zod (wrV (edV exUR.nodes exURo 9 0 [120,121,122]) exUR).1.nodes exURo (wrV (edV exUR.nodes exURo 9 0 [120,121,122]) exUR).2.1=4:=by
 unfold exUR;rw [ZE6];rfl
theorem Zdv {k:List Fr} {Q:Jv} {e:Env} {keep:List Nat} {is:List QAbs.PI} {d:Nat} {T:Tab} {st:St} {f:Opd} {args:List Opd} {g:FuncId} {first cap vs ws:List AV} {p:Pce} (hf:Zc e f=some (.func (.func g) first cap)) (ha:ZEL e args=some vs) (hw:ZX (ZZ (first++vs++cap))=some ws)
 (hc:∀ st,S T g ws st=some (p.av,st)) (h:Is (S T) is keep k Q ((d,p.av)::e) st):Is (S T) (⟨some d,none,false,.call .pin f args⟩::is) keep k Q e st:=by
 refine Z1 (v:=p.av) (st':=st) ?_ h;have hi:Qf (S T) .inner g ws st.allRo=some (p.av,st.allRo):=Zkb (st:=st.allRo) (hc _) rfl;have hi2:(S T g ws st.allRo.push).bind ZFD=some (p.av,st.allRo):=hi;simp only [Zf,ZG hf,Yd ha,ZAV,Q8 hw,Qf,hi2,oS,QO]
inductive Adds:AR->List Nat->AR->Prop
 | nil (r:AR):Adds r [] r
 | cons {r r':AR} {hs:List Nat} (x:Nd) (h:Adds (r.add x) hs r'):Adds r (r.next::hs) r'
theorem Adds.app {r r1 r2:AR} {hs gs:List Nat} (h:Adds r hs r1) (g:Adds r1 gs r2):Adds r (hs++gs) r2:=by
 induction h with
 | nil=>exact g
 | cons x h ih=>exact .cons x (ih g)
mutual
theorem ZiL:∀ (t:Tr) (r:AR),Adds r (t.wr r).2.2 (t.wr r).1
 | .mk o h m s k,r=>by
  rw [Tr.wr]
  split
  ·exact .nil r
  ·split
   ·exact .cons _ (.nil _)
   ·exact (Zlf k r).app (.cons _ (.nil _))
theorem Zlf:∀ (k:Option (List Tr)) (r:AR),Adds r (Tr.wrO k r).2.2 (Tr.wrO k r).1
 | none,r=>by rw [Tr.wrO];exact .nil r
 | some l,r=>by rw [Tr.wrO];exact Zfz l r
theorem Zfz:∀ (l:List Tr) (r:AR),Adds r (Tr.wrL l r).2.2 (Tr.wrL l r).1
 | [],r=>by rw [Tr.wrL];exact .nil r
 | t::l,r=>by rw [Tr.wrL];exact (ZiL t r).app (Zfz l _)
end
theorem Zlg (t:Tr) (r:AR):Adds r (wrV t r).2.2 (wrV t r).1:=by
 unfold wrV
 split
 ·exact .nil r
 ·exact ZiL t r
end Go.Q15
namespace Go.Q15
open Go Go.QAbs
set_option maxRecDepth 100000
set_option maxHeartbeats 16000000
def hOf (r:AR) (s:Nat):Nat:=((r.gens[s]?).getD 0).toNat*65536+s
def YY (r:AR):List Nat:=(ZBm r.states 1).map (hOf r)
theorem ZKU {l:List Int} {z:Int} {s:Nat} (h:s∈ZBm l z):s<l.length/\l[s]?=some z:=by
 unfold ZBm Yl at h;rw [List.mem_filter,List.mem_range] at h
 exact ⟨h.1,by simpa using h.2⟩
theorem ZhG {st:St} {lv b:Nat} {r:AR} (h:HasR st lv b r) (ho:AROk r):S Tb YQ [.ptr lv (b+3) 0 0 0] st=some (.lit ((YY r).map Z6),st):=by
 refine QJ rfl (fun A hA=>?_)
 have g3:=fun L=>ZU hA (ro:=false) (L:=L) h.h3
 have g2:=fun L=>ZU hA (ro:=false) (L:=L) h.h2
 unfold AR.b3 at g3;unfold AR.b2 at g2
 have hw2:∀ L,wIs 1 0 (St.get ⟨A,false,L⟩ lv (b+2))=true:=fun L=>by rw [g2];rfl
 have hsl:=fun L=>Zh3 (h.push hA (ro:=false) (L:=L)) ho.n16 1
 have hmem:=fun s hs=>ZKU (l:=r.states) (z:=1) (s:=s) hs
 have hlen:(ZBm r.states 1).length<=16384:=by have:=ZHv r.states 1 r.states.length;have:=ho.n16;unfold ZBm;omega
 have hn16:=ho.n16;have hgl:=ho.gl;unfold YY
 generalize ZBm r.states 1=l at *
 repeat' (first|refine ZDE rfl ?_|refine ZE ?_|refine ZD ?_|refine ZF rfl ?_|refine ZA rfl ?_|refine ZC ?_|refine ZDY rfl ?_|refine ZB rfl rfl rfl (hsl _) ?_|refine ZL ?_)
 refine Z2 (α:=Nat) (fun i=>[(0,.ptr lv (b+3) 0 0 0),(3,.ref A.length 0 i 0 i),(9,.lit (l.map ZQz)),(10,.int .i64 l.length),(11,.int .i64 i)]) (fun i=>⟨A,false,[.arr 1 i (((l.take i).map (hOf r)).map Z6)]⟩) (fun i=>i<=l.length) (fun i=>l.length-i) 0 rfl rfl (Nat.zero_le _) ?_
 intro i hi;replace hi:i<=l.length:=hi
 rcases Nat.lt_or_ge i l.length with hlt|hge
 ·obtain ⟨s,hs⟩:∃ x,l[i]?=some x:=⟨l[i]'hlt,by simp [hlt]⟩
  obtain ⟨m1,m2⟩:=hmem s (jM hs);obtain ⟨g,g1',g2',g3'⟩:=ho.gen s m1
  have q:0<=((i:Nat):Int)/\l[((i:Nat):Int).toNat]?=some s:=⟨by omega,by rw [show ((i:Nat):Int).toNat=i by omega];exact hs⟩
  have q1:(r.gens.map (.int .u64))[0+((s:Nat):Int).toNat]?=some (AV.int .u64 g):=by
   rw [show 0+((s:Nat):Int).toNat=s by omega,jG,g1'];rfl
  have hMk:=fun st=>Zht s g (by omega) ⟨by omega,by have:=ho.most;omega⟩ st
  have hl2:(((l.take i).map (hOf r)).map Z6).length+[AV.int .u64 ((g*65536+s:Nat):Int)].length<4294967296:=by simp;omega
  have hl3:i=(((l.take i).map (hOf r)).map Z6).length:=by simp;omega
  have hlt2:((s:Nat):Int)<r.gens.length:=by omega
  repeat' (first|refine YE (f:=ZQz) rfl rfl q (fun _=>rfl) ?_|refine Z9 rfl (g3 _) rfl rfl ?_|refine ZBB rfl rfl (by omega) (hw2 _) ?_|refine Z9 rfl (g2 _) q1 rfl ?_|refine ZCC rfl rfl rfl hl3 rfl rfl hl2 (by decide) ?_|refine ZE ?_|refine ZD ?_|refine ZF rfl ?_|refine ZQ rfl rfl ?_|refine Zs rfl rfl ?_|refine ZA rfl ?_|refine ZC ?_|refine Zz rfl rfl ?_|refine QM rfl rfl ?_|(refine Zh rfl rfl (fun _=>?_) (fun _=>?_)<;>try (exfalso;omega))|refine ZV rfl ?_|refine Zm rfl rfl (by omega) ?_|refine Qa rfl rfl rfl rfl ?_|refine ZB rfl rfl rfl (hMk _) ?_|refine ZI ?_|refine ZL ?_|refine Zy ?_|refine QH ?_)
  all_goals try contradiction
  all_goals try (exfalso;omega)
  refine ⟨i+1,⟨?_,?_⟩,by omega,by omega⟩
  ·rfl
  ·have e:hOf r s=g*65536+s:=by unfold hOf;rw [g1'];simp
   rw [List.take_add_one,hs,List.map_append,List.map_append,<- e];rfl
 ·obtain rfl:i=l.length:=by omega
  repeat' (first|refine ZE ?_|refine ZD ?_|refine ZF rfl ?_|refine ZA rfl ?_|refine ZC ?_|(refine Zh rfl rfl (fun _=>?_) (fun _=>?_)<;>try (exfalso;omega))|refine ZH rfl ?_|refine ZS ?_|refine Zu ?_|refine ZO ?_|refine Ze ?_|refine Zb rfl ?_|refine Zt ?_)
  all_goals try (exfalso;omega)
  refine ZDa (es:=(l.map (hOf r)).map Z6) hA (.inr rfl) rfl (by rw [List.take_length];rfl) (by simp) (by intro v hv;obtain ⟨x,_,rfl⟩:=List.mem_map.1 hv;rfl) ?_
  rfl
theorem ZYR {st:St} {lv b:Nat} {r:AR} (h:HasR st lv b r) (ho:AROk r):S Tb Jx [.ptr lv (b+5) 0 0 0] st=some (.lit ((YY r).map Z6),st):=by
 refine QJ rfl (fun A hA=>?_)
 have g5:=fun L=>ZU hA (ro:=false) (L:=L) h.h5
 unfold AR.b5 at g5
 have hF:=fun L=>ZhG (h.push hA (ro:=false) (L:=L)) ho
 repeat' (first|refine Z9 rfl (g5 _) rfl rfl ?_|refine ZE ?_|refine ZD ?_|refine ZF rfl ?_|refine ZQ rfl rfl ?_|refine ZA rfl ?_|refine ZC ?_|refine Zz rfl rfl ?_|refine ZH rfl ?_|refine JA rfl rfl rfl rfl ?_|refine ZB rfl rfl rfl (hF _) ?_|refine ZI ?_|refine ZS ?_|refine ZO ?_)
 all_goals try contradiction
 refine Zj hA (by first|exact .inl rfl|exact .inr rfl) rfl rfl rfl rfl ?_
 rfl
def hdW (o h:Nat) (s:List UInt8) (j:Nat):Nat:=if o=0/\h=j/\¬(h=0/\s=[]) then 1 else 0
namespace Tr
mutual
def wat (j:Nat):Tr->Nat
 | .mk o h _ s k=>hdW o h s j+watO j k
def watO (j:Nat):Option (List Tr)->Nat
 | none=>0
 | some l=>watL j l
def watL (j:Nat):List Tr->Nat
 | []=>0
 | t::l=>t.wat j+watL j l
end
theorem watL_append (j:Nat):∀ a b,watL j (a++b)=watL j a+watL j b
 | [],b=>by simp [watL]
 | t::a,b=>by rw [lC,watL,watL,watL_append j a b];omega
theorem watO_getD (j:Nat) (k:Option (List Tr)):watO j k=watL j (k.getD []):=by cases k<;>rfl
end Tr
theorem ZH0 (o h:Nat) (s:List UInt8) (j:Nat):hdW o h s j<=1/\(h≠j->hdW o h s j=0):=by
 unfold hdW
 split
 ·rename_i q;exact ⟨by omega,fun w=>absurd q.2.1 w⟩
 ·exact ⟨by omega,fun _=>rfl⟩
theorem ZH1 {o h:Nat} {s:List UInt8} {j:Nat} (h0:o≠0):hdW o h s j=0:=by
 unfold hdW;rw [if_neg (fun q=>h0 q.1)]
theorem Zlh {o j:Nat}:hdW o 0 [] j=0:=by
 unfold hdW;rw [if_neg (fun q=>q.2.2 ⟨rfl,rfl⟩)]
theorem ZQS {t:Tr} (h:IsEmpty t) (j:Nat):t.wat j=0:=by
 obtain ⟨o,h',m,s,k⟩:=t;obtain ⟨h1,h2,h3,h4,h5⟩:=h
 simp only [Tr.old,Tr.h,Tr.m,Tr.text,Tr.ks] at *
 subst h2 h4;rw [Tr.wat,Tr.watO_getD,h5,Zlh];rfl
theorem ZE7 (j:Nat):Tr.zero.wat j=0:=ZQS zero_empty j
theorem Zf0 (s:List UInt8) (j:Nat):(Ja s).wat j<=1:=by
 rw [Ja,Tr.wat,Tr.watO]
 have:=(ZH0 0 0 s j).1;omega
theorem ZIN {j:Nat}:∀ {l:List Tr},(∀ t∈l,t.wat j=0)->Tr.watL j l=0
 | [],_=>rfl
 | t::l,h=>by rw [Tr.watL,h t (by simp),ZIN (l:=l) (fun u hu=>h u (by simp [hu]))]
theorem ZYS {j:Nat}:∀ {l:List Tr},(∀ t∈l,t.wat j<=1)->Tr.watL j l<=l.length
 | [],_=>Nat.le_refl _
 | t::l,h=>by
  have h1:=h t (by simp)
  have h2:=ZYS (l:=l) (fun u hu=>h u (by simp [hu]))
  rw [Tr.watL,List.length_cons];omega
theorem Zli {N:ZJ} {t:Tr} (hv:Val N t):∀ j,t.h<j->t.wat j=0:=by
 induction hv with
 | kept h0 hx hok hh hm hk=>intro j _;rw [Tr.wat,Tr.watO_getD,hk,ZH1 h0];rfl
 | leaf h1 h2 hk=>intro j hj;simp only [Tr.h] at hj;rw [Tr.wat,Tr.watO_getD,hk,(ZH0 _ _ _ _).2 (by omega)];rfl
 | inner hh h2 h4 hl hb hv ih =>
  intro j hj;simp only [Tr.h] at hj
  rw [Tr.wat,Tr.watO,(ZH0 _ _ _ _).2 (by omega),ZIN fun u hu=>ih u hu j (by rw [hl u hu];omega)]
theorem Znb {N:ZJ} {t:Tr} (hv:Val N t):t.wat t.h<=1:=by
 cases hv with
 | kept h0 hx hok hh hm hk=>rw [Tr.wat,Tr.watO_getD,hk,ZH1 h0];simp [Tr.watL]
 | leaf h1 h2 hk=>rw [Tr.wat,Tr.watO_getD,hk];have:=(ZH0 0 0 ‹List UInt8› 0).1;simp only [Tr.h,Option.getD_none,Tr.watL];omega
 | inner hh h2 h4 hl hb hv =>
  rename_i h l
  show Tr.wat (h+1) _<=1
  rw [Tr.wat,Tr.watO,ZIN fun u hu=>Zli (hv u hu) (h+1) (by rw [hl u hu];omega)]
  exact (ZH0 _ _ _ _).1
theorem VE.wat {N:ZJ} {t:Tr} (hv:VE N t) {j:Nat} (hj:t.h<=j):t.wat j<=1/\(t.h<j->t.wat j=0):=by
 rcases hv with h|h
 ·rw [ZQS h];exact ⟨by omega,fun _=>rfl⟩
 ·rcases Nat.lt_or_ge t.h j with q|q
  ·rw [Zli h j q];exact ⟨by omega,fun _=>rfl⟩
  ·obtain rfl:j=t.h:=by omega
   exact ⟨Znb h,fun w=>by omega⟩
theorem ZDG {N:ZJ} (hN:GoodN N) {t:Tr} (hv:Val N t) (hgt:1<=t.h) (j:Nat):Tr.watL j (childs N t)<=t.wat j:=by
 cases hv with
 | kept h0 hx hok hh hm hk =>
  rename_i o h m k x
  have hg:=(hN o x hx).2;simp only [childs,if_neg h0,hx]
  have:Tr.watL j (x.ks.map (Yj (x.h-1)))=0:=ZIN fun u hu=>by
   obtain ⟨kd,hkd,rfl⟩:=List.mem_map.1 hu;rw [Yj,Tr.wat,ZH1 (hg kd hkd).1];rfl
  omega
 | leaf h1 h2 hk=>simp [Tr.h] at hgt
 | inner hh h2 h4 hl hb hv =>
  rename_i h l
  show Tr.watL j l<=_
  rw [Tr.wat,Tr.watO];omega
theorem ZDm {N:ZJ} {l:List Tr} {h j:Nat} (hj:j≠h+1) (hl:∀ t∈l,t.h=h):(grp l).wat j<=Tr.watL j l:=by
 match l,hl with
 | [],_=>rw [grp,ZE7];omega
 | [t],_=>rw [grp,Tr.watL];omega
 | t::u::r,hl =>
  rw [ZCE (by simp),Tr.wat,Tr.watO]
  have he:Tr.hs (t::u::r)=h:=hl t (by simp)
  rw [he,(ZH0 _ _ _ _).2 (by omega)];omega
theorem Zba {N:ZJ} {l:List Tr} {h j:Nat} (hj:j≠h+1) (hl:∀ t∈l,t.h=h):Tr.watL j (foldM l)<=Tr.watL j l:=by
 unfold foldM
 split
 ·have:=ZDm (N:=N) hj hl
  rw [Tr.watL,Tr.watL];omega
 ·have h1:=ZDm (N:=N) (l:=l.take ((l.length+1) / 2)) hj (fun t ht=>hl t (List.mem_of_mem_take ht))
  have h2:=ZDm (N:=N) (l:=l.drop ((l.length+1) / 2)) hj (fun t ht=>hl t (List.mem_of_mem_drop ht))
  have h3:Tr.watL j l=Tr.watL j (l.take ((l.length+1) / 2))+Tr.watL j (l.drop ((l.length+1) / 2)):=by rw [<- Tr.watL_append,List.take_append_drop]
  rw [Tr.watL,Tr.watL,Tr.watL];omega
structure MW3 (x y:Tr) (j w:Nat):Prop where
 lo:j<min x.h y.h->w<=x.wat j+y.wat j
 l:y.h<=x.h->y.h<=j->w<=x.wat j+2
 r:x.h<=y.h->x.h<=j->w<=y.wat j+2
theorem ZhH {N:ZJ} (hN:GoodN N) (j:Nat):∀ n x y,Val N x->Val N y->x.h+y.h=n->MW3 x y j (Tr.watL j (mergeF N n x y))/\(max x.h y.h<=j->Tr.watL j (mergeF N n x y)<=2):=by
 intro n
 induction n with
 | zero =>
  intro x y hx hy hn;have hm:=JS hN 0 x y hx hy hn.symm
  generalize mergeF N 0 x y=r at *
  have h2:Tr.watL j r<=2:=by
   have:=ZYS (j:=j) (l:=r) (fun t ht=>((show VE N t from .inr (hm.val t ht)).wat (by rw [hm.h t ht];omega)).1)
   rcases hm.len with w|w<;>omega
  exact ⟨⟨fun q=>by omega,fun _ _=>by omega,fun _ _=>by omega⟩,fun _=>h2⟩
 | succ n ih =>
  intro x y hx hy hn;have hm:=JS hN (n+1) x y hx hy hn.symm
  have h2:max x.h y.h<=j->Tr.watL j (mergeF N (n+1) x y)<=2:=by
   intro hj
   have:=ZYS (j:=j) (l:=mergeF N (n+1) x y) (fun t ht=>((show VE N t from .inr (hm.val t ht)).wat (by rw [hm.h t ht];omega)).1)
   rcases hm.len with w|w<;>omega
  refine ⟨?_,h2⟩
  rcases Nat.lt_or_ge j (max x.h y.h) with hj|hj
  case inr =>
   have:=h2 hj
   exact ⟨fun q=>by omega,fun _ _=>by omega,fun _ _=>by omega⟩
  clear h2 hm;rw [mergeF]
  split
  ·rename_i he
   have w1:=ZDG hN hx (by omega) j
   have w2:=ZDG hN hy (by omega) j
   obtain ⟨c1,_⟩:=Qy hN hx (by omega)
   obtain ⟨d1,_⟩:=Qy hN hy (by omega)
   refine ⟨fun q=>?_,fun _ q=>by omega,fun _ q=>by omega⟩
   split
   ·have := ZDm (N := N) (l := childs N x ++ childs N y) (h := x.h - 1) (j := j) (by omega) (fun t ht => by
     rcases List.mem_append.1 ht with w|w
     ·have:=(c1 t w).2.1;omega
     ·have:=(d1 t w).2.1;omega)
    rw [Tr.watL_append] at this;rw [Tr.watL,Tr.watL];omega
   ·rw [Tr.watL,Tr.watL,Tr.watL];omega
  ·split
   ·rename_i he hlt
    have w1:=ZDG hN hx (by omega) j
    obtain ⟨c1,c2,c3,c4⟩:=Qy hN hx (by omega)
    generalize childs N x=l at *
    have hs:=ZF3 (l:=l) (z:=Tr.zero) (by omega)
    have hum:l[l.length-1]?.getD Tr.zero∈l:=by rw [jE (by omega)];simp
    generalize l[l.length-1]?.getD Tr.zero=u at *
    obtain ⟨u1,u2,u3⟩:=c1 u hum
    have hm:=JS hN n u y u1 hy (by omega)
    obtain ⟨hi,_⟩:=ih u y u1 hy (by omega)
    generalize mergeF N n u y=r at *
    have hf:=Zba (N:=N) (l:=l.take (l.length-1)++r) (h:=x.h-1) (j:=j) (by omega) (fun t ht=>by
     rcases List.mem_append.1 ht with w|w
     ·have:=(c1 t (List.mem_of_mem_take w)).2.1;omega
     ·rw [hm.h t w];omega)
    have hsum:Tr.watL j l=Tr.watL j (l.take (l.length-1))+u.wat j:=by
     conv=>lhs;rw [hs]
     rw [Tr.watL_append,Tr.watL,Tr.watL];omega
    rw [Tr.watL_append] at hf
    refine ⟨fun q=>?_,fun _ q=>?_,fun q _=>by omega⟩
    ·have:=hi.lo (by omega);omega
    ·have:=hi.l (by omega) q;omega
   ·rename_i he hlt
    have w1:=ZDG hN hy (by omega) j
    obtain ⟨c1,c2,c3,c4⟩:=Qy hN hy (by omega)
    generalize childs N y=l at *
    have hs:=ZX0 (l:=l) (z:=Tr.zero) (by omega)
    have hum:l[0]?.getD Tr.zero∈l:=by rw [jE (by omega)];simp
    generalize l[0]?.getD Tr.zero=u at *
    obtain ⟨u1,u2,u3⟩:=c1 u hum
    have hm:=JS hN n x u hx u1 (by omega)
    obtain ⟨hi,_⟩:=ih x u hx u1 (by omega)
    generalize mergeF N n x u=r at *
    have hf:=Zba (N:=N) (l:=r++l.drop 1) (h:=y.h-1) (j:=j) (by omega) (fun t ht=>by
     rcases List.mem_append.1 ht with w|w
     ·rw [hm.h t w];omega
     ·have:=(c1 t (List.mem_of_mem_drop w)).2.1;omega)
    have hsum:Tr.watL j l=u.wat j+Tr.watL j (l.drop 1):=by
     conv=>lhs;rw [hs]
     rw [Tr.watL_append,Tr.watL,Tr.watL];omega
    rw [Tr.watL_append] at hf
    refine ⟨fun q=>?_,fun q _=>by omega,fun _ q=>?_⟩
    ·have:=hi.lo (by omega);omega
    ·have:=hi.r (by omega) q;omega
structure CW3 (x y:Tr) (j w:Nat):Prop where
 lo:(x.bytes=0\/y.bytes=0\/j<min x.h y.h)->w<=x.wat j+y.wat j
 l:x.bytes≠0->y.h<=x.h->y.h<=j->j<=x.h->w<=x.wat j+2
 r:y.bytes≠0->x.h<=y.h->x.h<=j->j<=y.h->w<=y.wat j+2
 any:w<=x.wat j+y.wat j+2
 hi:max x.h y.h<=j->w<=2
theorem ZIO {N:ZJ} (hN:GoodN N) (j:Nat) {x y:Tr} (hx:VE N x) (hy:VE N y) (hb:x.bytes+y.bytes<=65536):CW3 x y j ((concM N x y).wat j):=by
 have hc:=YD hN hx hy hb;have tx:=hx.wat (j:=j);have ty:=hy.wat (j:=j);have tz:=hc.ve.wat (j:=j);have hh:=hc.h
 revert tz hh
 unfold concM
 split
 ·rename_i h
  intro tz hh
  refine ⟨fun _=>by omega,fun q=>absurd h q,fun _ _ _ _=>by omega,by omega,fun q=>?_⟩
  have:=(ty (by omega)).1;omega
 ·rename_i h
  split
  ·rename_i h2
   intro tz hh
   refine ⟨fun _=>by omega,fun _ _ _ _=>by omega,fun q=>absurd h2 q,by omega,fun q=>?_⟩
   have:=(tx (by omega)).1;omega
  ·rename_i h2
   have vx:=hx.val h;have vy:=hy.val h2;have hm:=JS hN _ x y vx vy rfl;obtain ⟨hw,hw2⟩:=ZhH hN j _ x y vx vy rfl
   generalize mergeF N (x.h+y.h) x y=r at *
   intro tz hh
   have hg:j≠max x.h y.h+1->(grp r).wat j<=Tr.watL j r:=fun q=>ZDm (N:=N) q hm.h
   have h2':max x.h y.h<=j->(grp r).wat j<=2:=by
    intro q
    rcases Nat.eq_or_lt_of_le q with w|w
    ·have:=hg (by omega);have:=hw2 (by omega);omega
    ·have:=(tz (by omega)).1;omega
   have ha:(grp r).wat j<=x.wat j+y.wat j+2:=by
    rcases Nat.lt_or_ge j (max x.h y.h) with q|q
    ·have:=hg (by omega)
     rcases Nat.lt_or_ge j (min x.h y.h) with w|w
     ·have:=hw.lo w;omega
     ·rcases Nat.le_total x.h y.h with z|z
      ·have:=hw.r z (by omega);omega
      ·have:=hw.l z (by omega);omega
    ·have:=h2' q;omega
   refine ⟨fun q=>?_,fun _ a b c=>?_,fun _ a b c=>?_,ha,h2'⟩
   ·have:=hg (by omega);have:=hw.lo (by omega);omega
   ·have:=hg (by omega);have:=hw.l a b;omega
   ·have:=hg (by omega);have:=hw.r a b;omega
theorem ZiM {N:ZJ} {l:List Tr} {h:Nat} (h0:(grp l).bytes≠0) (hl:∀ t∈l,t.h=h):h<=(grp l).h:=by
 match l,hl,h0 with
 | [],_,h0=>exact absurd (zero_empty.bytes) h0
 | [t],hl,_=>rw [grp,hl t (by simp)];omega
 | t::u::r,hl,_ =>
  rw [ZCE (by simp)]
  have he:Tr.hs (t::u::r)=h:=hl t (by simp)
  simp only [Tr.h,he];omega
theorem Zf1 {N:ZJ} (hN:GoodN N) (j:Nat):∀ n t a,VE N t->t.h=n->0<=a->a<=t.bytes->t.bytes<=65536->(cutF N n t a).1.wat j<=t.wat j+2/\(cutF N n t a).2.wat j<=t.wat j+2:=by
 intro n
 induction n with
 | zero =>
  intro t a ht hh h0 h1 hb;rw [cutF]
  split
  ·simp only [ZE7];omega
  ·split
   ·simp only [ZE7];omega
   ·have e1:=Zf0 ((Qc N t).take a.toNat) j
    have e2:=Zf0 ((Qc N t).drop a.toNat) j
    simp only;omega
 | succ n ih =>
  intro t a ht hh h0 h1 hb;have hco:=Yk hN (n+1) t a ht hh h0 h1 hb
  rcases Nat.lt_or_ge n j with hj|hj
  ·have p1:=(hco.l.wat (j:=j) (by have:=hco.lh;omega)).1
   have p2:=(hco.r.wat (j:=j) (by have:=hco.rh;omega)).1
   omega
  clear hco;rw [cutF]
  split
  ·simp only [ZE7];omega
  ·split
   ·simp only [ZE7];omega
   ·rename_i q1 q2
    have vt:=ht.val (by omega)
    have h16:=vt.h16
    have hwc:=ZDG hN vt (by omega) j
    obtain ⟨c1,c2,c3,c4⟩:=Qy hN vt (by omega)
    generalize childs N t=l at *
    obtain ⟨s1,s2,s3,s4⟩:=ZM6 l a (by omega) (fun u hu=>by have:=(c1 u hu).1.pos.2;omega) h0 (by omega)
    generalize hk:(Qs l a).1=k at *
    generalize hb2:(Qs l a).2=b at *
    have hl:∀ u∈l,Val N u/\u.h=n/\Big u:=fun u hu=>⟨(c1 u hu).1,by have:=(c1 u hu).2.1;omega,(c1 u hu).2.2⟩
    have ltk:(l.take k).length=k:=by rw [List.length_take];omega
    have ldk:(l.drop k).length=l.length-k:=by rw [List.length_drop]
    have g1:=ZDm (N:=N) (l:=l.take k) (h:=n) (j:=j) (by omega) (fun u hu=>(hl u (List.mem_of_mem_take hu)).2.1)
    have hsum:Tr.bytesL l=Tr.bytesL (l.take k)+Tr.bytesL (l.drop k):=by rw [<- Tr.bytesL_append,List.take_append_drop]
    have hws:Tr.watL j l=Tr.watL j (l.take k)+Tr.watL j (l.drop k):=by rw [<- Tr.watL_append,List.take_append_drop]
    split
    ·have g2:=ZDm (N:=N) (l:=l.drop k) (h:=n) (j:=j) (by omega) (fun u hu=>(hl u (List.mem_of_mem_drop hu)).2.1)
     simp only;omega
    ·rename_i hz
     obtain ⟨u,hu⟩:∃ u,l[k]?=some u:=⟨l[k],by simp [s1]⟩
     rw [hu];simp only [Option.getD_some];obtain ⟨u1,u2,u3⟩:=hl u (jM hu);have hub:=s4 u hu
     have ldk1:(l.drop (k+1)).length=l.length-(k+1):=by rw [List.length_drop]
     have hdk:l.drop k=u::l.drop (k+1):=by
      have hlt:k<l.length:=s1;rw [List.drop_eq_getElem_cons hlt]
      congr 1
      rw [jE hlt] at hu;exact Option.some.inj hu
     rw [hdk] at hsum hws;rw [Tr.bytesL] at hsum;rw [Tr.watL] at hws
     have g2:=ZDm (N:=N) (l:=l.drop (k+1)) (h:=n) (j:=j) (by omega) (fun w hw=>(hl w (List.mem_of_mem_drop hw)).2.1)
     have e1:=ZiM (N:=N) (l:=l.take k) (h:=n);have e2:=ZiM (N:=N) (l:=l.drop (k+1)) (h:=n)
     obtain ⟨a1,a2,a3,a4,a5⟩:=ZF4 (l:=l.take k) (by omega) (show n+1<=16 by omega) (fun u hu=>hl u (List.mem_of_mem_take hu))
     obtain ⟨d1,d2,d3,d4,d5⟩:=ZF4 (l:=l.drop (k+1)) (by omega) (show n+1<=16 by omega) (fun w hw=>hl w (List.mem_of_mem_drop hw))
     have p1:=Tr.bytesL_nonneg (l:=l.take k) (fun w hw=>by have:=(hl w (List.mem_of_mem_take hw)).1.pos.2;omega)
     have p2:=Tr.bytesL_nonneg (l:=l.drop (k+1)) (fun w hw=>by have:=(hl w (List.mem_of_mem_drop hw)).1.pos.2;omega)
     have hc:=Yk hN n u b (.inr u1) u2 s2 (by omega) (by omega)
     obtain ⟨i1,i2⟩:=ih u b (.inr u1) u2 s2 (by omega) (by omega)
     generalize cutF N n u b=r at *
     have k1:=ZIO hN j a1 hc.l (by rw [hc.lb,a3];omega)
     have k2:=ZIO hN j hc.r d1 (by rw [hc.rb,d3];omega)
     have lh:=hc.lh;have rh:=hc.rh
     try simp only
     constructor
     ·by_cases z:(grp (l.take k)).bytes=0
      ·have:=k1.lo (.inl z);omega
      ·have e1:=e1 z (fun w hw=>(hl w (List.mem_of_mem_take hw)).2.1)
       rcases Nat.lt_or_ge j r.1.h with q|q
       ·have:=k1.lo (.inr (.inr (by omega)));omega
       ·have:=k1.l z (by omega) q (by omega);omega
     ·by_cases z:(grp (l.drop (k+1))).bytes=0
      ·have:=k2.lo (.inr (.inl z));omega
      ·have e2:=e2 z (fun w hw=>(hl w (List.mem_of_mem_drop hw)).2.1)
       rcases Nat.lt_or_ge j r.2.h with q|q
       ·have:=k2.lo (.inr (.inr (by omega)));omega
       ·have:=k2.r z (by omega) q (by omega);omega
def gW (h b j:Nat):Nat:=if j<h then 10 else if j=h then 6 else if j<=max h b then 4 else if j=max h b+1 then 2 else if j=max h b+2 then 1 else 0
theorem Zja {N:ZJ} (hN:GoodN N) (j:Nat) {t:Tr} (ht:VE N t) (hw:∀ j,t.wat j=0) {a n:Int} {s:List UInt8} (h0:0<=a) (h1:0<=n) (h2:a+n<=t.bytes) (hb:t.bytes<=65536) (hs:t.bytes-n+s.length<=65536) :
 (ZBt N t a n s).wat j<=(Z3 s).wat j+gW t.h (Z3 s).h j/\(ZBt N t a n s).h<=max t.h (Z3 s).h+2:=by
 unfold ZBt
 split
 ·rw [hw];omega
 ·have c1:=Yk hN t.h t a ht rfl h0 (by omega) hb
  obtain ⟨w1,w2⟩:=Zf1 hN j t.h t a ht rfl h0 (by omega) hb
  generalize cutF N t.h t a=q at *
  obtain ⟨l,m⟩:=q
  simp only at *
  have hm:=c1.rb;have hl:=c1.lb;have lh:=c1.lh;have mh:=c1.rh
  simp only at hm hl lh mh
  have c2:=Yk hN m.h m n c1.r rfl h1 (by omega) (by omega)
  obtain ⟨w3,w4⟩:=Zf1 hN j m.h m n c1.r rfl h1 (by omega) (by omega)
  generalize cutF N m.h m n=q at *
  obtain ⟨d,r⟩:=q
  simp only at *
  have hr:=c2.rb;have rh:=c2.rh
  simp only at hr rh
  obtain ⟨b1,b2,b3⟩:=J8 hN (s:=s) (by omega)
  generalize Z3 s=b at *
  have k1:=YD hN c1.l b1 (by rw [b3];simp only;omega)
  have v1:=ZIO hN j c1.l b1 (by rw [b3];simp only;omega)
  have zh:=k1.h
  have k2:=YD hN k1.ve c2.r (by rw [k1.bytes,b3];simp only;omega)
  have v2:=ZIO hN j k1.ve c2.r (by rw [k1.bytes,b3];simp only;omega)
  have xh:=k2.h;have tl:=c1.l.wat (j:=j);have tm:=c1.r.wat (j:=j);have tr:=c2.r.wat (j:=j);have tb:=b1.wat (j:=j);have t1:=k1.ve.wat (j:=j);have t2:=k2.ve.wat (j:=j);have a1:=v1.any;have a2:=v2.any;have x2:=v2.hi;have hw:=hw j
  simp only at *
  generalize concM N l b=z1 at *
  generalize concM N z1 r=z2 at *
  clear k1 k2 v1 v2 c1 c2 b2
  refine ⟨?_,by omega⟩
  unfold gW
  split
  ·omega
  ·split
   ·have:=(tl (by omega)).1
    have:=(tr (by omega)).1
    omega
   ·have:=(tl (by omega)).2 (by omega)
    have:=(tr (by omega)).2 (by omega)
    split
    ·omega
    ·split
     ·have:=x2 (by omega);omega
     ·split
      ·have:=(t2 (by omega)).1;omega
      ·have:=(t2 (by omega)).2 (by omega);omega
end Go.Q15
namespace Go.Q15
open Go Go.QAbs
set_option maxRecDepth 100000
set_option maxHeartbeats 1000000
def ZDH:Nat->(Nat->Nat)->Nat
 | 0,_=>0
 | n+1,f=>ZDH n f+f n
theorem ZiN {f g:Nat->Nat}:∀ K,(∀ j,j<K->f j<=g j)->ZDH K f<=ZDH K g
 | 0,_=>Nat.le_refl _
 | K+1,h=>by
  have h1:=ZiN K (fun j hj=>h j (by omega))
  have h2:=h K (by omega)
  rw [ZDH,ZDH];omega
theorem ZNM (f g:Nat->Nat):∀ K,ZDH K (fun j=>f j+g j)=ZDH K f+ZDH K g
 | 0=>rfl
 | K+1=>by rw [ZDH,ZDH,ZDH,ZNM f g K];omega
theorem ZIP:∀ K,ZDH K (fun _=>0)=0
 | 0=>rfl
 | K+1=>by rw [ZDH,ZIP K]
theorem ZKV {f g:Nat->Nat} (h:∀ j,f j=g j) (K:Nat):ZDH K f=ZDH K g:=by
 rw [show f=g from funext h]
theorem Zf2 {f:Nat->Nat} {i:Nat} (hf:∀ j,j≠i->f j=0):∀ K,K<=i->ZDH K f=0
 | 0,_=>rfl
 | K+1,h=>by rw [ZDH,Zf2 hf K (by omega),hf K (by omega)]
theorem Zdw {f:Nat->Nat} {i:Nat} (hf:∀ j,j≠i->f j=0):∀ K,i<K->ZDH K f=f i
 | 0,h=>by omega
 | K+1,h=>by
  rw [ZDH]
  rcases Nat.eq_or_lt_of_le (Nat.lt_succ_iff.1 h) with q|q
  ·rw [<- q,Zf2 hf i (Nat.le_refl _)];omega
  ·rw [Zdw hf K q,hf K (by omega)];omega
theorem Znc {N:ZJ} {t:Tr} (hv:Val N t):∀ K,t.h<K->t.cnt=ZDH K (fun j=>t.wat j):=by
 induction hv with
 | @kept o h m k x h0 hx hok hh hm hk =>
  intro K _
  rw [Tr.cnt,Tr.cntO_getD,hk,if_neg h0,ZKV (g:=fun _=>0) (fun j=>by rw [Tr.wat,Tr.watO_getD,hk,ZH1 h0];rfl),ZIP];rfl
 | @leaf s k h1 h2 hk =>
  intro K hK;simp only [Tr.h] at hK
  rw [Tr.cnt,Tr.cntO_getD,hk,ZKV (g:=hdW 0 0 s) (fun j=>by rw [Tr.wat,Tr.watO_getD,hk];simp only [Tr.watL,Nat.add_zero]),Zdw (i:=0) (fun j hj=>(ZH0 _ _ _ _).2 (by omega)) K hK]
  have hs:s≠[]:=by rintro rfl;simp at h1
  simp [hdW,Tr.cntL,hs]
 | @inner h l hh h2 h4 hl hb hv ih =>
  intro K hK;simp only [Tr.h] at hK
  have hL:∀ l':List Tr,(∀ t∈l',t∈l)->Tr.cntL l'=ZDH K (fun j=>Tr.watL j l'):=by
   intro l'
   induction l' with
   | nil=>intro _;rw [Tr.cntL];simp only [Tr.watL];rw [ZIP]
   | cons a r ih2 =>
    intro hm
    rw [Tr.cntL,ih a (hm a (by simp)) K (by rw [hl a (hm a (by simp))];omega),ih2 (fun t ht=>hm t (by simp [ht]))]
    simp only [Tr.watL];rw [ZNM]
  rw [Tr.cnt,Tr.cntO,hL l (fun t ht=>ht)]
  simp only [Tr.wat,Tr.watO]
  rw [ZNM,Zdw (f:=fun j=>hdW 0 (h+1) [] j) (i:=h+1) (fun j hj=>(ZH0 _ _ _ _).2 (by omega)) K hK]
  simp [hdW]
theorem Zlj {N:ZJ} {t:Tr} (hv:VE N t) {K:Nat} (hK:t.h<K):nw t=ZDH K (fun j=>t.wat j):=by
 rcases hv with h|h
 ·rw [ZfZ h,ZKV (g:=fun _=>0) (fun j=>ZQS h j),ZIP]
 ·rw [ZQK h,Znc h K hK]
mutual
theorem ZiO (j:Nat):∀ t:Tr,t.own.wat j=t.wat j
 | .mk o h m s k=>by rw [Tr.own,Tr.wat,Tr.wat,Zlk j k]
theorem Zlk (j:Nat):∀ k,Tr.watO j (Tr.ownO k)=Tr.watO j k
 | none=>by rw [Tr.ownO,Tr.watO,Tr.watO,Tr.watL]
 | some l=>by rw [Tr.ownO,Tr.watO,Tr.watO,Zf3 j l]
theorem Zf3 (j:Nat):∀ l,Tr.watL j (Tr.ownL l)=Tr.watL j l
 | []=>by rw [Tr.ownL]
 | t::l=>by rw [Tr.ownL,Tr.watL,Tr.watL,ZiO j t,Zf3 j l]
end
theorem Zof:∀ h<17,∀ b<4,ZDH (max h b+3) (gW h b)<=12*(h+2):=by decide
theorem Zjb {row:List Tr} (h:1<=row.length):(ZAQ row).length=(row.length-1) / 4+1:=by
 have hlen:(ZAQ row).length=(Zi row.length 4).toNat:=by unfold ZAQ;simp
 have hg4:Zi row.length 4=((row.length:Int)-1) / 4+1:=rfl;omega
theorem Zf4 {N:ZJ} (hN:GoodN N):∀ (n:Nat) (row:List Tr) (h:Nat) (s:List UInt8) (k:Nat),Row N row h s->row.length<=n+1->s.length<=65536->row.length<=4 ^ k->(grp (Xc n row)).h<=h+k
 | 0,row,h,s,k,hr,hl,hs,hk=>by
  rw [Xc]
  match row,hl,hr with
  | [],_,_=>simp [grp,Tr.zero,Tr.h]
  | [t],_,hr=>have:=(hr.val t (by simp)).2;simp only [grp];omega
 | n+1,row,h,s,k,hr,hl,hs,hk=>by
  rw [Xc]
  split
  ·rename_i h1
   match row,h1,hr with
   | [],_,_=>simp [grp,Tr.zero,Tr.h]
   | [t],_,hr=>have:=(hr.val t (by simp)).2;simp only [grp];omega
  ·rename_i h2
   have hh:h+1<=16:=by
    match row,h2,hr with
    | t::r,h2,hr =>
     have h1:=(hr.val t (by simp))
     have h3:=ZF1 hN h1.1
     have h4:(t.txt N).length<=s.length:=by rw [<- hr.txt,Tr.txtL,lL];omega
     have:=h1.1.height hN (by omega)
     omega
    | [],h2,_=>simp at h2
   obtain ⟨a,b,c⟩:=ZX9 hr (by omega) hh
   cases k with
   | zero=>simp at hk;omega
   | succ k =>
    have hlen:=Zjb (row:=row) (by omega)
    rw [Nat.pow_succ] at hk
    have:=Zf4 hN n (ZAQ row) (h+1) s k a (by omega) hs (by omega)
    omega
theorem Zll {N:ZJ} (hN:GoodN N) {s:List UInt8} (hs:s.length<=1024):(Z3 s).h<=3:=by
 obtain ⟨a,b,c⟩:=ZF6 (N:=N) s
 have hl:((YC s).map Ja).length<=64:=by
  unfold YC
  split
  ·simp
  ·have hg:Zi s.length 16=((s.length:Int)-1) / 16+1:=rfl
   simp only [List.length_map,List.length_range];omega
 have:=Zf4 hN s.length _ 0 s 3 a (by omega) (by omega) (by omega)
 unfold Z3;omega
theorem Zbb {N:ZJ} {ro:Ro} (h:RtOk N ro) (j:Nat):(YW ro).wat j=0/\(YW ro).h=ro.h:=by
 unfold YW
 rcases h with rfl|⟨h0,x,h1,h2,h3,h4⟩
 ·rw [if_pos (by rfl)];exact ⟨ZE7 j,rfl⟩
 ·rw [if_neg h0]
  exact ⟨by rw [Tr.keep,Tr.wat,ZH1 h0];rfl,rfl⟩
theorem Zog (t:Tr):t.own.h=t.h:=by obtain ⟨o,h,m,s,k⟩:=t;rfl
theorem Zoh {N:ZJ} (hN:GoodN N) {ro:Ro} {s0:List UInt8} {a n:Int} {s:List UInt8} (h:EdOk N ro s0 a n s) (hs:s.length<=1024):nw (edV N ro a n s)<=12*(ro.h+2)+nw (Z3 s):=by
 obtain ⟨hv,_,_⟩:=h.ok hN;obtain ⟨hk,htx⟩:=h.rt.keep;have hb:=(h.rt.b hN).1;have h1:=h.a0;have h2:=h.n0;have h3:=h.le;have h4:=h.b1;have h5:=h.b2;have h13:=h.rt.rt.h13 hN
 have hw:=fun j=>(Zbb h.rt.rt j).1
 have he:(YW ro).h=ro.h:=(Zbb h.rt.rt 0).2
 have hR:=fun j=>Zja hN j (s:=s) hk hw h1 h2 (by omega) (by omega) (by omega)
 have hB:=(J8 hN (s:=s) (by omega)).1
 have hBh:=Zll hN hs
 have hE:(edV N ro a n s).h<max ro.h (Z3 s).h+3:=by
  unfold edV;rw [Zog]
  have:=(hR 0).2
  rw [he] at this;omega
 rw [Zlj hv hE,Zlj hB (K:=max ro.h (Z3 s).h+3) (by omega)]
 have hg:=Zof ro.h (by omega) (Z3 s).h (by omega)
 have hle:=ZiN (f:=fun j=>(edV N ro a n s).wat j) (g:=fun j=>(Z3 s).wat j+gW ro.h (Z3 s).h j) (max ro.h (Z3 s).h+3) (fun j _=>by
  unfold edV;rw [ZiO]
  have:=(hR j).1
  rw [he] at this;exact this)
 rw [ZNM] at hle;omega
end Go.Q15
namespace Go.Q15
open Go Go.QAbs
set_option maxRecDepth 100000
set_option maxHeartbeats 16000000
theorem Zoi (k:Kid):eqV [(0,0),(1,0),(2,0),(3,0)] 0 k.av k.av=some true:=by
 unfold Kid.av
 show (if decide _=true then (if decide _=true then (if decide _=true then (if decide _=true then some true else some false) else some false) else some false) else some false)=_
 simp
theorem Zoj (r:Ro):eqV [(0,0),(1,0),(2,0),(3,0),(4,0)] 0 r.av r.av=some true:=by
 unfold Ro.av;rw [Zo7];simp
theorem Zf5 (ks:List Kid) (hl:ks.length<1000) (st:St):S Tb Yz [.lit (ks.map Kid.av),.lit (ks.map Kid.av)] st=some (.bool true,st):=by
 refine QJ rfl (fun A hA=>?_)
 repeat' (first|refine ZDE rfl ?_|refine ZE ?_|refine ZD ?_|refine ZF rfl ?_|refine ZA rfl ?_|refine ZC ?_|(refine Zk rfl rfl (fun _=>?_) (fun _=>?_)<;>try (exfalso;omega))|refine ZH rfl ?_|refine ZI ?_|refine ZL ?_)
 all_goals try contradiction
 refine Z2 (α:=Nat) (fun i=>[(0,.lit (ks.map Kid.av)),(1,.lit (ks.map Kid.av)),(5,.int .i64 i)]) (fun i=>⟨A,false,[]⟩) (fun i=>i<=ks.length) (fun i=>ks.length-i) 0 rfl rfl (Nat.zero_le _) ?_
 intro i hi;replace hi:i<=ks.length:=hi
 rcases Nat.lt_or_ge i ks.length with hlt|hge
 ·obtain ⟨k,hk⟩:∃ k,ks[i]?=some k:=⟨ks[i]'hlt,jE _⟩
  have q:0<=((i:Nat):Int)/\ks[((i:Nat):Int).toNat]?=some k:=⟨by omega,by rw [show ((i:Nat):Int).toNat=i by omega];exact hk⟩
  have he:=Zoi k;unfold Kid.av at he
  repeat' (first|refine ZDE rfl ?_|refine YE (f:=Kid.av) rfl rfl q (fun _=>rfl) ?_|refine JA rfl rfl he rfl ?_|refine ZE ?_|refine ZD ?_|refine ZF rfl ?_|refine ZA rfl ?_|refine ZC ?_|refine QM rfl rfl ?_|(refine Zh rfl rfl (fun _=>?_) (fun _=>?_)<;>try (exfalso;omega))|refine ZV rfl ?_|refine ZH rfl ?_|refine Zm rfl rfl (by omega) ?_|refine ZI ?_|refine ZL ?_|refine Zy ?_|refine QH ?_)
  all_goals try contradiction
  all_goals try (exfalso;omega)
  exact ⟨i+1,⟨rfl,rfl⟩,by omega,by omega⟩
 ·obtain rfl:i=ks.length:=by omega
  repeat' (first|refine ZDE rfl ?_|refine ZE ?_|refine ZD ?_|refine ZF rfl ?_|refine ZA rfl ?_|refine ZC ?_|(refine Zh rfl rfl (fun _=>?_) (fun _=>?_)<;>try (exfalso;omega))|refine ZH rfl ?_|refine ZS ?_|refine Zu ?_|refine ZO ?_|refine Ze ?_|refine Zb rfl ?_|refine Zt ?_)
  all_goals try (exfalso;omega)
  refine Zj hA (by first|exact .inl rfl|exact .inr rfl) rfl rfl rfl rfl ?_
  rfl
theorem Zf6 (x:Nd) (hl:x.ks.length<1000) (st:St):S Tb Yy [x.copy.av,x.copy.av] st=some (.bool true,st):=by
 refine QJ rfl (fun A hA=>?_)
 have hcp:x.copy.av=.agg [.int .i64 x.h,.str x.text,.lit (x.ks.map Kid.av)]:=rfl
 have hK:=fun st=>Zf5 x.ks hl st
 rw [hcp]
 generalize x.ks=ks at *
 repeat' (first|refine ZE ?_|refine ZD ?_|refine ZF rfl ?_|refine ZQ rfl rfl ?_|refine ZP rfl rfl rfl rfl ?_|refine QE rfl ?_|refine Zo rfl rfl rfl rfl ?_|refine ZA rfl ?_|refine ZC ?_|(refine Zp rfl rfl (fun _=>?_) (fun _=>?_)<;>try (exfalso;omega))|(refine J9 rfl rfl (fun _=>?_) (fun _=>?_)<;>try contradiction)|refine Za rfl rfl rfl ?_|refine ZB rfl rfl rfl (hK _) ?_|refine ZS ?_|refine ZO ?_)
 all_goals try contradiction
 all_goals first|exact absurd rfl ‹_›|(refine Zj hA (by first|exact .inl rfl|exact .inr rfl) rfl rfl rfl rfl ?_;rfl)
def arL (L:List Blk) (n b:Nat) (r:AR):List Blk:=(((((L.set b r.b0).set (b+1) r.b1).set (b+2) r.b2).set (b+3) (r.b3 n b)).set (b+4) r.b4).set (b+5) (r.b5 n b)
theorem ZEA (A:List (Bool × List Blk)) (L:List Blk) (b:Nat) (r:AR):QP ⟨A,false,L⟩ A.length b r=⟨A,false,arL L A.length b r⟩:=by
 simp [QP,arK,arB,Ql,St.upd,arL]
theorem ZQT {L:List Blk} {n b i:Nat} (r:AR) (h:¬ (b<=i/\i<=b+5)):(arL L n b r)[i]?=L[i]?:=by
 unfold arL
 rw [jS (by omega),jS (by omega),jS (by omega),jS (by omega),jS (by omega),jS (by omega)]
theorem ZNN {L:List Blk} {n b:Nat} (r:AR):(arL L n b r).length=L.length:=by simp [arL]
theorem Has.frmL {A:List (Bool × List Blk)} {L L':List Blk} {b:Nat} {r:AR} (h:Has ⟨A,false,L⟩ A.length b r) (hg:∀ i,b<=i->i<=b+5->L'[i]?=L[i]?):Has ⟨A,false,L'⟩ A.length b r:=by
 have e:∀ i,b<=i->i<=b+5->St.get ⟨A,false,L'⟩ A.length i=St.get ⟨A,false,L⟩ A.length i:=fun i h1 h2=>by rw [St.get_cur,St.get_cur,hg i h1 h2]
 exact ⟨by simp [St.wr],(e _ (by omega) (by omega)).trans h.h0,(e _ (by omega) (by omega)).trans h.h1,(e _ (by omega) (by omega)).trans h.h2,(e _ (by omega) (by omega)).trans h.h3,(e _ (by omega) (by omega)).trans h.h4,(e _ (by omega) (by omega)).trans h.h5⟩
theorem ZYT {A:List (Bool × List Blk)} {ro:Bool} {L:List Blk} {i:Nat} {b:Blk} (h:St.get ⟨A,ro,L⟩ A.length i=some b):i<L.length:=by
 rw [St.get_cur] at h;exact (List.getElem?_eq_some_iff.1 (ZBN h).1).1
theorem Has.app {A:List (Bool × List Blk)} {L:List Blk} {b:Nat} {r:AR} (h:Has ⟨A,false,L⟩ A.length b r) (T:List Blk):Has ⟨A,false,L++T⟩ A.length b r :=
 h.frmL fun i h1 h2=>by
  have:=ZYT h.h5
  rw [jL (by omega)]
theorem Zok {s:List UInt8} (hs:s.length<=65536):4*nw (Z3 s)<=s.length+28:=by
 obtain ⟨b1,_,b3⟩:=J8 ZAr (s:=s) hs
 rcases b1 with h|h
 ·rw [ZfZ h];omega
 ·rw [ZQK h]
  obtain ⟨c1,c2⟩:=ZoQ ZAr h;rw [b3] at c1 c2
  by_cases q:Big (Z3 s)
  ·have:=c2 q;omega
  ·have : (Z3 s).bytes < 8 := by
    by_cases w:8<=(Z3 s).bytes
    ·exact absurd (fun _=>w) q
    ·omega
   rw [b3] at this;omega
def HL (r:AR):Prop:=∀ o∈YY r,∃ x,lk r.nodes o=some x
theorem HL.add {r:AR} (h:HL r) (ho:AROk r) (hn:0<r.n) (x:Nd):HL (r.add x):=by
 intro o hm;rw [ZF7 ho hn]
 by_cases q:o=r.next
 ·rw [if_pos q];exact ⟨_,rfl⟩
 rw [if_neg q];refine h o ?_;unfold YY at hm ⊢;obtain ⟨s,hs,e⟩:=List.mem_map.1 hm;obtain ⟨m1,m2⟩:=ZKU hs;obtain ⟨t1,t2,t3,t4,t5,t6⟩:=ho.top hn;have e2:(r.add x).states=r.states.set r.slot 1:=rfl;have eh:hOf (r.add x) s=hOf r s:=rfl
 by_cases q2:r.slot=s
 ·exfalso;apply q;rw [<- e,eh,<- q2];rfl
 ·rw [e2,jS q2] at m2
  refine List.mem_map.2 ⟨s,?_,by rw [<- e,eh]⟩
  unfold ZBm Yl;rw [List.mem_filter,List.mem_range]
  exact ⟨by rw [e2,List.length_set] at m1;exact m1,by simp [m2]⟩
theorem HL.adds {r r':AR} {hs:List Nat} (h:Adds r hs r'):AROk r->hs.length<=r.n->HL r->HL r':=by
 induction h with
 | nil=>exact fun _ _ q=>q
 | @cons r r' hs x h ih =>
  intro ho hl hq;rw [List.length_cons] at hl
  exact ih (ho.add (by omega) x) (by show hs.length<=r.n-1;omega) (hq.add ho (by omega) x)
theorem HL.new (n g:Nat):HL (QA n g):=by
 intro o hm;unfold YY at hm;obtain ⟨s,hs,e⟩:=List.mem_map.1 hm;obtain ⟨m1,m2⟩:=ZKU hs
 have:(QA n g).states=List.replicate n 0:=rfl
 rw [this,List.getElem?_replicate] at m2
 split at m2<;>simp at m2
theorem HL.wr {r:AR} (h:HL r) (ho:AROk r) {t:Tr} (hw:(wrV t r).2.2.length=nw t) (hn:nw t<=r.n):HL (wrV t r).1:=HL.adds (Zlg t r) ho (by omega) h
theorem Zlm {st:St} {la b:Nat} {r:AR} (hA:Has st la b r) (ho:AROk r) (hg:GoodN r.nodes) {ro:Ro} {s0:List UInt8} {a n:Int} (h:EdOk r.nodes ro s0 a n []) (hn:nw (edV r.nodes ro a n [])<=r.n) :
 S Tb ZDs [.ptr la (b+5) 0 0 0,ro.av,.int .i64 a,.int .i64 n] st=some (.tup [Qz (wrV (edV r.nodes ro a n []) r).2.1 (wrV (edV r.nodes ro a n []) r).2.2 (slH (Ys r.nodes [ro] (edV r.nodes ro a n []))),.int .i64 0],QP st la b (wrV (edV r.nodes ro a n []) r).1):=by
 refine Xw rfl (fun A hA'=>?_)
 have hle:=hA.le
 have hCh:=fun L=>ZYM (hA.push hA' (ro:=false) (L:=L)) ho hg h hn
 simp only [YV hA' hle] at hCh
 have hAl:A.length=((QP st la b (wrV (edV r.nodes ro a n []) r).1).ps).length:=by rw [hA'];simp [ZBl]
 generalize (wrV (edV r.nodes ro a n []) r).2.1=r2 at *
 generalize (wrV (edV r.nodes ro a n []) r).2.2=fr at *
 generalize Ys r.nodes [ro] (edV r.nodes ro a n [])=dd at *
 obtain ⟨A2,hA2⟩:∃ A2,A2=(QP st la b (wrV (edV r.nodes ro a n []) r).1).ps:=⟨_,rfl⟩;rw [<- hA2] at hCh hAl;obtain ⟨x1,x2,x3⟩:=r2;unfold Ro.av at hCh ⊢
 by_cases hd:dd=[]
 ·subst hd
  rw [show slH []=.nils from rfl] at hCh ⊢
  unfold Qz at hCh
  repeat' (first|refine ZE ?_|refine ZD ?_|refine ZF rfl ?_|refine ZP rfl rfl rfl rfl ?_|refine Zs rfl rfl ?_|refine ZA rfl ?_|refine ZC ?_|refine Za rfl rfl rfl ?_|refine ZB rfl rfl rfl (hCh _) ?_)
  rw [hAl]
  repeat' (first|refine ZF rfl ?_|refine ZA rfl ?_|refine ZC ?_|refine Zl rfl rfl rfl rfl rfl rfl ?_|refine ZS ?_|refine ZO ?_)
  all_goals try contradiction
  exact ZD9 (w:=Qz ⟨x1,x2,x3⟩ fr .nils) hA2 (.inr rfl) rfl rfl rfl rfl rfl rfl
 ·rw [show slH dd=.lit (dd.map Z6) from if_neg hd] at hCh ⊢
  unfold Qz at hCh
  repeat' (first|refine ZE ?_|refine ZD ?_|refine ZF rfl ?_|refine ZP rfl rfl rfl rfl ?_|refine Zs rfl rfl ?_|refine ZA rfl ?_|refine ZC ?_|refine Za rfl rfl rfl ?_|refine ZB rfl rfl rfl (hCh _) ?_)
  rw [hAl]
  repeat' (first|refine ZF rfl ?_|refine ZA rfl ?_|refine ZC ?_|refine Zl rfl rfl rfl rfl rfl rfl ?_|refine ZS ?_|refine ZO ?_)
  all_goals try contradiction
  exact ZD9 (w:=Qz ⟨x1,x2,x3⟩ fr (.lit (dd.map Z6))) hA2 (.inr rfl) rfl rfl rfl rfl rfl rfl
theorem Zln (n:Int) (st:St):S Tb ZAG [.int .i64 n] st=some ((ZBu n).av,st):=by
 refine QJ rfl (fun A hA=>?_)
 repeat' (first|refine ZE ?_|refine ZD ?_|refine ZF rfl ?_|refine ZA rfl ?_|refine ZC ?_|refine Zn rfl rfl rfl ?_|refine Za rfl rfl rfl ?_|refine Zl rfl rfl rfl rfl rfl rfl ?_|refine ZS ?_|refine ZO ?_)
 refine XR hA (by first|exact .inl rfl|exact .inr rfl) rfl rfl rfl rfl rfl ?_
 all_goals rfl
theorem Zol (ro:Ro):eqV [(0,0),(1,0),(2,0),(3,0),(4,0)] 0 (.agg [.int .u64 ro.at_,.int .i64 ro.h,.int .i64 ro.m.b,.int .i64 ro.m.r,.int .i64 ro.m.l]) (.agg [.int .u64 ro.at_,.int .i64 ro.h,.int .i64 ro.m.b,.int .i64 ro.m.r,.int .i64 ro.m.l])=some true:=by
 simp [eqV,JP,Zbh]
theorem Zf7 (ro:Ro) (fr dd:List Nat) (hf:fr.length<1000000000) (hd:dd.length<1000000000) (st:St):S Tb YP [Qz ro fr (slH dd),Qz ro fr (.lit (dd.map Z6))] st=some (.bool true,st):=by
 refine QJ rfl (fun A hA=>?_)
 have hF:=fun st=>ZDF fr (by omega) st
 have hD:=fun st=>ZDF dd (by omega) st
 have hq:=Zol ro
 by_cases h0:dd=[]
 ·subst h0
  rw [show slH []=.nils from rfl]
  unfold Qz;simp only [List.map_nil] at hD ⊢
  repeat' (first|refine JA rfl rfl hq rfl ?_|refine ZE ?_|refine ZD ?_|refine ZF rfl ?_|refine ZQ rfl rfl ?_|refine ZP rfl rfl rfl rfl ?_|refine QE rfl ?_|refine Zo rfl rfl rfl rfl ?_|refine ZA rfl ?_|refine ZC ?_|refine Za rfl rfl rfl ?_|refine ZB rfl rfl rfl (hF _) ?_|refine ZB rfl rfl rfl (hD _) ?_|refine ZS ?_|refine ZO ?_)
  all_goals try contradiction
  all_goals refine Zj hA (by first|exact .inl rfl|exact .inr rfl) rfl rfl rfl rfl ?_
  all_goals rfl
 ·rw [show slH dd=.lit (dd.map Z6) from if_neg h0]
  unfold Qz
  repeat' (first|refine JA rfl rfl hq rfl ?_|refine ZE ?_|refine ZD ?_|refine ZF rfl ?_|refine ZQ rfl rfl ?_|refine ZP rfl rfl rfl rfl ?_|refine QE rfl ?_|refine Zo rfl rfl rfl rfl ?_|refine ZA rfl ?_|refine ZC ?_|refine Za rfl rfl rfl ?_|refine ZB rfl rfl rfl (hF _) ?_|refine ZB rfl rfl rfl (hD _) ?_|refine ZS ?_|refine ZO ?_)
  all_goals try contradiction
  all_goals refine Zj hA (by first|exact .inl rfl|exact .inr rfl) rfl rfl rfl rfl ?_
  all_goals rfl
theorem Zjc {A:List (Bool × List Blk)} {L0:List Blk} {B0 B1:Nat} {r:AR} {hs:List Nat} {v0 v1 v2 v3 v9:AV} (ha0:Has ⟨A,false,L0⟩ A.length B0 r) (hb0:Has ⟨A,false,L0⟩ A.length B1 r) (hg:GoodN r.nodes) (hl:hs.length<=16384)
 (hx:∀ o∈hs,∃ x,lk r.nodes o=some x) {k:List Fr} {Q:Jv}
 (hQ:∀ L,Rk (S TV) k Q .norm [(0,v0),(1,v1),(2,v2),(3,v3),(9,v9),(10,.ptr A.length (B0+5) 0 0 0),(12,.ptr A.length (B1+5) 0 0 0),(20,.lit (hs.map Z6)),(21,.int .i64 hs.length),(176,.bool false)] ⟨A,false,L⟩) :
 Ru (S TV) p_quartolaw20_PatchEdits_43.loop (.blk 2::k) Q [(0,v0),(1,v1),(2,v2),(3,v3),(9,v9),(10,.ptr A.length (B0+5) 0 0 0),(12,.ptr A.length (B1+5) 0 0 0),(20,.lit (hs.map Z6)),(21,.int .i64 0)] ⟨A,false,L0⟩:=by
 refine Z2 (α:=Nat × List Blk) (fun p=>[(0,v0),(1,v1),(2,v2),(3,v3),(9,v9),(10,.ptr A.length (B0+5) 0 0 0),(12,.ptr A.length (B1+5) 0 0 0),(20,.lit (hs.map Z6)),(21,.int .i64 p.1)])
  (fun p=>⟨A,false,p.2⟩) (fun p=>p.1<=hs.length/\Has ⟨A,false,p.2⟩ A.length B0 r/\Has ⟨A,false,p.2⟩ A.length B1 r) (fun p=>hs.length-p.1) (0,L0) rfl rfl ⟨Nat.zero_le _,ha0,hb0⟩ ?_
 rintro ⟨j,L⟩ ⟨hj,ha,hb⟩
 simp only at hj ha hb ⊢
 rcases Nat.lt_or_ge j hs.length with hlt|hge
 ·obtain ⟨o,ho⟩:∃ o,hs[j]?=some o:=⟨hs[j]'hlt,jE _⟩
  obtain ⟨x,hxo⟩:=hx o (jM ho);have h4:x.ks.length<=4:=(hg o x hxo).1.len
  have q:0<=((j:Nat):Int)/\hs[((j:Nat):Int).toNat]?=some o:=⟨by omega,by rw [show ((j:Nat):Int).toNat=j by omega];exact ho⟩
  have hGa:=upV (up3 (ZXu ha.r.rd hxo h4));have hGb:=upV (up3 (ZXu (hb.app [.arr 3 0 [x.copy.av]]).r.rd hxo h4))
  have hEq:=fun st=>upV (up3 (Zf6 x (by omega) st))
  have hend:=And.intro ((ha.app [.arr 3 0 [x.copy.av]]).app [.arr 3 0 [x.copy.av]]) ((hb.app [.arr 3 0 [x.copy.av]]).app [.arr 3 0 [x.copy.av]]);have hcp:x.copy.av=.agg [.int .i64 x.h,.str x.text,.lit (x.ks.map Kid.av)]:=rfl;rw [hcp] at hGa hGb hEq hend
  have f24:∀ b c:Blk,(L++[b]++[c])[L.length]?=some b:=fun b c=>by
   rw [jL (by simp)];exact List.getElem?_concat_length ..
  repeat' (first|refine ZDE rfl ?_|refine YE (f:=Z6) rfl rfl q (fun _=>rfl) ?_|refine ZP rfl (f24 _ _) rfl rfl ?_|refine ZE ?_|refine ZD ?_|refine ZF rfl ?_|refine Zs rfl rfl ?_|refine ZA rfl ?_|refine ZC ?_|refine JF rfl rfl rfl ?_|refine QM rfl rfl ?_|(refine Zh rfl rfl (fun _=>?_) (fun _=>?_)<;>try (exfalso;omega))|refine ZV rfl ?_|refine ZH rfl ?_|refine Jc rfl rfl ?_|refine Zm rfl rfl (by omega) ?_|refine Zw rfl rfl rfl ?_|refine Yf rfl rfl rfl rfl rfl rfl ?_|refine ZB rfl rfl rfl (hGa) ?_|refine ZB rfl rfl rfl (hGb) ?_|refine ZB rfl rfl rfl (hEq _) ?_|refine ZI ?_|refine ZL ?_|refine Zy ?_|refine QH ?_)
  all_goals try contradiction
  all_goals try (exfalso;omega)
  all_goals first|exact absurd rfl ‹_›|exact ⟨(j+1,_),⟨rfl,rfl⟩,⟨hlt,hend⟩,by simp only;omega⟩
 ·obtain rfl:j=hs.length:=by omega
  repeat' (first|refine ZDE rfl ?_|refine ZE ?_|refine ZD ?_|refine ZF rfl ?_|refine ZA rfl ?_|refine ZC ?_|(refine Zh rfl rfl (fun _=>?_) (fun _=>?_)<;>try (exfalso;omega))|refine ZH rfl ?_|refine Zu ?_|refine Ze ?_|refine Zb rfl ?_|refine Zt ?_)
  all_goals try (exfalso;omega)
  exact hQ L
noncomputable def peR (text:List UInt8):AR:=(wrV (Z3 text) (QA 600 2)).1
noncomputable def Ym (text:List UInt8):Ro:=(wrV (Z3 text) (QA 600 2)).2.1
structure PeH (A:List (Bool × List Blk)) (L:List Blk) (B0 B1 i14 i15 dx cx:Nat) (r:AR) (ro:Ro):Prop where
 ha:Has ⟨A,false,L⟩ A.length B0 r
 hb:Has ⟨A,false,L⟩ A.length B1 r
 b14:L[i14]?=some (.arr 5 0 [ro.av])
 b15:L[i15]?=some (.arr 5 0 [ro.av])
 bd:L[dx]?=some (.arr 3 0 [])
 bc:L[cx]?=some (.arr 7 0 [chZ])
 ord:B0+5<B1/\B1+5<i14/\i14<i15/\i15<dx/\dx<cx
 top:cx+1=L.length
theorem Znp {text:List UInt8} (h9:text.length<=900):nw (Z3 text)<=(QA 600 2).n/\WrB (QA 600 2) (nw (Z3 text)) (peR text) (wrV (Z3 text) (QA 600 2)).2.2/\Rt (peR text).nodes (Ym text) text/\HL (peR text):=by
 have hn:=Zok (s:=text) (by omega)
 have e:(QA 600 2).n=600:=rfl
 have ho:=ZNG 600 2 (by omega) (by omega)
 obtain ⟨b1,b2,b3⟩:=J8 ZAr (s:=text) (by omega)
 obtain ⟨w1,w2⟩:=ZiA (r:=QA 600 2) (ZCH [] [] [] _) ho ZAr b1 (by rw [b3];omega) (by omega)
 have b2':Tr.txt (QA 600 2).nodes (Z3 text)=text:=b2;rw [b2'] at w2
 exact ⟨by omega,w1,w2,(HL.new 600 2).wr ho w1.len (by omega)⟩
theorem ZiP {A:List (Bool × List Blk)} {L:List Blk} {text:List UInt8} (h9:text.length<=900) {v1 v2 v3 v9:AV} {k:List Fr} {Q:Jv} {REST:PC}
 (h:∀ L4 B0 B1 i14 i15 dx cx,PeH A L4 B0 B1 i14 i15 dx cx (peR text) (Ym text)->Ru (S TV) REST k Q [(0,.str text),(1,v1),(2,v2),(3,v3),(9,v9),(10,.ptr A.length (B0+5) 0 0 0),(12,.ptr A.length (B1+5) 0 0 0),(14,.ptr A.length i14 0 0 0),(15,.ptr A.length i15 0 0 0),(16,.ref A.length dx 0 0 0),(17,.ptr A.length cx 0 0 0)] ⟨A,false,L4⟩) :
 Ru (S TV) (.seq XW (.seq XY (.seq (.seq XZ (.ite (.s 70) (.seq Y5 .ret) .skip)) (.seq Y6 (.seq Y7 (.seq (.seq Y8 (.ite (.s 93) (.seq Y9 .ret) .skip)) (.seq XA (.seq XB REST)))))))) k Q
  [(0,.str text),(1,v1),(2,v2),(3,v3),(9,v9),(46,.bool true)] ⟨A,false,L⟩:=by
 obtain ⟨hroom,_⟩:=Znp h9
 have ho:=ZNG 600 2 (by omega) (by omega)
 have hN1:=upV (up3 (Zdk 600 2 (by omega) (by omega) A L))
 obtain ⟨X,hX⟩:∃ X,X=L++[(QA 600 2).b0,(QA 600 2).b1,(QA 600 2).b2,(QA 600 2).b3 A.length L.length,(QA 600 2).b4,(QA 600 2).b5 A.length L.length]:=⟨_,rfl⟩
 have hN2:=upV (up3 (Zdk 600 2 (by omega) (by omega) A X))
 obtain ⟨Y,hY⟩:∃ Y,Y=X++[(QA 600 2).b0,(QA 600 2).b1,(QA 600 2).b2,(QA 600 2).b3 A.length X.length,(QA 600 2).b4,(QA 600 2).b5 A.length X.length]:=⟨_,rfl⟩
 have haX:Has ⟨A,false,X⟩ A.length L.length (QA 600 2):=by have:=ZCH A L [] (QA 600 2);rw [lN] at this;rw [hX];exact this
 have haY:Has ⟨A,false,Y⟩ A.length L.length (QA 600 2):=by rw [hY];exact haX.app _
 have hbY:Has ⟨A,false,Y⟩ A.length X.length (QA 600 2):=by have:=ZCH A X [] (QA 600 2);rw [lN] at this;rw [hY];exact this
 have lX:X.length=L.length+6:=by rw [hX];simp
 have lY:Y.length=X.length+6:=by rw [hY];simp
 rw [<- hX] at hN1;rw [<- hY] at hN2
 have hR1:=upV (up3 (Zdr haY ho ZAr text (by omega) hroom))
 rw [ZEA] at hR1;obtain ⟨Y1,hY1⟩:∃ Y1,Y1=arL Y A.length L.length (wrV (Z3 text) (QA 600 2)).1:=⟨_,rfl⟩
 have l1:Y1.length=Y.length:=by rw [hY1,ZNN]
 have ha1:Has ⟨A,false,Y1⟩ A.length L.length (wrV (Z3 text) (QA 600 2)).1:=by
  have:=haY.put (wrV (Z3 text) (QA 600 2)).1
  rw [ZEA,<- hY1] at this;exact this
 have hb1:Has ⟨A,false,Y1⟩ A.length X.length (QA 600 2):=hbY.frmL fun i h1 h2=>by rw [hY1,ZQT _ (by omega)]
 rw [<- hY1] at hR1;clear hY1 hY hX haX haY hbY;have hb2:=hb1.app [.arr 5 0 [(wrV (Z3 text) (QA 600 2)).2.1.av]];have ha2:=ha1.app [.arr 5 0 [(wrV (Z3 text) (QA 600 2)).2.1.av]]
 have hR2:=upV (up3 (Zdr hb2 ho ZAr text (by omega) hroom))
 rw [ZEA] at hR2;obtain ⟨Y2,hY2⟩:∃ Y2,Y2=arL (Y1++[.arr 5 0 [(wrV (Z3 text) (QA 600 2)).2.1.av]]) A.length X.length (wrV (Z3 text) (QA 600 2)).1:=⟨_,rfl⟩
 have l2:Y2.length=Y1.length+1:=by rw [hY2,ZNN];simp
 have hb3:Has ⟨A,false,Y2⟩ A.length X.length (wrV (Z3 text) (QA 600 2)).1:=by
  have:=hb2.put (wrV (Z3 text) (QA 600 2)).1
  rw [ZEA,<- hY2] at this;exact this
 have ha3:Has ⟨A,false,Y2⟩ A.length L.length (wrV (Z3 text) (QA 600 2)).1:=ha2.frmL fun i h1 h2=>by rw [hY2,ZQT _ (by omega)]
 have f14:Y2[Y1.length]?=some (.arr 5 0 [(wrV (Z3 text) (QA 600 2)).2.1.av]):=by
  rw [hY2,ZQT _ (by omega)]
  exact List.getElem?_concat_length ..
 rw [<- hY2] at hR2;clear hY2 ha1 hb1 hb2 ha2;unfold peR Ym at h
 generalize (wrV (Z3 text) (QA 600 2)).1=r1 at *
 generalize (wrV (Z3 text) (QA 600 2)).2.1=ro at *
 generalize QA 600 2=r0 at *
 have hq:=Zoj ro;have hp:Qm ro.av true 0 5=some ro.av:=rfl
 have g14:∀ T,(Y2++T)[Y1.length]?=some (.arr 5 0 [ro.av]):=fun T=>by rw [jL (by omega)];exact f14
 have g15:∀ T,(Y2++(.arr 5 0 [ro.av]::T))[Y2.length]?=some (.arr 5 0 [ro.av]):=fun T=>by rw [List.getElem?_append_right (Nat.le_refl _),Nat.sub_self];rfl
 repeat' (first|refine ZfO ?_|refine ZP rfl (g14 _) rfl hp ?_|refine ZP rfl (g15 _) rfl hp ?_|refine JA rfl rfl hq rfl ?_|refine ZE ?_|refine ZD ?_|refine ZF rfl ?_|refine QE rfl ?_|refine Zo rfl rfl rfl rfl ?_|refine Zs rfl rfl ?_|refine ZA rfl ?_|refine ZC ?_|(refine Zk rfl rfl (fun _=>?_) (fun _=>?_)<;>try (exfalso;omega))|refine ZH rfl ?_|refine JA rfl rfl rfl rfl ?_|refine Zw rfl rfl rfl ?_|refine Yf rfl rfl rfl rfl rfl rfl ?_|refine ZB rfl rfl rfl (hN1) ?_|refine ZB rfl rfl rfl (hN2) ?_|refine ZB rfl rfl rfl (hR1) ?_|refine ZB rfl rfl rfl (hR2) ?_|refine ZI ?_)
 all_goals try contradiction
 all_goals try (exfalso;omega)
 have e1:∀ (a b c:Blk),(Y2++[a]++[b]++[c])=Y2++[a,b,c]:=fun a b c=>by simp
 refine h _ L.length X.length Y1.length Y2.length _ _ ⟨((ha3.app _).app _).app _,((hb3.app _).app _).app _,?_,?_,?_,?_,?_,?_⟩
 ·rw [e1];exact g14 _
 ·rw [e1];exact g15 _
 ·rw [jL (by simp)];exact List.getElem?_concat_length ..
 ·exact List.getElem?_concat_length ..
 ·simp only [lL,List.length_singleton];omega
 ·simp
theorem ZYU {r:AR} (ho:AROk r):(YY r).length<=16384:=by
 have:=ZHv r.states 1 r.states.length
 have:=ho.n16
 unfold YY ZBm;rw [List.length_map];omega
theorem ZYV {L:List Blk} {i:Nat} {b:Blk} (h:L[i]?=some b):L.set i b=L:=by
 obtain ⟨h1,h2⟩:=List.getElem?_eq_some_iff.1 h;rw [<- h2];exact List.set_getElem_self h1
theorem ZpL {A:List (Bool × List Blk)} {L:List Blk} {rest:Int} (h0:0<=rest) {dx ver:Nat} {l:List Pce} (hd:L[dx]?=some (.arr 3 ver (l.map Pce.av))) (ll:l.length<=4) {v0 v1 v2 v3 v9 v10 v11 v12 v15 v17:AV} {k:List Fr} {Q:Jv}
 (h:∀ tl ver',Rk (S TV) k Q .norm ((0,v0)::(1,v1)::(2,v2)::(3,v3)::(9,v9)::(10,v10)::(11,v11)::(12,v12)::(15,v15)::(16,.ref A.length dx ver' 0 (l++QG rest).length)::(17,v17)::tl) ⟨A,false,L.set dx (.arr 3 ver' ((l++QG rest).map Pce.av))⟩) :
 Ru (S TV) (.seq Q0 (.ite (.s 141) Q1 .skip)) k Q [(0,v0),(1,v1),(2,v2),(3,v3),(9,v9),(10,v10),(11,v11),(12,v12),(15,v15),(16,.ref A.length dx ver 0 l.length),(17,v17),(18,.int .i64 rest)] ⟨A,false,L⟩:=by
 have hk:=fun st=>upV (up3 (ZNL rest st))
 unfold QG at h
 by_cases hp:0<rest
 ·have hh:=h [] (ver+1)
  rw [if_pos hp] at hh
  have hln:l.length=(l.map Pce.av).length:=by simp
  have e1:(l++[ZAs rest]).map Pce.av=l.map Pce.av++[(ZAs rest).av]:=by simp
  have e2:(l++[ZAs rest]).length=l.length+[(ZAs rest).av].length:=by simp
  have hll:(l.map Pce.av).length+[(ZAs rest).av].length<4294967296:=by simp only [List.length_map,List.length_singleton];omega
  rw [e1,e2] at hh
  repeat' (first|refine ZCC rfl rfl hd hln rfl rfl hll (by decide) ?_|refine ZE ?_|refine ZD ?_|refine ZF rfl ?_|refine ZA rfl ?_|refine ZC ?_|(refine QR rfl rfl (fun _=>?_) (fun _=>?_)<;>try (exfalso;omega))|refine ZV rfl ?_|refine Qa rfl rfl rfl rfl ?_|refine ZB rfl rfl rfl (hk _) ?_)
  all_goals try contradiction
  all_goals try (exfalso;omega)
  all_goals exact hh
 ·have hh:=h [(18,.int .i64 rest),(141,.bool false)] ver
  rw [if_neg hp,lN,ZYV hd] at hh
  repeat' (first|refine ZE ?_|refine ZD ?_|refine ZF rfl ?_|refine ZA rfl ?_|refine ZC ?_|(refine QR rfl rfl (fun _=>?_) (fun _=>?_)<;>try (exfalso;omega))|refine ZH rfl ?_|refine ZI ?_)
  all_goals try contradiction
  all_goals try (exfalso;omega)
  all_goals exact hh
structure PeM (A:List (Bool × List Blk)) (L:List Blk) (B0 B1 i15 dx cx:Nat) (r:AR) (ro:Ro) (R:AR) (ro2:Ro) (fr dd:List Nat) (ver:Nat) (l:List Pce):Prop where
 ha:Has ⟨A,false,L⟩ A.length B0 R
 hb:Has ⟨A,false,L⟩ A.length B1 r
 b15:L[i15]?=some (.arr 5 0 [ro.av])
 bd:L[dx]?=some (.arr 3 ver (l.map Pce.av))
 bc:L[cx]?=some (.arr 7 0 [Qz ro2 fr (slH dd)])
 ord:B0+5<B1/\B1+5<i15/\i15<dx/\dx<cx
 top:cx+1=L.length
theorem Zlo (b:Nat) (st:St) (ro:Ro) (fr dd:List Nat):ZY QD b st (Qz ro fr (.lit (dd.map Z6)))=some (Qz ro fr (.lit (dd.map Z6)),st):=rfl
theorem Znd (y:AV) (ro:Ro) (fr dd:List Nat):(Qu 7 y 0 7 (Qz ro fr (.lit (dd.map Z6)))).bind Jw=some (Qz ro fr (.lit (dd.map Z6))):=rfl
section
variable {O:Orc} {k:List Fr} {Q:Jv} {e:Env} {A:List (Bool × List Blk)} {L:List Blk} {keep:List Nat} {is:List QAbs.PI} {d:Nat}
theorem Zlp {a x:Opd} {y:AV} {ro:Ro} {fr dd:List Nat} (ha:Zc e a=some (.ptr A.length L.length 0 0 0)) (hx:Zc e x=some (Qz ro fr (.lit (dd.map Z6)))) (h:Is O is keep k Q e ⟨A,false,L++[Blk.arr 7 0 [Qz ro fr (.lit (dd.map Z6))]]⟩) :
 Is O (⟨none,none,false,.st 7 a x⟩::is) keep k Q e ⟨A,false,L++[Blk.arr 7 0 [y]]⟩ :=
 ZYB (L0:=L) (T:=[Blk.arr 7 0 [y]]) (ix:=0) (i:=0) (w:=7) (ver:=0) (es:=[y]) ha hx rfl rfl (Zlo _ _ _ _ _) (Znd _ _ _ _) (Xa _) h
end
theorem ZiQ {A:List (Bool × List Blk)} {L:List Blk} {B0 B1 i15 dx cx ver:Nat} {r R:AR} {ro ro2:Ro} {fr dd:List Nat} {l:List Pce} (hM:PeM A L B0 B1 i15 dx cx r ro R ro2 fr dd ver l) (ho:AROk r) (hg:GoodN r.nodes) {text:List UInt8} {rest:Int} (h0:0<=rest)
 (hP:PaOk r.nodes ro text (l++QG rest)) (hn:nw (ZAv r.nodes ro (l++QG rest))<=r.n) (hw:wrV (ZAv r.nodes ro (l++QG rest)) r=(R,ro2,fr)) (hd:Xy r.nodes ro (ZAv r.nodes ro (l++QG rest))=dd) (hO:AROk R) (hG:GoodN R.nodes) (hL:HL R)
 (hf1:fr.length<1000000000) (hd1:dd.length<1000000000) (ll:l.length<=4) {v0 v1 v2 v3 v9:AV} {k:List Fr} {Q:Jv}
 (hQ:∀ L',Rk (S TV) k Q .norm [(0,v0),(1,v1),(2,v2),(3,v3),(9,v9),(10,.ptr A.length (B0+5) 0 0 0),(12,.ptr A.length (B1+5) 0 0 0),(20,.lit ((YY R).map Z6)),(21,.int .i64 (YY R).length),(176,.bool false)] ⟨A,false,L'⟩) :
 Ru (S TV) (.seq (.seq Q0 (.ite (.s 141) Q1 .skip)) (.seq Jg (.seq (.seq Jh (.ite (.s 165) (.seq Ji .ret) .skip)) (.seq Jj (.seq (.seq Jl (.ite (.s 172) (.seq Jm .ret) .skip)) (.seq Jn (.block 2 (.loop p_quartolaw20_PatchEdits_43)))))))) k Q
  [(0,v0),(1,v1),(2,v2),(3,v3),(9,v9),(10,.ptr A.length (B0+5) 0 0 0),(11,.int .i64 0),(12,.ptr A.length (B1+5) 0 0 0),(15,.ptr A.length i15 0 0 0),(16,.ref A.length dx ver 0 l.length),(17,.ptr A.length cx 0 0 0),(18,.int .i64 rest)] ⟨A,false,L⟩:=by
 obtain ⟨o1,o2,o3,o4⟩:=hM.ord;have otop:=hM.top;refine ZE ?_
 refine ZpL h0 hM.bd ll (fun tl ver'=>?_)
 refine ZC ?_;obtain ⟨X,hX⟩:∃ X,X=L.set dx (.arr 3 ver' ((l++QG rest).map Pce.av)):=⟨_,rfl⟩
 have lX:X.length=L.length:=by rw [hX,List.length_set]
 have xd:X[dx]?=some (.arr 3 ver' ((l++QG rest).map Pce.av)):=by rw [hX];exact List.getElem?_set_self (by omega)
 have xo:∀ i,i≠dx->X[i]?=L[i]?:=fun i h=>by rw [hX,jS (fun q=>h q.symm)]
 have haX:Has ⟨A,false,X⟩ A.length B0 R:=hM.ha.frmL fun i h1 h2=>xo i (by omega)
 have hbX:Has ⟨A,false,X⟩ A.length B1 r:=hM.hb.frmL fun i h1 h2=>xo i (by omega)
 have x15:X[i15]?=some (.arr 5 0 [ro.av]):=by rw [xo _ (by omega)];exact hM.b15
 have xc:X[cx]?=some (.arr 7 0 [Qz ro2 fr (slH dd)]):=by rw [xo _ (by omega)];exact hM.bc
 rw [<- hX];clear hX xo;have hAp:=upV (up3 (ZnT hbX ho hg hP (Zdp xd rfl) hn));rw [hw,hd,ZEA] at hAp
 simp only at hAp
 obtain ⟨Y,hY⟩:∃ Y,Y=arL X A.length B1 R:=⟨_,rfl⟩
 have lY:Y.length=X.length:=by rw [hY,ZNN]
 have yo:∀ i,¬ (B1<=i/\i<=B1+5)->Y[i]?=X[i]?:=fun i h=>by rw [hY,ZQT _ h]
 have hbY:Has ⟨A,false,Y⟩ A.length B1 R:=by
  have:=hbX.put R
  rw [ZEA,<- hY] at this;exact this
 have haY:Has ⟨A,false,Y⟩ A.length B0 R:=haX.frmL fun i h1 h2=>yo i (by omega)
 have yc:Y[cx]?=some (.arr 7 0 [Qz ro2 fr (slH dd)]):=by rw [yo _ (by omega)];exact xc
 rw [<- hY] at hAp;clear hY yo haX hbX;have haZ:=haY.app [.arr 7 0 [Qz ro2 fr (.lit (dd.map Z6))]];have hbZ:=hbY.app [.arr 7 0 [Qz ro2 fr (.lit (dd.map Z6))]];have hHa:=upV (up3 (ZYR haZ.r hO));have hHb:=upV (up3 (ZYR hbZ.r hO));have hlh:=ZYU hO
 have hEH:=fun st=>upV (up3 (ZDF (YY R) (by omega) st))
 have hEC:=fun st=>upV (up3 (Zf7 ro2 fr dd hf1 hd1 st))
 have hLp:=Zjc (v0:=v0) (v1:=v1) (v2:=v2) (v3:=v3) (v9:=v9) haZ hbZ hG (hs:=YY R) hlh hL hQ
 have gc:∀ T,(Y++T)[cx]?=some (.arr 7 0 [Qz ro2 fr (slH dd)]):=fun T=>by rw [jL (by omega)];exact yc
 have gz:∀ b,(Y++[b])[Y.length]?=some b:=fun b=>List.getElem?_concat_length ..
 have p1:∀ d,Qm (Qz ro2 fr d) true 0 7=some (Qz ro2 fr d):=fun d=>rfl
 have p2:Qm ro.av true 0 5=some ro.av:=rfl
 generalize YY R=hs at *
 generalize (l++QG rest)=lr at *
 repeat' (first|refine ZP rfl x15 rfl p2 ?_|refine ZP rfl (gc _) rfl (p1 _) ?_|refine ZP rfl (gz _) rfl (p1 _) ?_|refine Zlp rfl rfl ?_|refine ZE ?_|refine ZD ?_|refine ZF rfl ?_|refine QE rfl ?_|refine Zo rfl rfl rfl rfl ?_|refine Zs rfl rfl ?_|refine ZA rfl ?_|refine ZC ?_|(refine Zk rfl rfl (fun _=>?_) (fun _=>?_)<;>try (exfalso;omega))|refine ZH rfl ?_|refine Jc rfl rfl ?_|refine Zw rfl rfl rfl ?_|refine ZB rfl rfl rfl (hAp) ?_|refine ZB rfl rfl rfl (hHa) ?_|refine ZB rfl rfl rfl (hHb) ?_|refine ZB rfl rfl rfl (hEH _) ?_|refine ZB rfl rfl rfl (hEC _) ?_|refine ZI ?_|refine ZL ?_)
 all_goals try contradiction
 all_goals try (exfalso;omega)
 all_goals exact hLp
theorem Zbc (b:Nat) (st:St) (ro:Ro) (fr dd:List Nat):ZY QD b st (Qz ro fr (slH dd))=some (Qz ro fr (slH dd),st):=by
 unfold slH Qz
 split<;>rfl
theorem Zf8 (y:AV) (ro:Ro) (fr dd:List Nat):(Qu 7 y 0 7 (Qz ro fr (slH dd))).bind Jw=some (Qz ro fr (slH dd)):=by
 unfold slH Qz
 split<;>rfl
theorem Znq {A:List (Bool × List Blk)} {L:List Blk} {a:Int} (h0:0<=a) {dx:Nat} (hd:L[dx]?=some (.arr 3 0 [])) {v0 v2 v3 v9 v10 v12 v14 v15 v17:AV} {k:List Fr} {Q:Jv}
 (h:∀ tl ver',Rk (S TV) k Q .norm ((0,v0)::(1,.int .i64 a)::(2,v2)::(3,v3)::(9,v9)::(10,v10)::(12,v12)::(14,v14)::(15,v15)::(16,.ref A.length dx ver' 0 (QG a).length)::(17,v17)::tl) ⟨A,false,L.set dx (.arr 3 ver' ((QG a).map Pce.av))⟩) :
 Ru (S TV) (.seq Je (.ite (.s 95) Jf .skip)) k Q [(0,v0),(1,.int .i64 a),(2,v2),(3,v3),(9,v9),(10,v10),(12,v12),(14,v14),(15,v15),(16,.ref A.length dx 0 0 0),(17,v17)] ⟨A,false,L⟩:=by
 have hk:=fun st=>upV (up3 (ZNL a st))
 unfold QG at h
 by_cases hp:0<a
 ·have hh:=h [] 1
  rw [if_pos hp] at hh
  repeat' (first|refine ZCC rfl rfl hd rfl rfl rfl (by simp) (by decide) ?_|refine ZE ?_|refine ZD ?_|refine ZF rfl ?_|refine ZA rfl ?_|refine ZC ?_|(refine QR rfl rfl (fun _=>?_) (fun _=>?_)<;>try (exfalso;omega))|refine ZV rfl ?_|refine Qa rfl rfl rfl rfl ?_|refine ZB rfl rfl rfl (hk _) ?_)
  all_goals try contradiction
  all_goals try (exfalso;omega)
  all_goals exact hh
 ·have hh:=h [(95,.bool false)] 0
  rw [if_neg hp] at hh;simp only [List.map_nil] at hh;rw [ZYV hd] at hh
  repeat' (first|refine ZE ?_|refine ZD ?_|refine ZF rfl ?_|refine ZA rfl ?_|refine ZC ?_|(refine QR rfl rfl (fun _=>?_) (fun _=>?_)<;>try (exfalso;omega))|refine ZH rfl ?_|refine ZI ?_)
  all_goals try contradiction
  all_goals try (exfalso;omega)
  all_goals exact hh
def peT:PC:=(D (D Q0 (E 141 Q1 .skip)) (D Jg (D (D Jh (E 165 (D Ji .ret) .skip)) (D Jj (D (D Jl (E 172 (D Jm .ret) .skip)) (D Jn (.block 2 (.loop p_quartolaw20_PatchEdits_43))))))))
def peM:PC:=.seq (D Je (E 95 Jf .skip)) (D XC (D (D XD (E 106 (D (D XE (E 108 (.exit 1) .skip)) (D XF XG)) (D (D XH (E 123 (.exit 1) .skip)) (D XI (D XJ XK))))) peT))
theorem Znr {text:List UInt8} (h9:text.length<=900) {a n:Int} {s:List UInt8} (hs:s.length<=300) (a0:0<=a) (n0:0<=n) (an:a+n<=text.length) :
 EdOk (peR text).nodes (Ym text) text a n s/\nw (edV (peR text).nodes (Ym text) a n s)<=(peR text).n/\AROk (peR text)/\GoodN (peR text).nodes/\AROk (wrV (edV (peR text).nodes (Ym text) a n s) (peR text)).1/\GoodN (wrV (edV (peR text).nodes (Ym text) a n s) (peR text)).1.nodes /\
  HL (wrV (edV (peR text).nodes (Ym text) a n s) (peR text)).1/\(wrV (edV (peR text).nodes (Ym text) a n s) (peR text)).2.2.length<1000000000:=by
 obtain ⟨hroom,w1,w2,w3⟩:=Znp h9;have o1:=w1.ok;have o2:=w1.good
 have hE:EdOk (peR text).nodes (Ym text) text a n s:=⟨w2,a0,n0,an,by omega,by omega⟩
 have hcl:=Zoh o2 hE (by omega)
 have h13:=w2.rt.h13 o2
 have hb1:=Zok (s:=text) (by omega)
 have hb2:=Zok (s:=s) (by omega)
 have hrn:=w1.n;have e:(QA 600 2).n=600:=rfl;obtain ⟨v1,v2,v3⟩:=hE.ok o2
 have hn:nw (edV (peR text).nodes (Ym text) a n s)<=(peR text).n:=by omega
 obtain ⟨w4,w5⟩:=ZiA (r:=peR text) (ZCH [] [] [] _) o1 o2 v1 (by rw [v2];omega) hn
 exact ⟨hE,hn,o1,o2,w4.ok,w4.good,w3.wr o1 w4.len hn,by rw [w4.len];omega⟩
theorem Zom {A:List (Bool × List Blk)} {L:List Blk} {text s:List UInt8} (h9:text.length<=900) (h3:s.length<=300) {a:Int} (a0:0<=a) (a1:a<=text.length) {B0 B1 i14 i15 dx cx:Nat} (hH:PeH A L B0 B1 i14 i15 dx cx (peR text) (Ym text)) {v2:AV} {k:List Fr} {Q:Jv}
 (hQ:∀ L' tl,Rk (S TV) k Q .norm ((0,.str text)::(1,.int .i64 a)::(2,v2)::(3,.str s)::(9,.int .i64 0)::tl) ⟨A,false,L'⟩) :
 Ru (S TV) peM (.blk 1::k) Q [(0,.str text),(1,.int .i64 a),(2,v2),(3,.str s),(9,.int .i64 0),(10,.ptr A.length (B0+5) 0 0 0),(12,.ptr A.length (B1+5) 0 0 0),(14,.ptr A.length i14 0 0 0),(15,.ptr A.length i15 0 0 0),(16,.ref A.length dx 0 0 0),(17,.ptr A.length cx 0 0 0)] ⟨A,false,L⟩:=by
 obtain ⟨o1,o2,o3,o4,o5⟩:=hH.ord;have otop:=hH.top;unfold peM;refine ZE ?_
 refine Znq a0 hH.bd (fun tl ver'=>?_)
 obtain ⟨X,hX⟩:∃ X,X=L.set dx (.arr 3 ver' ((QG a).map Pce.av)):=⟨_,rfl⟩
 have lX:X.length=L.length:=by rw [hX,List.length_set]
 have xd:X[dx]?=some (.arr 3 ver' ((QG a).map Pce.av)):=by rw [hX];exact List.getElem?_set_self (by omega)
 have xo:∀ i,i≠dx->X[i]?=L[i]?:=fun i h=>by rw [hX,jS (fun q=>h q.symm)]
 rw [<- hX]
 by_cases hs0:s=[]
 ·subst hs0
  repeat' (first|refine ZE ?_|refine ZD ?_|refine ZF rfl ?_|refine ZA rfl ?_|refine ZC ?_|refine JJ rfl ?_|(refine Zp rfl rfl (fun _=>?_) (fun _=>?_)<;>try (exfalso;omega))|(refine J9 rfl rfl (fun _=>?_) (fun _=>?_)<;>try contradiction)|refine ZV rfl ?_|refine JR rfl rfl (by omega) ?_|refine Zu ?_|refine Ze ?_|refine Zb rfl ?_)
  all_goals try contradiction
  all_goals try (exfalso;omega)
  all_goals exact hQ _ _
 obtain ⟨hE,hn,p1,p2,p3,p4,p5,p6⟩:=Znr h9 (n:=0) h3 a0 (Int.le_refl 0) (by omega)
 have hrt:=hE.rt
 obtain ⟨e1,e2,e3⟩:=ZbU (r:=peR text) p2 hrt (by omega) a0 a1 hs0 (by omega)
 have hP:=ZiG hrt (by omega) a0 a1 hs0 (by omega)
 have hdl:=ZIK p2 p1.lv hrt.rt (ZAv (peR text).nodes (Ym text) (ZIo a text.length s))
 have hpu:=fun st=>upV (up3 (ZiK s st))
 obtain ⟨Y,hY⟩:∃ Y,Y=X.set dx (.arr 3 (ver'+1) ((QG a).map Pce.av++[(ZGC s).av])):=⟨_,rfl⟩
 have lY:Y.length=L.length:=by rw [hY,List.length_set,lX]
 have yd:Y[dx]?=some (.arr 3 (ver'+1) ((QG a++[ZGC s]).map Pce.av)):=by rw [hY,List.map_append];exact List.getElem?_set_self (by omega)
 have yo:∀ i,i≠dx->Y[i]?=L[i]?:=fun i h=>by rw [hY,jS (fun q=>h q.symm),xo i h]
 have haY:Has ⟨A,false,Y⟩ A.length B0 (peR text):=hH.ha.frmL fun i h1 h2=>yo i (by omega)
 have hbY:Has ⟨A,false,Y⟩ A.length B1 (peR text):=hH.hb.frmL fun i h1 h2=>yo i (by omega)
 have y14:Y[i14]?=some (.arr 5 0 [(Ym text).av]):=by rw [yo _ (by omega)];exact hH.b14
 have y15:Y[i15]?=some (.arr 5 0 [(Ym text).av]):=by rw [yo _ (by omega)];exact hH.b15
 have yc:Y[cx]?=some (.arr 7 0 [chZ]):=by rw [yo _ (by omega)];exact hH.bc
 have hIn:=upV (up3 (Zle haY p1 p2 hE hn));rw [ZEA] at hIn;obtain ⟨R,hR⟩:∃ R,R=(wrV (edV (peR text).nodes (Ym text) a 0 s) (peR text)).1:=⟨_,rfl⟩;obtain ⟨ro2,hro2⟩:∃ x,x=(wrV (edV (peR text).nodes (Ym text) a 0 s) (peR text)).2.1:=⟨_,rfl⟩;obtain ⟨fr,hfr⟩:∃ x,x=(wrV (edV (peR text).nodes (Ym text) a 0 s) (peR text)).2.2:=⟨_,rfl⟩;obtain ⟨dd,hdd⟩:∃ x,x=Ys (peR text).nodes [Ym text] (edV (peR text).nodes (Ym text) a 0 s):=⟨_,rfl⟩
 have hw:wrV (ZAv (peR text).nodes (Ym text) (ZIo a text.length s)) (peR text)=(R,ro2,fr):=by rw [e1,hR,hro2,hfr]
 rw [<- hR,<- hro2,<- hfr,<- hdd] at hIn;rw [<- hR] at p3 p4 p5;rw [<- hfr] at p6;rw [<- hdd] at e3;rw [e3] at hdl;rw [<- e2] at hn;obtain ⟨Z,hZ⟩:∃ Z,Z=arL Y A.length B0 R:=⟨_,rfl⟩
 have lZ:Z.length=L.length:=by rw [hZ,ZNN,lY]
 have zo:∀ i,¬ (B0<=i/\i<=B0+5)->Z[i]?=Y[i]?:=fun i h=>by rw [hZ,ZQT _ h]
 have haZ:Has ⟨A,false,Z⟩ A.length B0 R:=by
  have:=haY.put R
  rw [ZEA,<- hZ] at this;exact this
 have zc:Z[cx]?=some (.arr 7 0 [chZ]):=by rw [zo _ (by omega)];exact yc
 rw [<- hZ] at hIn
 have hM:PeM A (Z.set cx (.arr 7 0 [Qz ro2 fr (slH dd)])) B0 B1 i15 dx cx (peR text) (Ym text) R ro2 fr dd (ver'+1) (QG a++[ZGC s]):=by
  have so:∀ i,i≠cx->(Z.set cx (.arr 7 0 [Qz ro2 fr (slH dd)]))[i]?=Z[i]?:=fun i h=>jS (fun q=>h q.symm)
  exact ⟨haZ.frmL fun i h1 h2=>so i (by omega),hbY.frmL fun i h1 h2=>by rw [so i (by omega),zo i (by omega)],by rw [so _ (by omega),zo _ (by omega)];exact y15,by rw [so _ (by omega),zo _ (by omega)];exact yd,List.getElem?_set_self (by omega),⟨by omega,by omega,by omega,by omega⟩,by rw [List.length_set];omega⟩
 have hT:=ZiQ hM p1 p2 (rest:=(text.length:Int)-a) (by omega) hP hn hw e3 p3 p4 p5 p6 (by omega) (by have:=(ZBc a a0).2.2.2;simp only [lL,List.length_singleton];omega) (v0:=.str text) (v1:=.int .i64 a) (v2:=v2) (v3:=.str s) (v9:=.int .i64 0) (k:=.blk 1::k) (Q:=Q) (fun L'=>Zy (hQ _ _))
 have hln:(QG a).length=((QG a).map Pce.av).length:=by simp
 have hll:((QG a).map Pce.av).length+[(ZGC s).av].length<4294967296:=by have:=(ZBc a a0).2.2.2;simp only [List.length_map,List.length_singleton];omega
 have e9:(QG a++[ZGC s]).length=(QG a).length+[(ZGC s).av].length:=by simp
 rw [e9] at hT;have p2':Qm (Ym text).av true 0 5=some (Ym text).av:=rfl;clear hM hP hn hw e1 e2 hE hrt
 generalize Ym text=ro at *
 generalize peR text=r at *
 generalize QG a=la at *
 repeat' (first|refine ZCC rfl rfl xd hln rfl rfl hll (by decide) ?_|refine ZE ?_|refine ZD ?_|refine ZF rfl ?_|refine ZA rfl ?_|refine ZC ?_|refine JJ rfl ?_|(refine Zp rfl rfl (fun _=>?_) (fun _=>?_)<;>try (exfalso;omega))|(refine J9 rfl rfl (fun _=>?_) (fun _=>?_)<;>try contradiction)|refine ZV rfl ?_|refine ZH rfl ?_|refine JR rfl rfl (by omega) ?_|refine Qa rfl rfl rfl rfl ?_|refine ZB rfl rfl rfl (hpu _) ?_|refine ZI ?_)
 all_goals try contradiction
 all_goals try (exfalso;omega)
 change Is _ _ _ _ _ _ ⟨A,false,X.set dx (.arr 3 (ver'+1) (la.map Pce.av++[(ZGC s).av]))⟩
 rw [<- hY];clear hY hZ;unfold peT
 repeat' (first|exact hT|refine ZP rfl y14 rfl p2' ?_|refine Qo zc rfl rfl rfl (Zbc _ _ _ _ _) (Zf8 _ _ _ _) ?_|refine ZF rfl ?_|refine Zs rfl rfl ?_|refine ZA rfl ?_|refine ZC ?_|refine ZB rfl rfl rfl (hIn) ?_)
 all_goals try contradiction
 all_goals try (exfalso;omega)
theorem ZQ3 (j:Nat):∀ L:List Blk,findH j (L++[Blk.hole j])=some L.length
 | []=>by simp [findH]
 | b::L=>by simp only [lC,findH,ZQ3 j L,List.length_cons]
section
variable {O:Orc} {k:List Fr} {Q:Jv} {e:Env} {A:List (Bool × List Blk)} {L L0 T T':List Blk} {keep:List Nat} {is:List QAbs.PI} {d:Nat}
theorem Zlq {js:List Nat} (hL:J3 (T++js.map Blk.hole)=some T') (h:Is O is keep k Q e ⟨A,false,L0++T'⟩):Ru O (.regH js keep is) k Q e ⟨A,false,L0++T⟩:=by
 rw [<- Qk hL,<- List.append_assoc] at h;exact Zhz h
theorem Zne {w:Nat} {z1 z2 z3 v1 v2 v3:AV} {x1 x2 x3:Opd} (h1:Zc e x1=some v1) (h2:Zc e x2=some v2) (h3:Zc e x3=some v3) (w1:v1.wide=some w) (w2:v2.wide=some w) (w3:v3.wide=some w) (i1:imm 6 v1=true) (i2:imm 6 v2=true) (i3:imm 6 v3=true) {st:St} (h:Is O is keep k Q ((d,.lit [v1,v2,v3])::e) st) :
 Is O (⟨some d,none,false,.w .imm (.bslice false w [z1,z2,z3] [(0,x1),(1,x2),(2,x3)])⟩::is) keep k Q e st:=by
 refine Z1 (od:=some d) (v:=.lit [v1,v2,v3]) (st':=st) ?_ h
 have hf:fillE w [z1,z2,z3] [(0,v1),(1,v2),(2,v3)]=some [v1,v2,v3]:=by simp [fillE,w1,w2,w3]
 simp only [Zf,QB,Zd4,JM,ZG h1,ZG h2,ZG h3,hf,oS,ZUO,List.all_cons,List.all_nil,i1,i2,i3,Bool.and_self,if_true,List.isEmpty_cons,jB,if_false]
theorem Zf9 {j w:Nat} {x:Opd} {v:AV} {L1:List Blk} (hx:Zc e x=some v) (hw:v.wide=some w) (h:Is O is keep k Q ((d,.ptr A.length L1.length 0 0 0)::e) ⟨A,false,L1++[Blk.arr w 0 [v]]⟩) :
 Is O (⟨some d,none,false,.w (.here j) (.box x)⟩::is) keep k Q e ⟨A,false,L1++[Blk.hole j]⟩:=by
 have hf:findH j (L1++[Blk.hole j])=some L1.length:=ZQ3 j L1;refine Z1 (v:=.ptr A.length L1.length 0 0 0) (st':=⟨A,false,L1++[Blk.arr w 0 [v]]⟩) ?_ h;simp only [Zf,QB,newOf,ZG hx,hw,oS,ZUN,Zd3,and_self,if_true,hf,ZUM]
 simp
end
theorem Zjd (st:St):S TV YJ [] st=some (.bool true,st):=by
 refine QJ rfl (fun A hA=>?_)
 obtain ⟨o1,o2,o3⟩:=exU_ok;have hS:=upV (up3 (ZjZ A))
 have hP:=ZiG o3 (by decide) (a:=9) (by decide) (by decide) (s:=[120,121,122]) (by decide) (by decide)
 have al:=ZbU (r:=exUR) o2 o3 (by decide) (a:=9) (by decide) (by decide) (s:=[120,121,122]) (by decide) (by decide)
 obtain ⟨a1,a2,a3⟩:=al;have e17:((exU.length:Nat):Int)=17:=rfl;rw [e17] at hP a1 a2 a3
 have hn:nw (ZAv exUR.nodes exURo (ZIo 9 17 [120,121,122]))<=exUR.n:=by rw [a2];exact ZiJ
 obtain ⟨v1,v2,v3⟩:=exU_edOk.ok o2
 obtain ⟨w1,w2⟩:=ZiA (r:=exUR) (ZCH [] [] [] _) o1 o2 v1 (by rw [v2];decide) ZiJ
 have hI:=fun T=>ZnV (st:=⟨A++[(false,[.arr 5 0 [exURo.av]]++(arB A.length 1 exUR++T))],false,[]⟩) ((ZCH A [.arr 5 0 [exURo.av]] T exUR).push (A:=A++[(false,[.arr 5 0 [exURo.av]]++(arB A.length 1 exUR++T))]) rfl) o1 o2 hP hn
 rw [a1,a3] at hI
 have hl:(ZIo 9 17 [120,121,122]).map Pce.av=[(ZAs 9).av,(ZGC [120,121,122]).av,(ZAs 8).av]:=by rw [ZpI];rfl
 rw [hl] at hI
 have hV:=fun hx T=>ZjY (x:=exURo) w1.good (ZCH A [.arr 5 0 [exURo.av]] T (wrV (edV exUR.nodes exURo 9 0 [120,121,122]) exUR).1).r.rd hx w2.rt
 rw [ZpJ] at hV
 generalize Ys exUR.nodes [exURo] (edV exUR.nodes exURo 9 0 [120,121,122])=dd at *
 generalize edV exUR.nodes exURo 9 0 [120,121,122]=t at *
 generalize (wrV t exUR).2.2=fr at *
 generalize (wrV t exUR).2.1=r2 at *
 generalize (wrV t exUR).1=R2 at *
 have hI2:∀ T,Qf (S TV) .inner Yt [.ptr A.length 6 0 0 0,exURo.av,.lit [(ZAs 9).av,(ZGC [120,121,122]).av,(ZAs 8).av]] ⟨A,false,.arr 5 0 [exURo.av]::exUR.b0::exUR.b1::exUR.b2::exUR.b3 A.length 1::exUR.b4::exUR.b5 A.length 1::T⟩ =
  some (.tup [Qz r2 fr (.lit (dd.map Z6)),.int .i64 0],⟨A,false,.arr 5 0 [exURo.av]::R2.b0::R2.b1::R2.b2::R2.b3 A.length 1::R2.b4::R2.b5 A.length 1::T⟩):=fun T=>by
  have h:=upV (up3 (hI T));have ep:=YV (st:=⟨A,false,[.arr 5 0 [exURo.av]]++(arB A.length [Blk.arr 5 0 [exURo.av]].length exUR++T)⟩) (A:=A++[(false,[.arr 5 0 [exURo.av]]++(arB A.length [Blk.arr 5 0 [exURo.av]].length exUR++T))]) (ro:=false) (L:=[]) (lv:=A.length) (b:=[Blk.arr 5 0 [exURo.av]].length) rfl (Nat.le_refl _) (r':=R2);have e:=Zfh A [.arr 5 0 [exURo.av]] T exUR R2;rw [e] at ep
  have h2:=h.trans (congrArg (fun s=>some (AV.tup [Qz r2 fr (.lit (dd.map Z6)),.int .i64 0],s)) ep)
  exact Zna h2 (by rfl)
 have hxo:=o3.rt.ext w1.ext;have hV2:=hV hxo
 change ∀ T,S TV J6 [.ptr A.length 6 0 0 0,exURo.av,r2.av] ⟨A,false,.arr 5 0 [exURo.av]::R2.b0::R2.b1::R2.b2::R2.b3 A.length 1::R2.b4::R2.b5 A.length 1::T⟩=some (_,⟨A,false,.arr 5 0 [exURo.av]::R2.b0::R2.b1::R2.b2::R2.b3 A.length 1::R2.b4::R2.b5 A.length 1::T⟩) at hV2
 change S TV YK [] ⟨A,false,[]⟩=some (_,⟨A,false,.arr 5 0 [exURo.av]::exUR.b0::exUR.b1::exUR.b2::exUR.b3 A.length 1::exUR.b4::exUR.b5 A.length 1::[.arr 5 0 [exURo.av]]⟩) at hS
 clear hI hV hP hn a1 a2 a3 v1 v2 v3
 generalize exUR.b0=b0 at *
 generalize exUR.b1=b1 at *
 generalize exUR.b2=b2 at *
 generalize exUR.b3 A.length 1=b3 at *
 generalize exUR.b4=b4 at *
 generalize exUR.b5 A.length 1=b5 at *
 generalize R2.b0=c0 at *
 generalize R2.b1=c1 at *
 generalize R2.b2=c2 at *
 generalize R2.b3 A.length 1=c3 at *
 generalize R2.b4=c4 at *
 generalize R2.b5 A.length 1=c5 at *
 obtain ⟨x1,x2,x3⟩:=r2;unfold Qz at hI2
 unfold exURo Ro.av at *
 have hk9:=fun st=>upV (up3 (ZNL 9 st))
 have hk8:=fun st=>upV (up3 (ZNL 8 st))
 have hpu:=fun st=>upV (up3 (ZiK [120,121,122] st))
 repeat' (first|refine ZE ?_|refine ZD ?_|refine ZF rfl ?_|refine Zs rfl rfl ?_|refine ZA rfl ?_|refine ZC ?_|refine ZH rfl ?_|refine Jc rfl rfl ?_|refine Za rfl rfl rfl ?_|refine Zl rfl rfl rfl rfl rfl rfl ?_|refine ZB rfl rfl rfl (hS) ?_|refine ZI ?_)
 all_goals try contradiction
 refine Zlq (L0:=[]) rfl ?_;simp only [lE,List.length_cons,List.length_nil,Nat.zero_add,Nat.reduceAdd];refine ZF rfl ?_;refine ZP rfl rfl rfl rfl ?_;refine Zdv rfl rfl rfl hk9 ?_;refine Zdv rfl rfl rfl hpu ?_;refine Zdv rfl rfl rfl hk8 ?_;refine Zne rfl rfl rfl rfl rfl rfl rfl rfl rfl ?_;refine Zka rfl rfl rfl (hI2 _) ?_
 repeat' (first|refine Zf9 (L1:=[_,_,_,_,_,_,_,_,_]) rfl rfl ?_|refine ZE ?_|refine ZD ?_|refine ZF rfl ?_|refine ZQ rfl rfl ?_|refine ZP rfl rfl rfl rfl ?_|refine QE rfl ?_|refine Zo rfl rfl rfl rfl ?_|refine Zs rfl rfl ?_|refine ZA rfl ?_|refine ZC ?_|(refine Zp rfl rfl (fun _=>?_) (fun _=>?_)<;>try (exfalso;omega))|refine Yf rfl rfl rfl rfl rfl rfl ?_|refine ZB rfl rfl rfl (hV2 _) ?_|refine ZS ?_|refine ZO ?_)
 all_goals try contradiction
 all_goals refine Zj hA (by first|exact .inl rfl|exact .inr rfl) rfl rfl rfl rfl ?_
 all_goals rfl
def Znf (texts:List (List UInt8)) (ys:List Ed):Prop:=Zfi texts\/ZiB ys\/12<ys.length
noncomputable instance (texts:List (List UInt8)) (ys:List Ed):Decidable (Znf texts ys):=Classical.propDecidable _
theorem Zlr (x n:Int) (h0:0<=n) (h1:n<4611686018427387904) (st:St):S Tb Yg [.int .i64 x,.int .i64 n] st=some (.int .i64 (ZQ0 x n),st):=by
 refine QJ rfl (fun A hA=>?_)
 have hP:=fun st=>ZoS x n h0 h1 st
 repeat' (first|refine ZE ?_|refine ZD ?_|refine ZF rfl ?_|refine ZA rfl ?_|refine ZC ?_|refine ZB rfl rfl rfl (hP _) ?_|refine ZS ?_|refine ZO ?_)
 refine Zj hA (by first|exact .inl rfl|exact .inr rfl) rfl rfl rfl rfl ?_
 rfl
end Go.Q15
