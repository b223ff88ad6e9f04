/- A part of the proof: CVg, RNa, S8, RNb, CTa, CTb, CTc, CUn, CTd, FY, SHJ, TZa, TZt. No condition. -/
import Derived.RangeFuncNested
import Derived.RangeFuncBound
import Derived.RangeFuncCalls
import Derived.RangeFuncLeaves
import Derived.RangeFuncFrom
import Derived.Shelf.Abstract
import Derived.WalkKit
import Derived.OwnWalkIn
import Derived.TacticsInMore
import Derived.LoopNIn
import Derived.LoopIn
import Derived.Test.YtleajkoecgbnlaaGreatProg
import Derived.Lib.Index
import Derived.Lib.Bytealg
import Derived.SliceStrings
import Derived.Deep.Slices
import Derived.Carry
import Derived.Shelf.Strings.OnBuilder
import Derived.Test.YtleajkoecgbnlaaGreatCtT9
import Derived.Test.YtleajkoecgbnlaaGreatCtT0
set_option linter.unusedSectionVars false
set_option linter.unusedVariables false
set_option linter.unusedSimpArgs false
namespace Go.Q15
open Go Go.QAbs
set_option maxRecDepth 100000
set_option maxHeartbeats 8000000
section
variable {A:List (Bool × List Blk)} {X X':List Blk} {ic li la b im:Nat} {r:Ro} {N M:ZQ} {s:List UInt8} {a:Nat} {vis:Int}
theorem CurA.grow (hc:CurA A X ic li la b im r N s a vis) (hN:GoodN N) (hE:Ext N M) (h:Rt N r s) (h1:X'[ic]?=X[ic]?) (h2:X'[li]?=X[li]?) (hR:RdM ⟨A,false,X'⟩ la (b+5) im M):CurA A X' ic li la b im r M s a vis:=by
 refine ⟨?_,hR⟩
 rcases hc.ex with ⟨e1,e2,e3,q⟩|⟨h0,q⟩
 ·exact .inl ⟨e1,e2,e3,h1.trans q⟩
 ·refine .inr ⟨h0,?_,hR,q.n5,q.nm,q.la⟩
  obtain ⟨ver,es,wc⟩:=q.ex
  refine ⟨ver,es,⟨wc.cl.nd,rfl,fun k hk=>?_,fun j lv ix c q1 q2=>?_⟩,wc.le,?_⟩
  ·simp only [List.mem_cons,List.not_mem_nil,or_false] at hk
   rcases hk with rfl|rfl<;>simp [St.wr]
  ·have g:=wc.cl.get j lv ix c q1 q2
   match j,q1,q2 with
   | 0,q1,q2=>obtain ⟨rfl,rfl⟩:=Prod.mk.inj (Option.some.inj q1);rw [St.get_cur] at g ⊢;rw [h1];exact g
   | 1,q1,q2=>obtain ⟨rfl,rfl⟩:=Prod.mk.inj (Option.some.inj q1);rw [St.get_cur] at g ⊢;rw [h2];exact g
   | n+2,q1,q2=>simp at q1
  ·rw [wc.es,Zmc hN hE h h0]
theorem ZpH (hN:GoodN N) (h:Rt N r s) (hs:s.length<=100000) (hR:RdM ⟨A,false,X⟩ la (b+5) im N) (hla:la<=A.length) :
 ∃ X' ic li,S Tb ZAL [.ptr la (b+5) 0 0 0,r.av] ⟨A,false,X⟩=some (.tup [.ptr A.length ic 0 0 0,.int .i64 0],⟨A,false,X'⟩)/\X.length<=ic/\X.length<=li/\ic<X'.length/\li<X'.length/\X.length<=X'.length/\(∀ i,i<X.length->X'[i]?=X[i]?)/\CurA A X' ic li la b im r N s 0 (if r.at_=0 then 0 else ((r.h+1:Nat):Int)):=by
 obtain ⟨X',ic,h1,h2,h3,h4,h5⟩:=ZiV hN h hs hR hla
 have hin:RdM ⟨A,false,X'⟩ la (b+5) im N:=by
  obtain ⟨b0,b1,b3,b4,b5,k1,k2⟩:=hR
  have key:∀ lv ix c,St.get ⟨A,false,X⟩ lv ix=some c->St.get ⟨A,false,X'⟩ lv ix=some c:=by
   intro lv ix c q;rw [St.get] at q ⊢
   simp only at q ⊢
   by_cases w:lv=A.length
   ·rw [if_pos w] at q ⊢
    rw [h4 ix (ZDA q)];exact q
   ·rw [if_neg w] at q ⊢;exact q
  exact ⟨b0,b1,b3,b4,b5,key _ _ _ k1,key _ _ _ k2⟩
 rcases h5 with ⟨z,w⟩|⟨z,li,h6,w⟩
 ·have hz : r = .zero := by
   rcases h.rt with e|e
   ·exact e
   ·exact absurd z e.1
  have hlt:=(List.getElem?_eq_some_iff.1 w).1;rw [if_pos z]
  exact ⟨X',ic,ic,h1,h2,h2,hlt,hlt,h3,h4,⟨.inl ⟨hz,rfl,rfl,by rw [w,hz]⟩,hin⟩⟩
 ·rw [if_neg z]
  obtain ⟨ver,es,wc⟩:=w.ex;have g0:=wc.cl.get 0 _ _ _ rfl rfl;have g1:=wc.cl.get 1 _ _ _ rfl rfl;rw [St.get_cur] at g0 g1;exact ⟨X',ic,li,h1,h2,h6,ZDA g0,ZDA g1,h3,h4,⟨.inr ⟨z,w⟩,hin⟩⟩
end
end Go.Q15
namespace Go.QAbs
open Go.RowKit (Below)
end Go.QAbs
namespace Go.QAbs
open Go.RowKit (Below)
open Go.Proofs (ZFo)
def nextV:List AV->Option AV
 | [.str s,.int .i64 (.ofNat a)]=>if a<s.length/\s.length<1000000000 then (ZFo ⟨s.toArray⟩ (s.length+1-(a+1)) (a+1)).map fun (b:Nat)=>AV.tup [.int .i64 b,.bool true] else none
 | _=>none
def ZTp (args:List AV) (st:St):Option (AV × St):=(nextV args).map fun v=>(v,st)
theorem nextO_frame (args:List AV):(∃ v,∀ st,ZTp args st=some (v,st))\/∀ st,ZTp args st=none:=by
 unfold ZTp
 cases nextV args with
 | none=>exact .inr fun st=>rfl
 | some v=>exact .inl ⟨v,fun st=>rfl⟩
theorem ZrU:ZXN Proofs.Tryz.prog 54 (.base ZTp):=by
 refine ⟨fun args=>?_,?_⟩
 ·rcases nextO_frame args with ⟨v,hv⟩|hv
  ·exact (FrP.ret v).congr hv
  ·exact FrP.nope.congr hv
 intro args st v st' h W0 B0 ρ W xs hk hr hx;unfold ZTp at h;obtain ⟨v0,h0,h⟩:=Option.map_eq_some_iff.1 h;simp only [jP] at h;obtain ⟨rfl,rfl⟩:=h;unfold nextV at h0
 split at h0
 ·rename_i s a
  split at h0
  ·rename_i hb
   obtain ⟨b,h1,rfl⟩:=Option.map_eq_some_iff.1 h0;obtain ⟨x,ys,rfl,hx1,hx2⟩:=hx.cons_inv;obtain ⟨y,zs,rfl,hy1,hy2⟩:=hx2.cons_inv;obtain rfl:=hy2.nil_inv;have hxs:=YL hx1;subst hxs;have hy:=YK hy1;subst hy
   have hC:=(callsIn_wide (n:=4)).1 (Proofs.Tryz.next_in .wide 4 trivial trivial trivial trivial trivial rfl (by omega) ⟨s.toArray⟩ a b W (by simpa [ByteArray.size] using hb.1) (by simpa [ByteArray.size] using hb.2) (by simpa [ByteArray.size] using h1))
   refine hC.mono ?_
   rintro e' W' ⟨rfl,hB⟩
   have hrl:RL (cx st ρ W' st.A.length) [AV.int .i64 (b:Nat),.bool true] [Value.int .i64 (b:Nat),.bool true]:=.cons (.int _ _) (.cons (.bool _) (.nil _));exact ⟨_,ρ,rfl,ZhR hr hB,.tup (xs:=[_,_]) hrl.1 hrl.2⟩
  ·simp at h0
 ·simp at h0
end Go.QAbs
namespace Go.Q15
open Go Go.QAbs
open Go.Proofs (ZFo Za2)
set_option maxRecDepth 100000
set_option maxHeartbeats 8000000
theorem Zme (c:UInt8):(decide (128<=(c.toNat:Int)) && decide ((c.toNat:Int)<=191))=XU c:=by
 unfold XU;rw [Bool.eq_iff_iff];simp only [Bool.and_eq_true,decide_eq_true_eq];omega
theorem Zsn {s:List UInt8} {k:Nat} {c:UInt8} (h:s[k]?=some c):Za2 ⟨s.toArray⟩ k=!XU c:=by
 obtain ⟨hk,rfl⟩:=List.getElem?_eq_some_iff.1 h
 have hs:k<(⟨s.toArray⟩:ByteArray).size:=by simpa [ByteArray.size] using hk
 unfold Za2;rw [dif_pos hs,<- Zme];rfl
theorem ZrV (s:List UInt8):Za2 ⟨s.toArray⟩ s.length=true:=by
 have hs:¬ s.length<(⟨s.toArray⟩:ByteArray).size:=by simp [ByteArray.size]
 unfold Za2;rw [dif_neg hs]
 simp [ByteArray.size]
theorem ZlL {s:List UInt8}:∀ (f k n:Nat),1<=n->k+f=s.length+1->k<=s.length->ZFo ⟨s.toArray⟩ f k=some (k+J2 YH n (s.drop k))
 | 0,k,n,hn,h1,h2=>by omega
 | f+1,k,n,hn,h1,h2=>by
  have hsz:(⟨s.toArray⟩:ByteArray).size=s.length:=by simp [ByteArray.size]
  rw [ZFo,hsz,if_neg (by omega)]
  rcases Nat.eq_or_lt_of_le h2 with he|hl
  ·subst he
   rw [ZrV,if_pos rfl,List.drop_length];rfl
  ·obtain ⟨c,hc⟩:∃ c,s[k]?=some c:=⟨_,jE hl⟩
   have hp:YH n c=XU c:=by unfold YH;rw [decide_eq_false (by omega)];rfl
   rw [Zsn hc,ZBU hc,J2,hp]
   cases hb:XU c with
   | false=>simp
   | true =>
    have:=ZlL (s:=s) f (k+1) (n+1) (by omega) (by omega) (by omega)
    simp only [Bool.not_true,jB,if_false,if_true];rw [this]
    congr 1
    omega
def ptF (s:List UInt8) (a:Nat):Nat:=J2 YH 0 (s.drop a)
theorem ZH1 {s:List UInt8} {a:Nat} (h:a<s.length):1<=ptF s a/\a+ptF s a<=s.length:=by
 obtain ⟨c,hc⟩:∃ c,s[a]?=some c:=⟨_,jE h⟩;have h1:=ZQb YH (s.drop a) 0;rw [List.length_drop] at h1
 refine ⟨?_,by unfold ptF;omega⟩
 unfold ptF
 rw [ZBU hc,J2,if_pos (by unfold YH;simp)]
 omega
theorem ZrW {s:List UInt8} {a:Nat} (h:a<s.length) (hs:s.length<1000000000) (st:St):ZTp [.str s,.int .i64 a] st=some (.tup [.int .i64 ((a+ptF s a:Nat):Int),.bool true],st):=by
 obtain ⟨c,hc⟩:∃ c,s[a]?=some c:=⟨_,jE h⟩
 have h1:=ZlL (s:=s) (s.length+1-(a+1)) (a+1) 1 (by omega) (by omega) (by omega)
 have h2:ptF s a=1+J2 YH 1 (s.drop (a+1)):=by
  unfold ptF
  rw [ZBU hc,J2,if_pos (by unfold YH;simp)]
 show ((nextV [.str s,.int .i64 (.ofNat a)]).map fun v=>(v,st))=_
 rw [nextV,if_pos ⟨h,hs⟩,h1,h2,Nat.add_assoc];rfl
theorem ZpI:∀ (l:List UInt8) (n i:Nat) (c:UInt8),1<=n->i<J2 YH n l->l[i]?=some c->XU c=true
 | [],n,i,c,hn,h,hc=>by simp at hc
 | b::l,n,i,c,hn,h,hc=>by
  rw [J2] at h
  have hp:YH n b=XU b:=by unfold YH;rw [decide_eq_false (by omega)];rfl
  rw [hp] at h
  split at h
  ·rename_i q
   cases i with
   | zero=>simp at hc;rw [<- hc];exact q
   | succ i=>exact ZpI l (n+1) i c (by omega) (by omega) (by simpa using hc)
  ·omega
def Beg (s:List UInt8) (a:Nat):Prop:=a=0\/∀ c,s[a]?=some c->XU c=false
theorem ZlM:∀ (l:List UInt8) (n:Nat) (c:UInt8),1<=n->l[J2 YH n l]?=some c->XU c=false
 | [],n,c,hn,hc=>by simp at hc
 | b::l,n,c,hn,hc=>by
  have hp:YH n b=XU b:=by unfold YH;rw [decide_eq_false (by omega)];rfl
  rw [J2,hp] at hc
  cases hb:XU b with
  | false =>
   rw [hb] at hc
   simp at hc
   rw [<- hc];exact hb
  | true =>
   rw [hb,if_pos rfl,Nat.add_comm] at hc
   exact ZlM l (n+1) c (by omega) (by simpa using hc)
theorem Beg.next {s:List UInt8} {a:Nat} (h:a<s.length):Beg s (a+ptF s a):=by
 obtain ⟨c,hc⟩:∃ c,s[a]?=some c:=⟨_,jE h⟩
 right
 intro d hd
 have h2:ptF s a=1+J2 YH 1 (s.drop (a+1)):=by
  unfold ptF
  rw [ZBU hc,J2,if_pos (by unfold YH;simp)]
 refine ZlM (s.drop (a+1)) 1 d (by omega) ?_
 rw [List.getElem?_drop];rw [h2] at hd;rw [<- hd]
 congr 1
 omega
theorem ZlN:∀ (l m:List UInt8) (b:UInt8),(∀ c∈l,XU c=true)->(XU b=false\/m=[])->ZEk (l++b::m)=l.length+1
 | [],m,b,_,h=>by
  rw [lE,ZEk]
  rcases h with h|rfl
  ·rw [h];simp
  ·simp [ZEk]
 | c::l,m,b,h1,h2=>by
  rw [lC,ZEk,if_pos (h1 c (by simp)),ZlN l m b (fun z hz=>h1 z (by simp [hz])) h2,List.length_cons]
  omega
theorem ZpJ {s:List UInt8} {a:Nat} (h:a<s.length) (hb:Beg s a):ZEk (s.take (a+ptF s a)).reverse=ptF s a:=by
 obtain ⟨c,hc⟩:∃ c,s[a]?=some c:=⟨_,jE h⟩;obtain ⟨p1,p2⟩:=ZH1 h
 have h2:ptF s a=1+J2 YH 1 (s.drop (a+1)):=by
  unfold ptF
  rw [ZBU hc,J2,if_pos (by unfold YH;simp)]
 have e:s.take (a+ptF s a)=s.take a++c::(s.drop (a+1)).take (ptF s a-1):=by
  rw [List.take_add,ZBU hc,show ptF s a=(ptF s a-1)+1 by omega,List.take_succ_cons]
  simp
 rw [e,List.reverse_append,List.reverse_cons,List.append_assoc,List.singleton_append];rw [ZlN ((s.drop (a+1)).take (ptF s a-1)).reverse (s.take a).reverse c]
 ·rw [List.length_reverse,List.length_take,List.length_drop];omega
 ·intro z hz
  rw [List.mem_reverse] at hz;obtain ⟨i,hi,hz⟩:=List.mem_iff_getElem.1 hz;have hi2:=hi;rw [List.length_take] at hi2
  refine ZpI (s.drop (a+1)) 1 i z (by omega) (by omega) ?_
  rw [<- hz,List.getElem_take,jE]
 ·rcases hb with rfl|hb
  ·right;simp
  ·left;exact hb c hc
inductive Pts (s:List UInt8):Nat->List (List UInt8)->Prop
 | nil:Pts s 0 []
 | snoc {a ps} (h:Pts s a ps) (ha:a<s.length):Pts s (a+ptF s a) (ps++[(s.drop a).take (ptF s a)])
theorem Pts.beg {s:List UInt8} {a:Nat} {ps:List (List UInt8)} (h:Pts s a ps):Beg s a/\a<=s.length/\ps.length<=a:=by
 induction h with
 | nil=>exact ⟨.inl rfl,Nat.zero_le _,Nat.le_refl _⟩
 | snoc h ha ih =>
  obtain ⟨p1,p2⟩:=ZH1 ha
  exact ⟨.next ha,p2,by rw [lL,List.length_singleton];omega⟩
theorem Pts.last {s:List UInt8} {e:Nat} {ps:List (List UInt8)} {p:List UInt8} (h:Pts s e (ps++[p])):∃ a,Pts s a ps/\a<s.length/\e=a+ptF s a/\p=(s.drop a).take (ptF s a):=by
 generalize hq:ps++[p]=q at h
 cases h with
 | nil=>simp at hq
 | @snoc a qs h ha =>
  obtain ⟨rfl,h2⟩:=List.append_inj' hq rfl;simp only [List.cons.injEq,and_true] at h2;exact ⟨a,h,ha,rfl,h2⟩
theorem Pts.zero {s:List UInt8} {e:Nat} (h:Pts s e []):e=0:=by
 generalize hq:([]:List (List UInt8))=q at h
 cases h with
 | nil=>rfl
 | snoc h ha=>simp at hq
end Go.Q15
namespace Go.Q15
open Go Go.QAbs
set_option maxRecDepth 100000
set_option maxHeartbeats 8000000
def ZrX (c:UInt8):Int:=if 244<c.toNat then 0 else if 240<=c.toNat then 4 else if 224<=c.toNat then 3 else if 194<=c.toNat then 2 else if c.toNat<128 then 1 else 0
theorem Zic (c:UInt8) (st:St):S Tb ZAP [.int .u8 c.toNat] st=some (.int .i64 (ZrX c),st):=by
 refine Z9 rfl (fun A hA=>?_)
 repeat' (first|refine ZE ?_|refine ZD ?_|refine ZG rfl ?_|refine ZB rfl ?_|refine ZC ?_|(refine Zg rfl rfl (fun _=>?_) (fun _=>?_)<;>try (exfalso;omega))|(refine QD rfl rfl (fun _=>?_) (fun _=>?_)<;>try (exfalso;omega))|(refine JQ rfl rfl (fun _=>?_) (fun _=>?_)<;>try (exfalso;omega))|refine ZS rfl ?_|refine ZF rfl ?_|refine Zm rfl rfl (by omega) ?_|refine ZH ?_|refine ZO ?_|refine Zu ?_|refine ZP ?_|refine ZL ?_|refine Zh ?_|refine Z7 ?_|refine Zc rfl ?_|refine ZLZ rfl ?_)
 all_goals try (exfalso;omega)
 all_goals refine ZX hA (by first|exact .inl rfl|exact .inr rfl) rfl rfl rfl rfl ?_
 all_goals unfold ZrX
 all_goals (repeat' split)
 all_goals first|rfl|(exfalso;omega)
theorem Zid (c:UInt8) (st:St):S Tb Yu [.int .u8 c.toNat] st=some (.bool (XU c),st):=by
 refine Z9 rfl (fun A hA=>?_)
 unfold XU
 repeat' (first|refine ZE ?_|refine ZD ?_|refine ZG rfl ?_|refine Z2 rfl ?_|refine Q9 rfl rfl ?_|refine Zf rfl rfl rfl rfl ?_|refine ZB rfl ?_|refine ZC ?_|(refine ZAu rfl rfl (fun _=>?_) (fun _=>?_)<;>try (exfalso;omega))|(refine JQ rfl rfl (fun _=>?_) (fun _=>?_)<;>try (exfalso;omega))|refine ZO ?_|refine ZL ?_)
 all_goals refine ZX hA (by first|exact .inl rfl|exact .inr rfl) rfl rfl rfl rfl ?_
 ·rw [decide_eq_true (by omega)]
 ·rw [decide_eq_false (by omega)]
 ·rw [decide_eq_false (by omega)]
def lenV (r:Int):Int:=if r<0\/1114111<r\/(55296<=r/\r<=57343) then 0 else if r<128 then 1 else if r<2048 then 2 else if r<65536 then 3 else 4
theorem ZpK (r:Int) (st:St):S Tb ZDG [.int .i64 r] st=some (.int .i64 (lenV r),st):=by
 refine Z9 rfl (fun A hA=>?_)
 repeat' (first|refine ZE ?_|refine ZD ?_|refine ZG rfl ?_|refine Z2 rfl ?_|refine Q9 rfl rfl ?_|refine Zrc rfl ?_|refine Zf rfl rfl rfl rfl ?_|refine ZB rfl ?_|refine ZC ?_|(refine Zg rfl rfl (fun _=>?_) (fun _=>?_)<;>try (exfalso;omega))|(refine ZAu rfl rfl (fun _=>?_) (fun _=>?_)<;>try (exfalso;omega))|(refine QD rfl rfl (fun _=>?_) (fun _=>?_)<;>try (exfalso;omega))|(refine JQ rfl rfl (fun _=>?_) (fun _=>?_)<;>try (exfalso;omega))|refine ZS rfl ?_|refine ZF rfl ?_|refine ZH ?_|refine ZO ?_|refine ZP ?_|refine ZL ?_|refine ZU ?_|refine Z7 ?_|refine QF ?_)
 all_goals try (exfalso;omega)
 all_goals refine ZX hA (by first|exact .inl rfl|exact .inr rfl) rfl rfl rfl rfl ?_
 all_goals unfold lenV
 all_goals (repeat' split)
 all_goals first|rfl|(exfalso;omega)
theorem ZpL {s:List UInt8} {n:Nat} (hn:1<=n/\n<=s.length/\n<=4) {A:List (Bool × List Blk)} {r0:Int} {k:List Fr} {Q:JV}
 (hQ1:∀ e:Unit,Rk (S Tb) k Q .ret [(2,.int .i64 0),(3,.int .i64 0),(4,.int .i64 11)] ⟨A,false,[]⟩)
 (hQ2:∀ (r:Int) (x y:AV),Rk (S Tb) k Q .norm [(0,.str s),(2,.int .i64 r),(5,.int .i64 n),(6,x),(31,y)] ⟨A,false,[]⟩) :
 Ru (S Tb) p_runes_Decode_15.loop (.blk 0::k) Q [(0,.str s),(2,.int .i64 r0),(5,.int .i64 n),(6,.int .i64 1)] ⟨A,false,[]⟩:=by
 refine Z0 (α:=Int × Nat) (fun q=>[(0,.str s),(2,.int .i64 q.1),(5,.int .i64 n),(6,.int .i64 q.2)]) (fun q=>⟨A,false,[]⟩) (fun q=>1<=q.2/\q.2<=n) (fun q=>n-q.2) (r0,1) rfl rfl ⟨Nat.le_refl _,hn.1⟩ ?_
 rintro ⟨r,i⟩ ⟨h1,h2⟩
 simp only at h1 h2 ⊢
 rcases Nat.eq_or_lt_of_le h2 with he|hl
 ·have hq:=fun x y=>hQ2 r x y
  have hnl:¬ ((i:Nat):Int)<(n:Int):=by omega
  repeat' (first|exact hq _ _|refine ZE ?_|refine ZD ?_|refine ZG rfl ?_|refine ZB rfl ?_|refine ZC ?_|(refine Zg rfl rfl (fun _=>?_) (fun _=>?_)<;>try (exfalso;omega))|refine ZF rfl ?_|refine Zu ?_|refine Zh ?_|refine Zc rfl ?_|refine Zs ?_)
  all_goals try contradiction
  all_goals try (exfalso;omega)
 ·obtain ⟨c,hc⟩:∃ c,s[i]?=some c:=⟨_,jE (by omega)⟩
  have hci:s[((i:Nat):Int).toNat]?=some c:=by rw [show ((i:Nat):Int).toNat=i by omega];exact hc
  have hC:=fun st=>Zid c st
  have hli:((i:Nat):Int)<(n:Int):=by omega
  cases hb:XU c with
  | false =>
   rw [hb] at hC;have hq:=hQ1 ()
   repeat' (first|exact hq|refine Yl rfl rfl (by omega) hci ?_|refine ZE ?_|refine ZD ?_|refine ZG rfl ?_|refine ZB rfl ?_|refine ZC ?_|(refine Zg rfl rfl (fun _=>?_) (fun _=>?_)<;>try (exfalso;omega))|refine ZS rfl ?_|refine YF rfl rfl ?_|refine ZA rfl rfl rfl (hC _) ?_|refine ZH ?_|refine ZO ?_|refine ZP ?_|refine ZU ?_|refine QF ?_|refine Y0 ?_)
   all_goals try contradiction
   all_goals try (exfalso;omega)
  | true =>
   rw [hb] at hC
   have hnext:∀ r2:Int,∃ c_1:Int × Nat,([(0,AV.str s),(2,.int .i64 r2),(5,.int .i64 n),(6,.int .i64 ((i:Int)+1))]=[(0,AV.str s),(2,.int .i64 c_1.1),(5,.int .i64 n),(6,.int .i64 c_1.2)]/\(⟨A,false,[]⟩:St)=⟨A,false,[]⟩)/\(1<=c_1.2/\c_1.2<=n)/\n-c_1.2<n-i :=
    fun r2=>⟨(r2,i+1),⟨rfl,rfl⟩,⟨by simp only;omega,by simp only;omega⟩,by simp only;omega⟩
   repeat' (first|exact hnext _|refine Yl rfl rfl (by omega) hci ?_|refine Zew rfl ?_|refine ZE ?_|refine ZD ?_|refine ZG rfl ?_|refine ZB rfl ?_|refine ZC ?_|(refine Zg rfl rfl (fun _=>?_) (fun _=>?_)<;>try (exfalso;omega))|refine ZS rfl ?_|refine ZF rfl ?_|refine YF rfl rfl ?_|refine Zm rfl rfl (by omega) ?_|refine ZA rfl rfl rfl (hC _) ?_|refine ZM1 rfl rfl rfl ?_|refine ZH ?_|refine ZP ?_|refine Z7 ?_|refine QJ ?_)
   all_goals try contradiction
   all_goals try (exfalso;omega)
theorem ZpM (c:UInt8) (l:List UInt8) (hl:l.length<1000000) (st:St):∃ r m e:Int,S Tb Y6 [.str (c::l)] st=some (.tup [.int .i64 r,.int .i64 m,.int .i64 e],st)/\(e=0->1<=m/\m<=(c::l).length):=by
 suffices hm:Sp Tb Y6 [.str (c::l)] st (fun v st'=>st'=st/\∃ r m e:Int,v=.tup [.int .i64 r,.int .i64 m,.int .i64 e]/\(e=0->1<=m/\m<=(c::l).length)) by
  obtain ⟨v,st',h1,rfl,r,m,e,rfl,h2⟩:=hm;exact ⟨r,m,e,h1,h2⟩
 refine ZXR (rfl:Tb Y6=some (.pf ZDZ)) ?_;obtain ⟨A,hA⟩:∃ A,A=st.ps:=⟨_,rfl⟩
 show Ru _ _ _ _ _ ⟨st.ps,false,[]⟩
 rw [<- hA]
 have hAn:=fun st=>Zic c st
 have h0:(c::l)[((0:Int)).toNat]?=some c:=rfl;have hlen:(c::l).length=l.length+1:=rfl
 have hle:=fun r st=>ZpK r st
 obtain ⟨n,hn⟩:∃ n:Nat,ZrX c=n/\n<=4:=by
  unfold ZrX
  repeat' split
  all_goals first|exact ⟨0,rfl,by omega⟩|exact ⟨1,rfl,by omega⟩|exact ⟨2,rfl,by omega⟩|exact ⟨3,rfl,by omega⟩|exact ⟨4,rfl,by omega⟩
 rw [hn.1] at hAn;have hn4:=hn.2;clear hn
 have hbad:∀ e:Unit,∃ v st',YI false [.s 2,.s 3,.s 4] (.ret,[(2,.int .i64 0),(3,.int .i64 0),(4,.int .i64 11)],(⟨A,false,[]⟩:St))=some (v,st')/\st'=st/\∃ r m e:Int,v=.tup [.int .i64 r,.int .i64 m,.int .i64 e]/\(e=0->1<=m/\m<=(c::l).length) :=
  fun _=>⟨_,_,ZX hA (.inr rfl) rfl rfl rfl rfl rfl,rfl,_,_,_,rfl,by omega⟩
 generalize hs:(c::l)=s at *
 have hne:s≠[]:=by rw [<- hs];simp
 by_cases hz:n=0\/s.length<n
 ·repeat' (first|refine Yl rfl rfl (by omega) h0 ?_|exact ZL (hbad ())|refine ZE ?_|refine ZD ?_|refine ZG rfl ?_|refine Z2 rfl ?_|refine Q9 rfl rfl ?_|refine Zf rfl rfl rfl rfl ?_|refine ZB rfl ?_|refine ZC ?_|refine Qg rfl ?_|(refine QD rfl rfl (fun _=>?_) (fun _=>?_)<;>try (exfalso;omega))|(refine Zi rfl rfl (fun _=>?_) (fun _=>?_)<;>try (exfalso;omega))|(refine YY rfl rfl (fun _=>?_) (fun _=>?_)<;>try contradiction)|refine ZS rfl ?_|refine ZF rfl ?_|refine ZA rfl rfl rfl (hAn _) ?_|refine ZH ?_|refine ZO ?_|refine ZU ?_)
  all_goals try contradiction
  all_goals try (exfalso;omega)
 ·have hn0:n≠0:=fun q=>hz (.inl q)
  have hnl:n<=s.length:=by
   rcases Nat.lt_or_ge s.length n with q|q
   ·exact absurd (.inr q) hz
   ·exact q
  have hlp:=fun (r0:Int) (k:List Fr) (Q:JV) h1 h2=>ZpL (s:=s) (n:=n) ⟨by omega,hnl,hn4⟩ (A:=A) (r0:=r0) (k:=k) (Q:=Q) h1 h2
  have hn4':n=1\/n=2\/n=3\/n=4:=by omega
  rcases hn4' with rfl|rfl|rfl|rfl
  all_goals
   repeat' (first|refine hlp _ _ _ (fun e=>?_) (fun r x y=>?_)|refine Yl rfl rfl (by omega) h0 ?_|refine Zew rfl ?_|exact ZL (hbad ())|refine ZE ?_|refine ZD ?_|refine ZG rfl ?_|refine Z2 rfl ?_|refine Zf rfl rfl rfl rfl ?_|refine ZB rfl ?_|refine ZC ?_|refine Qg rfl ?_|(refine QD rfl rfl (fun _=>?_) (fun _=>?_)<;>try (exfalso;omega))|(refine Zi rfl rfl (fun _=>?_) (fun _=>?_)<;>try (exfalso;omega))|(refine Ze rfl rfl (fun _=>?_) (fun _=>?_)<;>try (exfalso;omega))|(refine YY rfl rfl (fun _=>?_) (fun _=>?_)<;>try contradiction)|refine ZS rfl ?_|refine ZF rfl ?_|refine ZA rfl rfl rfl (hAn _) ?_|refine ZA rfl rfl rfl (hle _ _) ?_|refine ZM1 rfl rfl rfl ?_|refine ZH ?_|refine ZO ?_|refine ZP ?_|refine ZL ?_|refine ZU ?_)
  all_goals try contradiction
  all_goals try (exfalso;omega)
  all_goals exact ⟨_,_,ZX hA (.inr rfl) rfl rfl rfl rfl rfl,rfl,_,_,_,rfl,by omega⟩
theorem ZrY (s:List UInt8) (hs:s.length<1000000) (st:St):∃ b:Bool,S Tb Xf [.str s] st=some (.bool b,st):=by
 suffices hm:Sp Tb Xf [.str s] st (fun v st'=>st'=st/\∃ b:Bool,v=.bool b) by
  obtain ⟨v,st',h1,rfl,b,rfl⟩:=hm;exact ⟨b,h1⟩
 refine ZXR (rfl:Tb Xf=some (.pf ZEb)) ?_;obtain ⟨A,hA⟩:∃ A,A=st.ps:=⟨_,rfl⟩
 show Ru _ _ _ _ _ ⟨st.ps,false,[]⟩
 rw [<- hA]
 repeat' (first|refine ZE ?_|refine ZD ?_|refine ZG rfl ?_|refine ZB rfl ?_|refine ZC ?_|refine ZP ?_)
 refine Z0 (α:=List UInt8) (fun q=>[(0,.str q)]) (fun q=>⟨A,false,[]⟩) (fun q=>q.length<1000000) (fun q=>q.length) s rfl rfl hs ?_
 intro q hq;have hq:q.length<1000000:=hq
 have hfin:∀ b:Bool,∃ v st',YI false [.s 2] (.ret,[(2,.bool b)],(⟨A,false,[]⟩:St))=some (v,st')/\st'=st/\∃ b:Bool,v=.bool b :=
  fun b=>⟨_,_,ZX hA (.inr rfl) rfl rfl rfl rfl rfl,rfl,_,rfl⟩
 cases q with
 | nil =>
  repeat' (first|exact ZL (hfin _)|refine ZE ?_|refine ZD ?_|refine ZG rfl ?_|refine ZB rfl ?_|refine ZC ?_|(refine ZF0 rfl rfl (fun _=>?_) (fun _=>?_)<;>try contradiction)|refine ZF rfl ?_|refine ZO ?_|refine Zu ?_|refine Zh ?_|refine Zc rfl ?_|refine Zs ?_)
  all_goals try contradiction
 | cons c l =>
  obtain ⟨r,m,e,hD,hm⟩:=ZpM c l (by simp only [List.length_cons] at hq;omega) ⟨A,false,[]⟩
  have hne:(c::l)≠[]:=by simp
  have hlen:(c::l).length=l.length+1:=rfl
  generalize hs2:(c::l)=s2 at *
  by_cases he:e=0
  ·have hm:=hm he
   have hnext:∃ q:List UInt8,([(0,AV.str (s2.drop m.toNat))]=[(0,AV.str q)]/\(⟨A,false,[]⟩:St)=⟨A,false,[]⟩)/\q.length<1000000/\q.length<s2.length :=
    ⟨_,⟨rfl,rfl⟩,by rw [List.length_drop];omega,by rw [List.length_drop];omega⟩
   repeat' (first|exact hnext|refine ZE ?_|refine ZD ?_|refine ZG rfl ?_|refine Zp rfl rfl ?_|refine ZB rfl ?_|refine ZC ?_|(refine Ze rfl rfl (fun _=>?_) (fun _=>?_)<;>try (exfalso;omega))|(refine ZF0 rfl rfl (fun _=>?_) (fun _=>?_)<;>try contradiction)|refine ZS rfl ?_|refine ZF rfl ?_|refine ZF2 rfl rfl (by omega) ?_|refine ZA rfl rfl rfl (hD) ?_|refine ZH ?_|refine ZP ?_|refine Z7 ?_|refine QJ ?_)
   all_goals try contradiction
   all_goals try (exfalso;omega)
  ·repeat' (first|exact ZL (hfin _)|refine ZE ?_|refine ZD ?_|refine ZG rfl ?_|refine Zp rfl rfl ?_|refine ZB rfl ?_|refine ZC ?_|(refine Ze rfl rfl (fun _=>?_) (fun _=>?_)<;>try (exfalso;omega))|(refine ZF0 rfl rfl (fun _=>?_) (fun _=>?_)<;>try contradiction)|refine ZS rfl ?_|refine ZA rfl rfl rfl (hD) ?_|refine ZH ?_|refine ZO ?_|refine ZP ?_|refine ZU ?_|refine QF ?_|refine Y0 ?_)
   all_goals try contradiction
   all_goals try (exfalso;omega)
set_option maxHeartbeats 32000000
def tN:List (FuncId × Ent):=(ZAM,.base ZTp)::tl
def TN:Tab:=ZOL tN
theorem leN:TLe Tb TN:=fun f x hf=>by
 show (if ZAM=f then _ else ZOL tl f)=_
 rw [if_neg]
 ·exact hf
 ·intro q
  subst q
  have:Tb ZAM=none:=rfl
  rw [this] at hf
  exact absurd hf (by simp)
theorem upN {f:FuncId} {args:List AV} {st:St} {r:AV × St} (h:S Tb f args st=some r):S TN f args st=some r:=Zs5 leN _ _ _ _ h
theorem ZrZ {s:List UInt8} {a:Nat} (h:a<s.length) (hs:s.length<1000000000) (st:St):S TN ZAM [.str s,.int .i64 a] st=some (.tup [.int .i64 ((a+ptF s a:Nat):Int),.bool true],st) :=
 Zm8 (o:=ZTp) rfl (ZrW h hs st)
theorem ZlO {O:Orc} {k:List Fr} {Q:JV} {e:Env} {st:St} {keep:List Nat} {is:List QAbs.PI} {d:Nat} {x y z:Opd} {s p:List UInt8} {n m:Int} (hx:Zj e x=some (.str s)) (hy:Zj e y=some (.int .i64 n)) (hz:Zj e z=some (.int .i64 m)) (hn:0<=n/\n<=m/\m<=s.length) (hp:(s.drop n.toNat).take (m-n).toNat=p) (h:Is O is keep k Q ((d,.str p)::e) st):Is O (⟨some d,none,false,.slcS x (some y) (some z)⟩::is) keep k Q e st:=by
 subst hp;exact ZjJ hx hy hz hn h
section
variable {A:List (Bool × List Blk)} {X:List Blk} {ic li la b im:Nat} {r:Ro} {N:ZQ} {s:List UInt8} {a:Nat} {vis:Int}
theorem CurL.prev (hN:GoodN N) (h:Rt N r s) (h0:r.at_≠0) (hs:s.length<=100000) (hc:CurL A X ic li la b im r N s a vis) (ha:a<=s.length) (hap:0<a) (hv:0<=vis/\vis<700000000) :
 ∃ X' vis2 k,k=ZEk (s.take a).reverse/\k<=a/\S Tb QL [.ptr A.length ic 0 0 0] ⟨A,false,X⟩=some (.tup [.str ((s.take a).drop (a-k)),.int .i64 0],⟨A,false,X'⟩)/\CurL A X' ic li la b im r N s (a-k) vis2/\Stay X X' ic li/\vis<=vis2/\vis2<=vis+20*k:=by
 obtain ⟨ver,es,w⟩:=hc.ex;obtain ⟨ver2,es2,k,hk,hk2,f1,f2⟩:=ZpB w hc.la hc.rdo hN h h0 hs ha hap hv;obtain ⟨X',e1,e2,e3⟩:=hc.to f2;rw [e1] at f1;have hb:=Zgk (N:=N) (n:=s.length) (a:=a) (h.rt.h13 hN) k
 exact ⟨X',_,k,hk,hk2,f1,e2,e3,by omega,by omega⟩
theorem RdM.set {ix m0:Nat} {b0:Blk} (h:RdM ⟨A,false,X⟩ la ix im N) (h1:¬ (la=A.length/\m0=ix)) (h2:¬ (la=A.length/\m0=im)):RdM ⟨A,false,X.set m0 b0⟩ la ix im N:=by
 obtain ⟨a0,a1,a3,a4,a5,g1,g2⟩:=h
 have key:∀ j c,¬ (la=A.length/\m0=j)->St.get ⟨A,false,X⟩ la j=some c->St.get ⟨A,false,X.set m0 b0⟩ la j=some c:=by
  intro j c hj g;rw [St.get] at g ⊢
  simp only at g ⊢
  by_cases w:la=A.length
  ·rw [if_pos w] at g ⊢
   rw [jS (fun q=>hj ⟨w,q⟩)];exact g
  ·rw [if_neg w] at g ⊢;exact g
 exact ⟨a0,a1,a3,a4,a5,key _ _ h1 g1,key _ _ h2 g2⟩
end
structure CtS where
 a:Nat
 X:List Blk
 vis:Int
 ps:List (List UInt8)
 v:Nat
section
variable {A:List (Bool × List Blk)} {ic li im m0:Nat} {r:Ro} {N:ZQ} {s:List UInt8}
theorem ZpN (hN:GoodN N) (h:Rt N r s) (hs:s.length<=3300) {n0:Int} (hm0:ic≠m0/\li≠m0/\m0≠5/\m0≠im) {X0:List Blk} {vis0:Int} (hc0:CurA A X0 ic li A.length 0 im r N s 0 vis0) (hv0:0<=vis0/\vis0<=1000) (hm:X0[m0]?=some (.arr 1 0 [])) {k:List Fr} {Q:JV}
 (hQ:∀ X vis ps v (x:AV),CurA A X ic li A.length 0 im r N s s.length vis->0<=vis/\vis<=200000->Pts s s.length ps->X[m0]?=some (.arr 1 v (ps.map .str)) ->
  Rk (S TN) k Q .norm [(3,.int .i64 n0),(14,.str s),(15,.ptr A.length ic 0 0 0),(17,.ref A.length m0 v 0 ps.length),(18,.int .i64 s.length),(81,x)] ⟨A,false,X⟩) :
 Ru (S TN) p_quartolaw21_CursorTexts_22.loop (.blk 0::k) Q [(3,.int .i64 n0),(14,.str s),(15,.ptr A.length ic 0 0 0),(17,.ref A.length m0 0 0 0),(18,.int .i64 0)] ⟨A,false,X0⟩:=by
 refine Z0 (α:=CtS) (fun q=>[(3,.int .i64 n0),(14,.str s),(15,.ptr A.length ic 0 0 0),(17,.ref A.length m0 q.v 0 q.ps.length),(18,.int .i64 q.a)]) (fun q=>⟨A,false,q.X⟩)
  (fun q=>q.a<=s.length/\CurA A q.X ic li A.length 0 im r N s q.a q.vis/\0<=q.vis/\q.vis<=1000+40*q.a/\Pts s q.a q.ps/\q.X[m0]?=some (.arr 1 q.v (q.ps.map .str))) (fun q=>s.length-q.a) ⟨0,X0,vis0,[],0⟩ rfl rfl ⟨Nat.zero_le _,hc0,hv0.1,by simp only;omega,.nil,hm⟩ ?_
 clear hc0 hv0 hm X0 vis0
 rintro ⟨a,X,vis,ps,v⟩ ⟨ha,hc,hv1,hv2,hP,hX⟩
 simp only at ha hc hv1 hv2 hP hX ⊢
 have hpl:=hP.beg.2.2
 rcases Nat.eq_or_lt_of_le ha with he|hl
 ·subst he
  have hq:=fun x=>hQ X vis ps v x hc ⟨hv1,by omega⟩ hP hX
  have hnl:¬ ((s.length:Nat):Int)<(s.length:Int):=by omega
  repeat' (first|exact hq _|refine ZE ?_|refine ZD ?_|refine ZG rfl ?_|refine ZB rfl ?_|refine ZC ?_|refine Qg rfl ?_|(refine Zg rfl rfl (fun _=>?_) (fun _=>?_)<;>try (exfalso;omega))|refine ZF rfl ?_|refine Zu ?_|refine Zh ?_|refine Zc rfl ?_|refine Zs ?_)
  all_goals try contradiction
  all_goals try (exfalso;omega)
 ·obtain ⟨h0,hcl⟩:=hc.ne h hN (by omega)
  obtain ⟨p1,p2⟩:=ZH1 hl
  obtain ⟨X1,vis2,kk,hk,f1,c1,st1,e1,e2,e3⟩:=hcl.next hN h h0 (by omega) hl (by omega)
  have hkp:kk=ptF s a:=hk;subst hkp;clear hk
  have hNx:=fun st=>ZrZ hl (by omega) st
  have hAt:=c1.at_c
  have hX1:X1[m0]?=some (.arr 1 v (ps.map .str)):=(st1.get m0 (fun q=>hm0.1 q.symm) (fun q=>hm0.2.1 q.symm)).trans hX
  have hb1:ps.length=(ps.map AV.str).length:=by simp
  have hb2:(ps.map AV.str).length+1<4294967296:=by simp;omega
  have hli:((a:Nat):Int)<(s.length:Int):=by omega
  have hsl:(s.drop ((a:Nat):Int).toNat).take (((a+ptF s a:Nat):Int)-(a:Int)).toNat=(s.drop a).take (ptF s a):=by
   rw [show ((a:Nat):Int).toNat=a by omega,show (((a+ptF s a:Nat):Int)-(a:Int)).toNat=ptF s a by omega]
  have hc2:CurA A (X1.set m0 (.arr 1 (v+1) (ps.map .str++[.str ((s.drop a).take (ptF s a))]))) ic li A.length 0 im r N s (a+ptF s a) vis2 :=
   CurA.grow ⟨.inr ⟨h0,c1⟩,c1.rd⟩ hN (Ext.refl _) h (jS (fun q=>hm0.1 q.symm)) (jS (fun q=>hm0.2.1 q.symm)) (c1.rd.set (by omega) (by omega))
  have hX2:(X1.set m0 (.arr 1 (v+1) (ps.map .str++[.str ((s.drop a).take (ptF s a))])))[m0]?=some (.arr 1 (v+1) ((ps++[(s.drop a).take (ptF s a)]).map .str)):=by
   rw [List.getElem?_set_self (List.getElem?_eq_some_iff.1 hX1).1,List.map_append];rfl
  have hnext:∃ q:CtS,([(3,AV.int .i64 n0),(14,.str s),(15,.ptr A.length ic 0 0 0),(17,.ref A.length m0 (v+1) 0 (ps.length+1)),(18,.int .i64 ((a+ptF s a:Nat):Int))]=[(3,AV.int .i64 n0),(14,.str s),(15,.ptr A.length ic 0 0 0),(17,.ref A.length m0 q.v 0 q.ps.length),(18,.int .i64 q.a)]/\(⟨A,false,X1.set m0 (.arr 1 (v+1) (ps.map .str++[.str ((s.drop a).take (ptF s a))]))⟩:St)=⟨A,false,q.X⟩) /\
   (q.a<=s.length/\CurA A q.X ic li A.length 0 im r N s q.a q.vis/\0<=q.vis/\q.vis<=1000+40*q.a/\Pts s q.a q.ps/\q.X[m0]?=some (.arr 1 q.v (q.ps.map .str)))/\s.length-q.a<s.length-a :=
   ⟨⟨a+ptF s a,_,vis2,ps++[(s.drop a).take (ptF s a)],v+1⟩,⟨by simp,rfl⟩,⟨p2,hc2,by simp only;omega,by simp only;omega,.snoc hP hl,hX2⟩,by simp only;omega⟩
  generalize (s.drop a).take (ptF s a)=p at *
  repeat' (first|exact hnext|refine ZlO rfl rfl rfl (by omega) hsl ?_|refine ZXU rfl rfl hX1 hb1 hb2 (by decide) rfl rfl ?_|refine ZE ?_|refine ZD ?_|refine ZG rfl ?_|refine Z2 rfl ?_|refine Zf rfl rfl rfl rfl ?_|refine Zp rfl rfl ?_|refine ZB rfl ?_|refine ZC ?_|refine Qg rfl ?_|(refine Zg rfl rfl (fun _=>?_) (fun _=>?_)<;>try (exfalso;omega))|(refine Ze rfl rfl (fun _=>?_) (fun _=>?_)<;>try (exfalso;omega))|(refine ZF0 rfl rfl (fun _=>?_) (fun _=>?_)<;>try contradiction)|refine ZS rfl ?_|refine ZF rfl ?_|refine YF rfl rfl ?_|refine JJ rfl rfl rfl rfl ?_|refine ZA rfl rfl rfl (upN f1) ?_|refine ZA rfl rfl rfl (upN hAt) ?_|refine ZA rfl rfl rfl (hNx _) ?_|refine ZH ?_|refine ZP ?_|refine Z7 ?_|refine QJ ?_)
  all_goals try contradiction
  all_goals try (exfalso;omega)
theorem ZpO (hN:GoodN N) (h:Rt N r s) (hs:s.length<=3300) {n0:Int} (hm0:ic≠m0/\li≠m0/\m0≠5/\m0≠im) {bv:Bool} {ps:List (List UInt8)} {v:Nat} {X0:List Blk} {vis0:Int} (hc0:CurA A X0 ic li A.length 0 im r N s s.length vis0) (hv0:0<=vis0/\vis0<=200000) (hP0:Pts s s.length ps) (hm:X0[m0]?=some (.arr 1 v (ps.map .str))) {k:List Fr} {Q:JV}
 (hQ:∀ X a vis (x y:AV),a<=s.length->CurA A X ic li A.length 0 im r N s a vis->0<=vis/\vis<=1000000->(bv=true->a=0) ->
  Rk (S TN) k Q .norm [(3,.int .i64 n0),(14,.str s),(15,.ptr A.length ic 0 0 0),(17,.ref A.length m0 v 0 ps.length),(18,.int .i64 (a:Nat)),(25,.bool bv),(26,x),(141,y)] ⟨A,false,X⟩) :
 Ru (S TN) p_quartolaw21_CursorTexts_40.loop (.blk 2::k) Q [(3,.int .i64 n0),(14,.str s),(15,.ptr A.length ic 0 0 0),(17,.ref A.length m0 v 0 ps.length),(18,.int .i64 s.length),(25,.bool bv),(26,.int .i64 ((ps.length:Int)-1))] ⟨A,false,X0⟩:=by
 have hpl:=hP0.beg.2.2
 refine Z0 (α:=Nat × List Blk × Nat × Int) (fun q=>[(3,.int .i64 n0),(14,.str s),(15,.ptr A.length ic 0 0 0),(17,.ref A.length m0 v 0 ps.length),(18,.int .i64 q.2.2.1),(25,.bool bv),(26,.int .i64 ((q.1:Int)-1))]) (fun q=>⟨A,false,q.2.1⟩)
  (fun q=>q.1<=ps.length/\q.2.2.1<=s.length/\CurA A q.2.1 ic li A.length 0 im r N s q.2.2.1 q.2.2.2/\0<=q.2.2.2/\q.2.2.2<=200000+100*(s.length-q.2.2.1)/\Pts s q.2.2.1 (ps.take q.1)/\q.2.1[m0]?=some (.arr 1 v (ps.map .str))) (fun q=>q.1) (ps.length,X0,s.length,vis0) rfl rfl ⟨Nat.le_refl _,Nat.le_refl _,hc0,hv0.1,by simp only;omega,by rw [List.take_length];exact hP0,hm⟩ ?_
 clear hc0 hv0 hm hP0 X0 vis0
 rintro ⟨j,X,a,vis⟩ ⟨hj,ha,hc,hv1,hv2,hP,hX⟩
 simp only at hj ha hc hv1 hv2 hP hX ⊢
 cases bv with
 | false =>
  have hq:=fun x y=>hQ X a vis x y ha hc ⟨hv1,by omega⟩ (fun q=>absurd q (by decide))
  by_cases hj0:((j:Nat):Int)-1 >= 0
  ·repeat' (first|exact hq _ _|refine ZE ?_|refine ZD ?_|refine ZG rfl ?_|refine Z2 rfl ?_|refine Zf rfl rfl rfl rfl ?_|refine ZB rfl ?_|refine ZC ?_|(refine JQ rfl rfl (fun _=>?_) (fun _=>?_)<;>try (exfalso;omega))|refine ZF rfl ?_|refine Zu ?_|refine Zh ?_|refine Zc rfl ?_|refine Zs ?_)
   all_goals try contradiction
   all_goals try (exfalso;omega)
  ·repeat' (first|exact hq _ _|refine ZE ?_|refine ZD ?_|refine ZG rfl ?_|refine Q9 rfl rfl ?_|refine Zf rfl rfl rfl rfl ?_|refine ZB rfl ?_|refine ZC ?_|(refine JQ rfl rfl (fun _=>?_) (fun _=>?_)<;>try (exfalso;omega))|refine ZF rfl ?_|refine Zu ?_|refine Zh ?_|refine Zc rfl ?_|refine Zs ?_)
   all_goals try contradiction
   all_goals try (exfalso;omega)
 | true =>
  cases j with
  | zero =>
   rw [List.take_zero] at hP;have hz:=hP.zero
   have hq:=fun x y=>hQ X a vis x y ha hc ⟨hv1,by omega⟩ (fun _=>hz)
   repeat' (first|exact hq _ _|refine ZE ?_|refine ZD ?_|refine ZG rfl ?_|refine Q9 rfl rfl ?_|refine Zf rfl rfl rfl rfl ?_|refine ZB rfl ?_|refine ZC ?_|(refine JQ rfl rfl (fun _=>?_) (fun _=>?_)<;>try (exfalso;omega))|refine ZF rfl ?_|refine Zu ?_|refine Zh ?_|refine Zc rfl ?_|refine Zs ?_)
   all_goals try contradiction
   all_goals try (exfalso;omega)
  | succ j =>
   obtain ⟨p,hp⟩:∃ p,ps[j]?=some p:=⟨_,jE (by omega)⟩
   rw [ZC0 hp] at hP;obtain ⟨c,hPc,hcl,hac,hpe⟩:=hP.last;obtain ⟨p1,p2⟩:=ZH1 hcl;have hbeg:=hPc.beg.1;have hbw:=ZpJ hcl hbeg;rw [<- hac] at hbw
   obtain ⟨h0,hl1⟩:=hc.ne h hN (by omega)
   obtain ⟨X1,v1,k1,hk1,hk1b,f1,c1,st1,g1,g2⟩:=CurL.prev hN h h0 (by omega) hl1 ha (by omega) (by omega)
   have hkk:k1=ptF s c:=hk1.trans hbw;subst hkk
   have hsub:a-ptF s c=c:=by omega
   have htx:(s.take a).drop (a-ptF s c)=p:=by
    rw [hsub,hac,List.drop_take,hpe,show c+ptF s c-c=ptF s c by omega]
   rw [htx] at f1;rw [hsub] at c1
   obtain ⟨X2,v2,k2,hk2,f2,c2,st2,_,g3,g4⟩:=c1.next hN h h0 (by omega) hcl (by omega)
   have hk2':k2=ptF s c:=hk2;subst hk2';rw [<- hpe] at f2;rw [<- hac] at c2
   obtain ⟨X3,v3,k3,hk3,hk3b,f3,c3,st3,g5,g6⟩:=CurL.prev hN h h0 (by omega) c2 ha (by omega) (by omega)
   have hk3':k3=ptF s c:=hk3.trans hbw;subst hk3';rw [htx] at f3;rw [hsub] at c3;have hA1:=c1.at_c;have hA3:=c3.at_c
   have hX1:X1[m0]?=some (.arr 1 v (ps.map .str)):=(st1.get m0 (fun q=>hm0.1 q.symm) (fun q=>hm0.2.1 q.symm)).trans hX
   have hX3:X3[m0]?=some (.arr 1 v (ps.map .str)):=(st3.get m0 (fun q=>hm0.1 q.symm) (fun q=>hm0.2.1 q.symm)).trans ((st2.get m0 (fun q=>hm0.1 q.symm) (fun q=>hm0.2.1 q.symm)).trans hX1)
   have hplen:p.length=ptF s c:=by rw [hpe,List.length_take,List.length_drop];omega
   have hjj:(((j+1:Nat):Int)-1)=(j:Int):=by omega
   rw [hjj]
   have hix:(ps.map AV.str)[0+((j:Nat):Int).toNat]?=some (.str p):=by rw [show 0+((j:Nat):Int).toNat=j by omega,jG,hp];rfl
   have hj0:((j:Nat):Int) >= 0:=by omega
   have hnext:∃ q:Nat × List Blk × Nat × Int,([(3,AV.int .i64 n0),(14,.str s),(15,.ptr A.length ic 0 0 0),(17,.ref A.length m0 v 0 ps.length),(18,.int .i64 ((a:Int)-p.length)),(25,.bool true),(26,.int .i64 ((j:Int)-1))]=[(3,AV.int .i64 n0),(14,.str s),(15,.ptr A.length ic 0 0 0),(17,.ref A.length m0 v 0 ps.length),(18,.int .i64 q.2.2.1),(25,.bool true),(26,.int .i64 ((q.1:Int)-1))]/\(⟨A,false,X3⟩:St)=⟨A,false,q.2.1⟩) /\
    (q.1<=ps.length/\q.2.2.1<=s.length/\CurA A q.2.1 ic li A.length 0 im r N s q.2.2.1 q.2.2.2/\0<=q.2.2.2/\q.2.2.2<=200000+100*(s.length-q.2.2.1)/\Pts s q.2.2.1 (ps.take q.1)/\q.2.1[m0]?=some (.arr 1 v (ps.map .str)))/\q.1<j+1:=by
    refine ⟨(j,X3,c,v3),⟨?_,rfl⟩,⟨by simp only;omega,by simp only;omega,⟨.inr ⟨h0,c3⟩,c3.rd⟩,by simp only;omega,by simp only;omega,hPc,hX3⟩,Nat.lt_succ_self _⟩
    simp only
    rw [show (a:Int)-(p.length:Int)=(c:Int) by omega]
   have hcc:((c:Nat):Int)=(a:Int)-(p.length:Int):=by omega
   rw [hcc] at hA1 hA3
   repeat' (first|exact hnext|refine ZCW rfl rfl (by omega) hX1 ?_|refine ZV rfl hX1 hix rfl ?_|refine ZE ?_|refine ZD ?_|refine ZG rfl ?_|refine Z2 rfl ?_|refine Zf rfl rfl rfl rfl ?_|refine Zp rfl rfl ?_|refine ZB rfl ?_|refine ZC ?_|refine Qg rfl ?_|(refine JQ rfl rfl (fun _=>?_) (fun _=>?_)<;>try (exfalso;omega))|(refine Ze rfl rfl (fun _=>?_) (fun _=>?_)<;>try (exfalso;omega))|(refine ZF0 rfl rfl (fun _=>?_) (fun _=>?_)<;>try contradiction)|refine ZS rfl ?_|refine ZF rfl ?_|refine QS rfl rfl (by omega) ?_|refine ZA rfl rfl rfl (upN f1) ?_|refine ZA rfl rfl rfl (upN hA1) ?_|refine ZA rfl rfl rfl (upN f2) ?_|refine ZA rfl rfl rfl (upN f3) ?_|refine ZA rfl rfl rfl (upN hA3) ?_|refine ZH ?_|refine ZP ?_|refine Z7 ?_|refine QJ ?_)
   all_goals try contradiction
   all_goals try (exfalso;omega)
theorem ZpP (hN:GoodN N) (h:Rt N r s) (hs:s.length<=3300) {sp:Int} (hsp:1<=sp/\sp<=100) {X0:List Blk} {vis0:Int} (hc0:CurA A X0 ic li A.length 0 im r N s 0 vis0) (hv0:0<=vis0/\vis0<=2000000) {k:List Fr} {Q:JV}
 (hQ:∀ X (x y:AV),Rk (S TN) k Q .norm [(14,.str s),(15,.ptr A.length ic 0 0 0),(18,x),(32,.int .i64 sp),(211,y)] ⟨A,false,X⟩) :
 Ru (S TN) p_quartolaw21_CursorTexts_53.loop (.blk 4::k) Q [(14,.str s),(15,.ptr A.length ic 0 0 0),(18,.int .i64 0),(32,.int .i64 sp)] ⟨A,false,X0⟩:=by
 refine Z0 (α:=Nat × List Blk × Int) (fun q=>[(14,.str s),(15,.ptr A.length ic 0 0 0),(18,.int .i64 q.1),(32,.int .i64 sp)]) (fun q=>⟨A,false,q.2.1⟩)
  (fun q=>q.1<=s.length/\CurA A q.2.1 ic li A.length 0 im r N s q.1 q.2.2/\0<=q.2.2/\q.2.2<=2000000+40*q.1) (fun q=>s.length-q.1) (0,X0,vis0) rfl rfl ⟨Nat.zero_le _,hc0,hv0.1,by simp only;omega⟩ ?_
 clear hc0 hv0 X0 vis0
 rintro ⟨a,X,vis⟩ ⟨ha,hc,hv1,hv2⟩
 simp only at ha hc hv1 hv2 ⊢
 rcases Nat.eq_or_lt_of_le ha with he|hl
 ·subst he
  have hq:=fun x y=>hQ X x y
  have hnl:¬ ((s.length:Nat):Int)<(s.length:Int):=by omega
  repeat' (first|exact hq _ _|refine ZE ?_|refine ZD ?_|refine ZG rfl ?_|refine ZB rfl ?_|refine ZC ?_|refine Qg rfl ?_|(refine Zg rfl rfl (fun _=>?_) (fun _=>?_)<;>try (exfalso;omega))|refine ZF rfl ?_|refine Zu ?_|refine Zh ?_|refine Zc rfl ?_|refine Zs ?_)
  all_goals try contradiction
  all_goals try (exfalso;omega)
 ·obtain ⟨h0,hcl⟩:=hc.ne h hN (by omega)
  obtain ⟨X1,vis2,kk,hk,f1,c1,st1,e1,e2,e3⟩:=hcl.read hN h h0 (by omega) ha (by omega) sp (by omega)
  have hkn:=ZlF sp (s.drop a) 0 (by omega)
  rw [<- hk,List.length_drop] at hkn;clear hk;have hAt:=c1.at_c
  have hli:((a:Nat):Int)<(s.length:Int):=by omega
  obtain ⟨w,hw⟩:∃ w:Int,w=min sp ((s.length:Int)-a):=⟨_,rfl⟩
  have hwk:w=kk:=by omega
  have hsl:(s.drop ((a:Nat):Int).toNat).take (((a:Nat):Int)+(if false=true then max sp ((s.length:Int)-a) else min sp ((s.length:Int)-a))-(a:Int)).toNat=(s.drop a).take kk:=by
   simp only [jB,if_false]
   rw [<- hw,show ((a:Nat):Int).toNat=a by omega,show (((a:Nat):Int)+w-(a:Int)).toNat=kk by omega]
  have hmn:(if false=true then max sp ((s.length:Int)-a) else min sp ((s.length:Int)-a))=(kk:Int):=by
   simp only [jB,if_false];omega
  rw [hmn] at hsl
  have hnext:∃ q:Nat × List Blk × Int,([(14,AV.str s),(15,.ptr A.length ic 0 0 0),(18,.int .i64 ((a:Int)+kk)),(32,.int .i64 sp)]=[(14,AV.str s),(15,.ptr A.length ic 0 0 0),(18,.int .i64 q.1),(32,.int .i64 sp)]/\(⟨A,false,X1⟩:St)=⟨A,false,q.2.1⟩) /\
   (q.1<=s.length/\CurA A q.2.1 ic li A.length 0 im r N s q.1 q.2.2/\0<=q.2.2/\q.2.2<=2000000+40*q.1)/\s.length-q.1<s.length-a :=
   ⟨(a+kk,X1,vis2),⟨rfl,rfl⟩,⟨by simp only;omega,⟨.inr ⟨h0,c1⟩,c1.rd⟩,by simp only;omega,by simp only;omega⟩,by simp only;omega⟩
  have hAt2:S Tb QM [.ptr A.length ic 0 0 0] ⟨A,false,X1⟩=some (.int .i64 ((a:Int)+kk),⟨A,false,X1⟩):=hAt
  generalize (s.drop a).take kk=p at *
  have hmx:∀ {O:Orc} {k:List Fr} {Q:JV} {e:Env} {st:St} {keep:List Nat} {is:List QAbs.PI} {d:Nat} {x y:Opd},Zj e x=some (.int .i64 sp)->Zj e y=some (.int .i64 ((s.length:Int)-a))->Is O is keep k Q ((d,.int .i64 kk)::e) st->Is O (⟨some d,none,false,.mnx false x y⟩::is) keep k Q e st:=by
   intro O k Q e st keep is d x y h1 h2 h3;refine ZQu h1 h2 ?_;rw [hmn];exact h3
  repeat' (first|exact hnext|refine hmx rfl rfl ?_|refine ZlO rfl rfl rfl (by omega) hsl ?_|refine ZE ?_|refine ZD ?_|refine ZG rfl ?_|refine Z2 rfl ?_|refine Zf rfl rfl rfl rfl ?_|refine Zp rfl rfl ?_|refine ZB rfl ?_|refine ZC ?_|refine Qg rfl ?_|(refine Zg rfl rfl (fun _=>?_) (fun _=>?_)<;>try (exfalso;omega))|(refine Ze rfl rfl (fun _=>?_) (fun _=>?_)<;>try (exfalso;omega))|(refine ZF0 rfl rfl (fun _=>?_) (fun _=>?_)<;>try contradiction)|refine ZS rfl ?_|refine ZF rfl ?_|refine Zm rfl rfl (by omega) ?_|refine QS rfl rfl (by omega) ?_|refine ZA rfl rfl rfl (upN f1) ?_|refine ZA rfl rfl rfl (upN hAt2) ?_|refine ZH ?_|refine ZP ?_|refine Z7 ?_|refine QJ ?_)
  all_goals try contradiction
  all_goals try (exfalso;omega)
end
theorem ZpQ {texts:List (List UInt8)} {ys:List Ed} (h:¬ ZEQ texts ys):(texts.flatten.length<=900/\texts.length<=4)/\ys.length<=12/\∀ y∈ys,y.text.length<=200:=by
 have h1:¬ ZTn texts:=fun q=>h (.inl q)
 have h2:¬ Zal ys:=fun q=>h (.inr (.inl q))
 have h3:¬ 12<ys.length:=fun q=>h (.inr (.inr q))
 obtain ⟨a,b,c⟩:=Zsd h1 h2
 exact ⟨a,by omega,c⟩
theorem Zdc (texts:List (List UInt8)) (ys:List Ed) (which n0:Int) (hb:texts.length<9223372036854775808) (hbs:∀ s∈texts,s.length<9223372036854775808) (hy:ys.length<9223372036854775808) (hys:∀ y∈ys,y.text.length<9223372036854775808) (st:St) :
 S TN JS [.lit (texts.map .str),.lit (ys.map Ed.av),.int .i64 which,.int .i64 n0] st=some (.bool true,st):=by
 refine Z9 (leN JS (.pf J7) rfl) (fun A hA=>?_)
 have hBy:=fun st=>upN (Zo5 texts ys hb hbs hy hys st)
 have hWk:=fun st=>upN (Zma st)
 by_cases hl:ZEQ texts ys
 ·simp only [decide_eq_true hl] at hBy
  repeat' (first|refine ZE ?_|refine ZD ?_|refine ZG rfl ?_|refine ZB rfl ?_|refine ZC ?_|refine ZS rfl ?_|refine ZA rfl rfl rfl (hBy _) ?_|refine ZA rfl rfl rfl (hWk _) ?_|refine ZO ?_|refine ZL ?_|refine ZU ?_)
  all_goals try contradiction
  all_goals refine ZX hA (by first|exact .inl rfl|exact .inr rfl) rfl rfl rfl rfl ?_
  all_goals rfl
 simp only [decide_eq_false hl] at hBy;obtain ⟨h9,h12,hy2⟩:=ZpQ hl;obtain ⟨v,st',hMk,r,c,ros,ss,G0,G1,n,rfl,rfl,hI⟩:=Zse texts ys h9 h12 hy2 A;replace hMk:=upN hMk;have hn20:=hI.n20;have hrs:=hI.len;have hsl:=hI.rts.1
 rcases Nat.eq_zero_or_pos n with hn0|hpos
 ·subst hn0
  repeat' (first|refine ZE ?_|refine ZD ?_|refine ZG rfl ?_|refine Zp rfl rfl ?_|refine ZB rfl ?_|refine ZC ?_|refine Qj rfl ?_|(refine Zi rfl rfl (fun _=>?_) (fun _=>?_)<;>try (exfalso;omega))|refine ZS rfl ?_|refine ZF rfl ?_|refine YF rfl rfl ?_|refine ZA rfl rfl rfl (hBy _) ?_|refine ZA rfl rfl rfl (hWk _) ?_|refine ZA rfl rfl rfl (hMk) ?_|refine ZH ?_|refine ZO ?_|refine ZL ?_|refine ZU ?_)
  all_goals try contradiction
  all_goals try (exfalso;omega)
  all_goals refine ZX hA (by first|exact .inl rfl|exact .inr rfl) rfl rfl rfl rfl ?_
  all_goals rfl
 have hpb:=JL (x:=which) (n:=(n:Int)-1) (by omega)
 have hPk:=fun st=>upN (Zo6 which ((n:Int)-1) (by omega) (by omega) st)
 generalize Jc which ((n:Int)-1)=z at *
 have hpb2:=JL (x:=n0) (n:=40) (by omega)
 have hPk2:=fun st=>upN (Zo6 n0 40 (by omega) (by omega) st)
 generalize Jc n0 40=z2 at *
 obtain ⟨ro,hro⟩:∃ x,ros[z.toNat]?=some x:=⟨_,jE (by omega)⟩
 obtain ⟨s,hs⟩:∃ x,ss[z.toNat]?=some x:=⟨_,jE (by omega)⟩
 have hRt:=hI.rts.2 z.toNat ro s hro hs;have hsm:=hI.small s (jM hs);have hGd:=hI.good;have f6:(ltL A.length r n ros G0 c ss G1)[6]?=_:=Zsc;have f7:(ltL A.length r n ros G0 c ss G1)[7+G0.length]?=_:=lt_7
 have g6:(ros.map Ro.av)[0+z.toNat]?=some ro.av:=by rw [Nat.zero_add,jG,hro];rfl
 have g7:(ss.map AV.str)[0+z.toNat]?=some (.str s):=by rw [Nat.zero_add,jG,hs];rfl
 have hz:=Zsf (n:=A.length) (r:=r) (v:=n) (ros:=ros) (G0:=G0) (w:=c) (ss:=ss) (G1:=G1);have hHas:=Zay (A:=A) (r:=r) (v:=n) (ros:=ros) (G0:=G0) (w:=c) (ss:=ss) (G1:=G1)
 generalize ltL A.length r n ros G0 c ss G1=X at *
 have hRM:RdM ⟨A,false,X⟩ A.length (0+5) (0+4) r.nodes:=⟨_,_,_,_,_,hHas.h5,hHas.h4⟩
 obtain ⟨X1,ic,li,hNew,c1,c2,c3,c4,c5,c6,hc1⟩:=ZpH hGd hRt (by omega) hRM (Nat.le_refl _)
 replace hNew:=upN hNew;have h13:=hRt.rt.h13 hGd
 have hap:∀ z,z<X1.length->(X1++[Blk.arr 1 0 []])[z]?=X1[z]?:=fun z hz=>jL hz
 have hX0:(X1++[Blk.arr 1 0 []])[X1.length]?=some (.arr 1 0 []):=by rw [List.getElem?_append_right (Nat.le_refl _),Nat.sub_self];rfl
 have hc0:=hc1.grow (X':=X1++[Blk.arr 1 0 []]) hGd (Ext.refl _) hRt (hap _ c3) (hap _ c4) (hc1.rd.app _)
 have hm0:ic≠X1.length/\li≠X1.length/\X1.length≠5/\X1.length≠0+4:=by omega
 have hlp1:=fun (k:List Fr) (Q:JV) hQ=>ZpN (A:=A) (m0:=X1.length) hGd hRt (by omega) (n0:=n0) hm0 hc0 (by split<;>omega) hX0 (k:=k) (Q:=Q) hQ
 repeat' (first|refine hlp1 _ _ (fun X2 vis2 ps v2 x2 k1 k2 k3 k4=>?_)|refine ZCW rfl rfl (by omega) f6 ?_|refine ZV rfl f6 g6 (Zk8 _) ?_|refine ZCW rfl rfl (by omega) f7 ?_|refine ZV rfl f7 g7 rfl ?_|refine ZA6 (XD _) ?_|refine ZE ?_|refine ZD ?_|refine ZG rfl ?_|refine Z2 rfl ?_|refine Zf rfl rfl rfl rfl ?_|refine Zp rfl rfl ?_|refine ZB rfl ?_|refine ZC ?_|refine Qj rfl ?_|(refine Zi rfl rfl (fun _=>?_) (fun _=>?_)<;>try (exfalso;omega))|(refine Ze rfl rfl (fun _=>?_) (fun _=>?_)<;>try (exfalso;omega))|refine ZF rfl ?_|refine YF rfl rfl ?_|refine QS rfl rfl (by omega) ?_|refine Q5 rfl rfl rfl rfl ?_|refine ZA rfl rfl rfl (hBy _) ?_|refine ZA rfl rfl rfl (hMk) ?_|refine ZA rfl rfl rfl (hPk _) ?_|refine ZA rfl rfl rfl (hNew) ?_|refine ZH ?_|refine ZP ?_)
 all_goals try contradiction
 all_goals try (exfalso;omega)
 have hNe:S TN QH [.ptr A.length ic 0 0 0] ⟨A,false,X2⟩=some (.tup [.str [],.int .i64 3],⟨A,false,X2⟩):=by
  obtain ⟨lev,w⟩:=k1.get;exact upN (ZTH w k1.rd.rd hGd hRt rfl)
 have hAt:=upN k1.at_c;have hpl:=k3.beg.2.2
 obtain ⟨bv,hV⟩:=ZrY s (by omega) ⟨A,false,X2⟩
 replace hV:=upN hV
 have hlp2:=fun (k:List Fr) (Q:JV) hQ=>ZpO (A:=A) (m0:=X1.length) hGd hRt (by omega) (n0:=n0) hm0 (bv:=bv) k1 k2 k3 k4 (k:=k) (Q:=Q) hQ
 repeat' (first|refine hlp2 _ _ (fun X3 a3 vis3 x3 y3 j1 j2 j3 j4=>?_)|refine ZE ?_|refine ZD ?_|refine ZG rfl ?_|refine Z2 rfl ?_|refine Zf rfl rfl rfl rfl ?_|refine Zp rfl rfl ?_|refine ZB rfl ?_|refine ZC ?_|refine Qg rfl ?_|refine Qj rfl ?_|(refine Ze rfl rfl (fun _=>?_) (fun _=>?_)<;>try (exfalso;omega))|refine ZF rfl ?_|refine QS rfl rfl (by omega) ?_|refine ZA rfl rfl rfl (hNe) ?_|refine ZA rfl rfl rfl (hAt) ?_|refine ZA rfl rfl rfl (hV) ?_|refine ZH ?_|refine ZP ?_)
 all_goals try contradiction
 all_goals try (exfalso;omega)
 obtain ⟨X4,vis4,hSk,hc4,st4,e1,e2⟩:=j2.seek hGd hRt (by omega) j1 (by omega) 0 (Nat.zero_le _)
 replace hSk:=upN hSk
 have hlp3:=fun (k:List Fr) (Q:JV) hQ=>ZpP (A:=A) hGd hRt (by omega) (sp:=1+z2) (by omega) hc4 (by omega) (k:=k) (Q:=Q) hQ
 cases bv with
 | false =>
  repeat' (first|refine hlp3 _ _ (fun X5 x5 y5=>?_)|refine ZE ?_|refine ZD ?_|refine ZG rfl ?_|refine Q9 rfl rfl ?_|refine Zf rfl rfl rfl rfl ?_|refine ZB rfl ?_|refine ZC ?_|(refine Ze rfl rfl (fun _=>?_) (fun _=>?_)<;>try (exfalso;omega))|refine ZF rfl ?_|refine Zm rfl rfl (by omega) ?_|refine ZA rfl rfl rfl (hSk) ?_|refine ZA rfl rfl rfl (hPk2 _) ?_|refine ZH ?_|refine ZP ?_)
  all_goals try contradiction
  all_goals try (exfalso;omega)
  repeat' (first|refine ZG rfl ?_|refine ZB rfl ?_|refine ZC ?_|refine ZA rfl rfl rfl (hWk _) ?_|refine ZO ?_|refine ZL ?_)
  all_goals try contradiction
  all_goals refine ZX hA (by first|exact .inl rfl|exact .inr rfl) rfl rfl rfl rfl ?_
  all_goals rfl
 | true =>
  have ha0:=j4 rfl;subst ha0
  repeat' (first|refine hlp3 _ _ (fun X5 x5 y5=>?_)|refine ZE ?_|refine ZD ?_|refine ZG rfl ?_|refine Z2 rfl ?_|refine Zf rfl rfl rfl rfl ?_|refine ZB rfl ?_|refine ZC ?_|(refine Ze rfl rfl (fun _=>?_) (fun _=>?_)<;>try (exfalso;omega))|refine ZF rfl ?_|refine Zm rfl rfl (by omega) ?_|refine ZA rfl rfl rfl (hSk) ?_|refine ZA rfl rfl rfl (hPk2 _) ?_|refine ZH ?_|refine ZP ?_)
  all_goals try contradiction
  all_goals try (exfalso;omega)
  repeat' (first|refine ZG rfl ?_|refine ZB rfl ?_|refine ZC ?_|refine ZA rfl rfl rfl (hWk _) ?_|refine ZO ?_|refine ZL ?_)
  all_goals try contradiction
  all_goals refine ZX hA (by first|exact .inl rfl|exact .inr rfl) rfl rfl rfl rfl ?_
  all_goals rfl
end Go.Q15
namespace Go.QAbs
open Go.ChangeShapes Go.WideShapes Go.RowKit Go.Deep
variable {P:Program}
def rho0:Rho:=⟨fun _ _=>⟨0,0,0⟩,fun _=>(0,[])⟩
theorem Zmf (lv ix:Nat):St.empty.get lv ix=none:=by
 unfold St.empty St.get
 split<;>simp [vis]
theorem ZpR {W:World} {b o:Nat} {v:Value} (h:W.cell? ⟨b,o,none⟩=some v):(cx .empty rho0 W 0).im b o v :=
 ⟨h,fun ⟨lv,ix,w,ver,es,hg,_⟩=>by rw [Zmf] at hg;simp at hg⟩
theorem walk_in (hm:P.follows .mixedOrders=true) {T:Tab} (hT:TabOk P T) {f:FuncId} {args:List AV} (h:∃ st',S T f args .empty=some (.bool true,st')) {W:World} {xs:List Value} (hg:KG P W (.of W)) (hx:RL (cx .empty rho0 W 0) args xs) :
 Calls P f xs.toArray W fun e W'=>e=.returned (.bool true)/\Below W.heap.size W W':=by
 obtain ⟨st',h⟩:=h
 refine (ZqP hm hT h hg (Zlp W) hx).mono fun e' W' ⟨x,_,he,g,hv⟩=>?_
 subst he
 exact ⟨by rw [YV hv],g.rel.below.b⟩
theorem ZlP {W:World} {b off len cap w:Nat} (es:List AV) (g:Nat->Value) (hlen:es.length=len) (hc:len<=cap) (he:∀ (i:Nat) (e:AV),es[i]?=some e->R (cx .empty rho0 W 0).pure e (g i))
 (hg:∀ i,i<len->(g i).cells.size=w/\∀ (j:Nat) (v:Value),(g i).cells[j]?=some v->W.cell? ⟨b,off+i*w+j,none⟩=some v):R (cx .empty rho0 W 0) (.lit es) (.slice (some ⟨b,off,none⟩) len cap):=by
 subst hlen
 exact .lit (w:=w) g he (fun i hi=>⟨(hg i hi).1,fun j v hv=>ZpR ((hg i hi).2 j v hv)⟩) hc
section
variable {H:Type} {enc:TypeId × Value->H}
theorem open_strs_arg {W:World} {base:Nat} {t e:TypeId} {v:Value} {d:DataW H} {ps:List MemPlace} (ht:P.underlying t=some (.slice e)) (he:P.underlying e=some .string) (hc:P.cellsOf e=1)
 (hval:Value.okWide P W .any base t v) (h:DataW.Trod enc P W 0 (fun _=>true) true t v d ps) :
 ∃ ss:List (List UInt8),(∀ s∈ss,s.length<=maxLen)/\ss.length<=maxLen/\R (cx .empty rho0 W 0) (.lit (ss.map .str)) v:=by
 obtain ⟨a0,len,cap,rfl⟩:=okWide_slice ht hval;obtain ⟨fuel,hf⟩:=h
 rcases open_strings ht he hc hf with ⟨hcs,hx⟩|⟨a,len',cap',ss,hcs,_,hl,hm,hz,hx,hcell,hsz⟩
 ·refine ⟨[],by simp,by simp,?_⟩
  have:(Value.slice a0 len cap)=.slice none 0 0:=by simpa [Value.cells] using hcs
  rw [this];exact .lit0 _ _
 ·have hv:(Value.slice a0 len cap)=.slice (some a) len' cap':=by simpa [Value.cells] using hcs
  rw [hv];simp only [if_true] at hz
  refine ⟨(ss.take len').map (fun s=>s.data.toList),?_,?_,?_⟩
  ·intro s hs
   obtain ⟨s',hs',rfl⟩:=List.mem_map.1 hs;rw [Array.length_toList];exact hsz s' (List.mem_of_mem_take hs')
  ·rw [List.length_map,List.length_take];omega
  ·cases len' with
   | zero=>exact .lit0 _ _
   | succ n =>
    obtain ⟨b,off,spot⟩:=a
    have hspot:spot=none:=by simpa [Addr.add] using World.cell?_spot (hcell 0 (by omega))
    subst hspot
    refine ZlP (w:=1) _ (fun i=>.string (ss.getD i ByteArray.empty)) (by simp;omega) hl (fun i e he=>?_) (fun i hi=>⟨rfl,fun j v hv=>?_⟩)
    ·rw [jG,jG,List.getElem?_take] at he
     by_cases hi:i<n+1
     ·rw [if_pos hi] at he
      have hs:ss[i]?=some (ss.getD i ByteArray.empty):=by
       have:i<ss.length:=by omega
       simp [List.getD,this]
      rw [hs] at he;simp only [Option.map_some,oJ] at he;subst he;rw [Znn (ss.getD i ByteArray.empty)];exact .str _
     ·rw [if_neg hi] at he;simp at he
    ·have hj : j = 0 := by
      have:j<(Value.string (ss.getD i ByteArray.empty)).cells.size:=(Array.getElem?_eq_some_iff.1 hv).1
      simp [Value.cells] at this;omega
     subst hj
     have hv':Value.string (ss.getD i ByteArray.empty)=v:=by simpa [Value.cells] using hv
     rw [<- hv']
     have:=hcell i (by omega)
     simpa [Addr.add_lit] using this
theorem open_ops_arg {W:World} {base:Nat} {t e t0 t1 t2 t3 t4:TypeId} {f0 f1 f2 f3 f4:Field} {v:Value} {d:DataW H} {ps:List MemPlace} (ht:P.underlying t=some (.slice e)) (he:P.underlying e=some (.struct #[f0,f1,f2,f3,f4])) (hc:P.cellsOf e=5)
 (hf0:f0.type=t0/\f0.offset=0/\P.underlying t0=some (.int .u8)/\P.cellsOf t0=1) (hf1:f1.type=t1/\f1.offset=1/\P.underlying t1=some (.int .i64)/\P.cellsOf t1=1) (hf2:f2.type=t2/\f2.offset=2/\P.underlying t2=some (.int .i64)/\P.cellsOf t2=1)
 (hf3:f3.type=t3/\f3.offset=3/\P.underlying t3=some (.int .i64)/\P.cellsOf t3=1) (hf4:f4.type=t4/\f4.offset=4/\P.underlying t4=some .string/\P.cellsOf t4=1) (hval:Value.okWide P W .any base t v) (h:DataW.Trod enc P W 0 (fun _=>true) true t v d ps) :
 ∃ l:List (Nat × Int × Int × Int × List UInt8),(∀ s∈l,s.2.2.2.2.length<=maxLen)/\l.length<=maxLen/\R (cx .empty rho0 W 0) (.lit (l.map fun q=>.agg [.int .u8 q.1,.int .i64 q.2.1,.int .i64 q.2.2.1,.int .i64 q.2.2.2.1,.str q.2.2.2.2])) v:=by
 obtain ⟨a0,len,cap,rfl⟩:=okWide_slice ht hval;obtain ⟨fuel,hf⟩:=h
 rcases open_slice ht hf with ⟨hcs,hx⟩|⟨a,len',cap',m,n,D,Pl,hcs,_,hl,hm,hmm,hx,hall⟩
 ·refine ⟨[],by simp,by simp,?_⟩
  have:(Value.slice a0 len cap)=.slice none 0 0:=by simpa [Value.cells] using hcs
  rw [this];exact .lit0 _ _
 ·have hv:(Value.slice a0 len cap)=.slice (some a) len' cap':=by simpa [Value.cells] using hcs
  rw [hv];simp only [if_true] at hmm;subst hmm;rw [hc] at hall
  have each:∀ i,i<len'->∃ q:Nat × Int × Int × Int × List UInt8,q.2.2.2.2.length<=maxLen/\W.cell? (a.add (i*5))=some (.int .u8 q.1)/\W.cell? (a.add (i*5+1))=some (.int .i64 q.2.1)/\W.cell? (a.add (i*5+2))=some (.int .i64 q.2.2.1)/\W.cell? (a.add (i*5+3))=some (.int .i64 q.2.2.2.1)/\W.cell? (a.add (i*5+4))=some (.string ⟨q.2.2.2.2.toArray⟩):=by
   intro i hi
   obtain ⟨cs',h1,h2⟩:=hall i (by omega)
   obtain ⟨_,hlen,hcell⟩:=World.cells?_some h1;obtain ⟨xs,k,_,_,_,hxl,hfs⟩:=DataW.trod_struct he h2;have g0:=hfs 0 f0 rfl;have g1:=hfs 1 f1 rfl;have g2:=hfs 2 f2 rfl;have g3:=hfs 3 f3 rfl;have g4:=hfs 4 f4 rfl
   match cs',hlen,xs,hxl with
   | [c0,c1,c2,c3,c4],_,[y0,y1,y2,y3,y4],_ =>
    simp only [hf0.1,hf0.2.1,hf0.2.2.2,hf1.1,hf1.2.1,hf1.2.2.2,hf2.1,hf2.2.1,hf2.2.2.2,hf3.1,hf3.2.1,hf3.2.2.2,hf4.1,hf4.2.1,hf4.2.2.2,List.drop,List.take,List.getElem?_cons_zero,List.getElem?_cons_succ] at g0 g1 g2 g3 g4;obtain ⟨n0,e0,_,w0⟩:=DataW.trod_int hf0.2.2.1 g0;obtain ⟨n1,e1,_,_⟩:=DataW.trod_int hf1.2.2.1 g1;obtain ⟨n2,e2,_,_⟩:=DataW.trod_int hf2.2.2.1 g2;obtain ⟨n3,e3,_,_⟩:=DataW.trod_int hf3.2.2.1 g3;obtain ⟨s,e4,_,hs⟩:=DataW.trod_string hf4.2.2.1 g4;simp only [List.cons.injEq,and_true] at e0 e1 e2 e3 e4;subst e0;subst e1;subst e2;subst e3;subst e4
    have hn0:0<=n0:=by
     simp only [Lit.wf,Bool.and_eq_true,decide_eq_true_eq] at w0;exact w0.1
    refine ⟨(n0.toNat,n1,n2,n3,s.data.toList),by simp only [Array.length_toList];exact hs,?_,?_,?_,?_,?_⟩
    ·have:=hcell 0 (by omega)
     simp only [add_add,Nat.add_zero,List.getElem?_cons_zero] at this;rw [this];simp only [Int.toNat_of_nonneg hn0]
    ·have:=hcell 1 (by omega)
     simpa only [add_add,List.getElem?_cons_succ,List.getElem?_cons_zero] using this
    ·have:=hcell 2 (by omega)
     simpa only [add_add,List.getElem?_cons_succ,List.getElem?_cons_zero] using this
    ·have:=hcell 3 (by omega)
     simpa only [add_add,List.getElem?_cons_succ,List.getElem?_cons_zero] using this
    ·have:=hcell 4 (by omega)
     simp only [add_add,List.getElem?_cons_succ,List.getElem?_cons_zero] at this;rw [this,Znn s]
  obtain ⟨q,hq⟩:=choose_lt each
  refine ⟨(List.range len').map q,?_,by simp;omega,?_⟩
  ·intro s hs
   obtain ⟨i,hi,rfl⟩:=List.mem_map.1 hs;exact (hq i (List.mem_range.1 hi)).1
  ·cases len' with
   | zero=>exact .lit0 _ _
   | succ len' =>
    obtain ⟨b,off,spot⟩:=a
    have hspot:spot=none:=by simpa [Addr.add] using World.cell?_spot (hq 0 (by omega)).2.1
    subst hspot
    refine ZlP (w:=5) _ (fun i=>.agg #[.int .u8 (q i).1,.int .i64 (q i).2.1,.int .i64 (q i).2.2.1,.int .i64 (q i).2.2.2.1,.string ⟨(q i).2.2.2.2.toArray⟩]) (by simp) hl (fun i e he=>?_) (fun i hi=>⟨by simp [Value.cells],fun j v hv=>?_⟩)
    ·rw [jG,jG] at he
     by_cases hi:i<len'+1
     ·rw [List.getElem?_range hi] at he
      simp only [Option.map_some,oJ] at he;subst he;have hr:=RL.cons (C:=(cx .empty rho0 W 0).pure) (.int .u8 ((q i).1:Int)) (.cons (.int .i64 (q i).2.1) (.cons (.int .i64 (q i).2.2.1) (.cons (.int .i64 (q i).2.2.2.1) (.cons (.str (q i).2.2.2.2) (.nil _)))));exact .agg (xs:=[_,_,_,_,_]) hr.1 hr.2
     ·have:(List.range (len'+1))[i]?=none:=by simp;omega
      rw [this] at he;simp at he
    ·obtain ⟨_,k0,k1,k2,k3,k4⟩:=hq i hi
     have hj:j<5:=by
      have:=(Array.getElem?_eq_some_iff.1 hv).1
      simpa [Value.cells] using this
     simp only [Addr.add_lit] at k0 k1 k2 k3 k4
     match j,hj with
     | 0,_ =>
      have:v=.int .u8 (q i).1:=by simpa [Value.cells] using hv.symm
      subst this;simpa using k0
     | 1,_ =>
      have:v=.int .i64 (q i).2.1:=by simpa [Value.cells] using hv.symm
      subst this;simpa [Nat.add_assoc] using k1
     | 2,_ =>
      have:v=.int .i64 (q i).2.2.1:=by simpa [Value.cells] using hv.symm
      subst this;simpa [Nat.add_assoc] using k2
     | 3,_ =>
      have:v=.int .i64 (q i).2.2.2.1:=by simpa [Value.cells] using hv.symm
      subst this;simpa [Nat.add_assoc] using k3
     | 4,_ =>
      have:v=.string ⟨(q i).2.2.2.2.toArray⟩:=by simpa [Value.cells] using hv.symm
      subst this;simpa [Nat.add_assoc] using k4
end
end Go.QAbs
namespace Go.Proofs
open Go.Shelf
def Tryz.lays156_ren:Go.Shelf.Ren:=⟨fun|156=>21|165=>79|166=>80|169=>81|240=>147|241=>148|276=>209|277=>210|n=>n,fun|31=>22|9=>9|3=>3|4=>4|0=>0|20=>20|72=>134|76=>138|70=>131|37=>132|75=>137|127=>238|164=>296|5=>5|80=>140|n=>n,fun|n=>n⟩
theorem Tryz.lays156:Go.Proofs.Lays.n156 Tryz.prog Tryz.lays156_ren:={
 mixed:=by kernel_rfl
 f156:=Tryz.func21.trans (congrArg some (by kernel_rfl))
 f165:=Tryz.func79.trans (congrArg some (by kernel_rfl))
 f166:=Tryz.func80.trans (congrArg some (by kernel_rfl))
 f169:=Tryz.func81.trans (congrArg some (by kernel_rfl))
 f240:=Tryz.func147.trans (congrArg some (by kernel_rfl))
 f241:=Tryz.func148.trans (congrArg some (by kernel_rfl))
 f276:=Tryz.func209.trans (congrArg some (by kernel_rfl))
 f277:=Tryz.func210.trans (congrArg some (by kernel_rfl))
 t0:=Tryz.underlying0
 a0:=Tryz.isAgg0
 z0:=Tryz.sizeOf0
 v0:=Tryz.zeroValue0
 t3:=Tryz.underlying3
 a3:=Tryz.isAgg3
 z3:=Tryz.sizeOf3
 v3:=Tryz.zeroValue3
 t4:=Tryz.underlying4
 a4:=Tryz.isAgg4
 z4:=Tryz.sizeOf4
 v4:=Tryz.zeroValue4
 t9:=Tryz.underlying9
 a9:=Tryz.isAgg9
 z9:=Tryz.sizeOf9
 v9:=Tryz.zeroValue9
 t20:=Tryz.underlying20
 a20:=Tryz.isAgg20
 z20:=Tryz.sizeOf20
 v20:=Tryz.zeroValue20
 t31:=Tryz.underlying22
 a31:=Tryz.isAgg22
 z31:=Tryz.sizeOf22
 v31:=Tryz.zeroValue22
 t37:=Tryz.underlying132
 a37:=Tryz.isAgg132
 z37:=Tryz.sizeOf132
 v37:=Tryz.zeroValue132
 t70:=Tryz.underlying131
 a70:=Tryz.isAgg131
 z70:=Tryz.sizeOf131
 v70:=Tryz.zeroValue131
 t72:=Tryz.underlying134
 a72:=Tryz.isAgg134
 z72:=Tryz.sizeOf134
 v72:=Tryz.zeroValue134
 t75:=Tryz.underlying137
 a75:=Tryz.isAgg137
 z75:=Tryz.sizeOf137
 v75:=Tryz.zeroValue137
 t76:=Tryz.underlying138
 a76:=Tryz.isAgg138
 z76:=Tryz.sizeOf138
 v76:=Tryz.zeroValue138
 t127:=Tryz.underlying238
 a127:=Tryz.isAgg238
 z127:=Tryz.sizeOf238
 v127:=Tryz.zeroValue238
 t164:=Tryz.underlying296
 a164:=Tryz.isAgg296
 z164:=Tryz.sizeOf296
 v164:=Tryz.zeroValue296 }
theorem Tryz.Builder_Extra_156:Builder.Extra Tryz.prog Tryz.lays156_ren:={
 sizeBuilder:=by kernel_rfl
 liesBuilder:=by kernel_rfl
 t5:=Tryz.underlying5
 a5:=Tryz.isAgg5
 z5:=Tryz.sizeOf5
 v5:=Tryz.zeroValue5
 infoByte:=by kernel_rfl
 cellsByte:=by kernel_rfl
 sizeByte:=by kernel_rfl
 neB5:=by decide }
open Go.RowKit in
theorem Tryz.strings_Join_none (a:Option Addr) (c:Nat) (sep:ByteArray) (w:World) :
 Calls Tryz.prog 21 #[.slice a 0 c,.string sep] w fun e w'=>e=.returned (.string ⟨#[]⟩)/\w'=w:=Any.strings_Join_none Tryz.lays156 Tryz.Builder_Extra_156 a c sep w
open Go.RowKit in
theorem Tryz.strings_Join (bk o c:Nat) (xs:List ByteArray) (sep:ByteArray) (w:World) (hcells:∀ (j:Nat) x,xs[j]?=some x->w.cell? ⟨bk,o+j,none⟩=some (.string x)) (hbk:bk<w.heap.size) (hN:xs.length<=140737488355328) (hcap:xs.length<=c) (hlen:(Lib.join (xs.map (·.data.toList)) sep.data.toList).length<=140737488355328) :
 Calls Tryz.prog 21 #[.slice (some ⟨bk,o,none⟩) xs.length c,.string sep] w fun e w'=>e=.returned (.string ⟨(Lib.join (xs.map (·.data.toList)) sep.data.toList).toArray⟩)/\Below w.heap.size w w':=Any.strings_Join Tryz.lays156 Tryz.Builder_Extra_156 bk o c xs sep w hcells hbk hN hcap hlen
end Go.Proofs
namespace Go.Q15
open Go Go.QAbs
set_option maxRecDepth 100000
open Go.Shelf in
def ZpS:Ren:=⟨fun|41=>179|n=>n,fun|22=>185|23=>191|n=>n,fun n=>n⟩
theorem ZpT:Go.Proofs.SlLaysE0.n41 Proofs.Tryz.prog ZpS:={
 mixed:=by kernel_rfl
 f41 := ⟨"slices.Clone[[]quarto/api.Kid,quarto/api.Kid]", by decide, Proofs.Tryz.func179.trans (congrArg some (by kernel_rfl))⟩
 t4:=Proofs.Tryz.underlying4
 a4:=Proofs.Tryz.isAgg4
 z4:=Proofs.Tryz.sizeOf4
 v4:=Proofs.Tryz.zeroValue4
 t22:=Proofs.Tryz.underlying185
 a22:=Proofs.Tryz.isAgg185
 z22:=Proofs.Tryz.sizeOf185
 v22:=Proofs.Tryz.zeroValue185 }
theorem ZpU:∃ i z,Proofs.Tryz.prog.info? 191=some i/\i.zero=some z/\i.size=4/\i.bytes=32/\z.cells.size=4:=⟨_,_,rfl,rfl,rfl,rfl,rfl⟩
theorem ZkH:ZXN Proofs.Tryz.prog QC (.base (ZMz 4)):=by
 obtain ⟨i,z,h1,h2,h3,h4,h5⟩:=ZpU
 refine Zno (T:=191) (fun n c W=>Go.Proofs.AnyE.slices_Clone_nil ZpT n c W) fun ad n c news W hl hn hc ho=>?_
 exact Zlr ZpT i z 4 32 h1 h2 h3 h4 h5 (by decide) Proofs.Tryz.sizeOf191 ad n c news W hl (by unfold maxLen;omega) (by omega) hc ho
theorem Zso:ZhQ Proofs.Tryz.prog tl:=⟨⟨Proofs.Tryz.call179,ZkH⟩,⟨Proofs.Tryz.call21,ZqR Proofs.Tryz.strings_Join_none Proofs.Tryz.strings_Join⟩,Zqd⟩
def mkEd (q:Nat × Int × Int × Int × List UInt8):Ed:=⟨q.1,q.2.1,q.2.2.1,q.2.2.2.1,q.2.2.2.2⟩
theorem TN_ok:TabOk Proofs.Tryz.prog TN:=Znm (l:=tN) ⟨⟨Proofs.Tryz.call54,ZrU⟩,Zso⟩
theorem cursorTexts_run (ss:List (List UInt8)) (l:List (Nat × Int × Int × Int × List UInt8)) (which n0:Int) (h1:∀ s∈ss,s.length<=maxLen) (h2:ss.length<=maxLen) (h3:∀ s∈l,s.2.2.2.2.length<=maxLen) (h4:l.length<=maxLen) (_h5:(Lit.int .i64 which).wf=true) (_h6:(Lit.int .i64 n0).wf=true) :
 ∃ st',S TN JS [.lit (ss.map .str),.lit (l.map fun q=>.agg [.int .u8 q.1,.int .i64 q.2.1,.int .i64 q.2.2.1,.int .i64 q.2.2.2.1,.str q.2.2.2.2]),.int .i64 which,.int .i64 n0] .empty=some (.bool true,st'):=by
 have hm:maxLen<9223372036854775808:=by decide +kernel
 have:=Zdc ss (l.map mkEd) which n0 (by omega) (fun s hs=>by have:=h1 s hs;omega) (by rw [List.length_map];omega) (fun s hs=>by obtain ⟨q,hq,rfl⟩:=List.mem_map.1 hs;have:=h3 q hq;simp only [mkEd];omega) .empty
 rw [List.map_map] at this;exact ⟨_,this⟩
end Go.Q15
