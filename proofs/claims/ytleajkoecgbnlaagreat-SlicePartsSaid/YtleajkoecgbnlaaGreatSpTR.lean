/- A part of the proof: SLb, SLc, SLd, SSd, SSe, SSf, SSg, SSh, SSi, SSj, SSk, SQc, SQd, SQe, SSl, SQf, SQg, SQh, SSm, SSn, SLe, FY, SHJ, TZa, SHI2, TZo, SKa, SKb, SLf, SLj, CUa, SKc, CUc, CUd, CUe, CUf, CUg, CUh, CUb, CUi, CUj, CUk, SLk, FYi, TZp. No condition. -/
import Derived.SliceStrings
import Derived.Deep.Slices
import Derived.Carry
import Derived.Shelf.Strings.OnBuilder
import Derived.Test.YtleajkoecgbnlaaGreatProg
import Derived.Shelf.Small.Strs
import Derived.Shelf.Strings.Search1
import Derived.Shelf.Strings.Search2
import Derived.Shelf.Strings.Search3
import Derived.ChangeSlices
import Derived.Test.YtleajkoecgbnlaaGreatSpT8
set_option linter.unusedVariables false
set_option linter.unusedSimpArgs false
namespace Go.Q15
open Go Go.QAbs
set_option maxRecDepth 100000
set_option maxHeartbeats 8000000
theorem ZpD {O:Orc} {k:List Fr} {Q:JX} {e:Env} {st:St} {keep:List Nat} {is:List QAbs.PI} {d:Nat} {x y:Opd} {kd:IntKind} {a b:Int} (hx:Za e x=some (.int kd a)) (hy:Za e y=some (.int kd b)) (h:Is O is keep k Q ((d,.int kd (min a b))::e) st):Is O (⟨some d,none,false,.mnx false x y⟩::is) keep k Q e st :=
 ZOD hx hy h
theorem Zgf {O:Orc} {k:List Fr} {Q:JX} {e:Env} {st:St} {keep:List Nat} {is:List QAbs.PI} {d:Nat} {x y z:Opd} {s t:List UInt8} {n m:Int} (hx:Za e x=some (.str s)) (hy:Za e y=some (.int .i64 n)) (hz:Za e z=some (.int .i64 m)) (hn:0<=n/\n<=m/\m<=s.length) (ht:(s.drop n.toNat).take (m-n).toNat=t)
 (h:Is O is keep k Q ((d,.str t)::e) st):Is O (⟨some d,none,false,.slcS x (some y) (some z)⟩::is) keep k Q e st :=
 ZhS hx hy hz hn (by rw [ht];exact h)
theorem Zej {N:ZL} (hN:GoodN N) {r:Ro} {s:List UInt8} (h:Rt N r s) {a n:Nat} (hn:0<n) (ha:a+n<=s.length):1<=(((Jx N r (a:Int)).1.1.drop (Jx N r (a:Int)).1.2.toNat).take n).length/\(((Jx N r (a:Int)).1.1.drop (Jx N r (a:Int)).1.2.toNat).take n).length<=n:=by
 obtain ⟨k1,k2,k3,k4⟩:=ZK0 hN h (a:=a) (by omega)
 rw [List.length_take,List.length_drop];omega
theorem Zmy {N:ZL} (hN:GoodN N) {r:Ro} {s:List UInt8} (h:Rt N r s):∀ (f a n:Nat),n<=f->a+n<=s.length->pcs N r f a n=pcs N r n a n:=by
 intro f
 induction f using Nat.strongRecOn with
 | ind f ih =>
  intro a n hf ha
  cases f with
  | zero =>
   obtain rfl:n=0:=by omega
   rfl
  | succ f =>
   cases n with
   | zero=>simp [pcs]
   | succ n =>
    have hl:=Zej hN h (a:=a) (n:=n+1) (by omega) ha
    rw [pcs,pcs,if_neg (by omega),if_neg (by omega)]
    simp only
    generalize ((Jx N r (a:Int)).1.1.drop (Jx N r (a:Int)).1.2.toNat).take (n+1)=p at *
    rw [ih f (by omega) (a+p.length) (n+1-p.length) (by omega) (by omega),ih n (by omega) (a+p.length) (n+1-p.length) (by omega) (by omega)]
theorem Zmz {N:ZL} (hN:GoodN N) {r:Ro} {s:List UInt8} (h:Rt N r s) {a n:Nat} (hn:0<n) (ha:a+n<=s.length) {p:List UInt8} (hp:((Jx N r (a:Int)).1.1.drop (Jx N r (a:Int)).1.2.toNat).take n=p) :
 pcs N r n a n=p::pcs N r (n-p.length) (a+p.length) (n-p.length):=by
 have hl:=Zej hN h hn ha
 cases n with
 | zero=>omega
 | succ n =>
  rw [pcs,if_neg (by omega)]
  simp only
  rw [hp] at hl ⊢
  rw [Zmy hN h n (a+p.length) (n+1-p.length) (by omega) (by omega)]
section
variable {A:List (Bool × List Blk)} {la b:Nat} {r:Ro} {N:ZL} {s:List UInt8}
theorem ZQV {es:List AV} {a n i w ver:Nat} {xs:List AV} (hc:(pcL A la b r es a n)[i]?=some (.arr w ver xs)) (L:List Blk):St.get ⟨(pcF A la b r es a n).ps++[(false,[])],false,L⟩ A.length i=some (.arr w ver xs) :=
 Zb9 (by unfold pcF;rw [St.get_cur,hc];rfl) [(false,[])] false L
theorem Zqz {TY:Tab} (hTY:TLe Tb TY) {lv:Nat} {caps:List AV} (hcw:Zd caps=caps) (hy:∀ (es:List AV) (a n:Nat) (p:List UInt8) (more:List (Bool × List Blk)) (ro:Bool) (L:List Blk),es.length<4000000000->S TY (yB+lv) (.str p::.int .i64 0::caps) ⟨(pcF A la b r es a n).ps++more,ro,L⟩=some (.bool true,⟨(pcF A la b r (es++[.str p]) a n).ps++more,ro,L⟩))
 (hN:GoodN N) (h:Rt N r s) (hR:∀ es a n,Rd (pcF A la b r es a n) la (b+5) N) (hs:s.length<=100000) (a0 n0:Nat) (ha:a0+n0<=s.length) :
 S TY Jt [.func (.yield lv) [] caps,.ptr A.length 7 0 0 0,.ptr A.length 4 0 0 0,.ptr A.length 5 0 0 0,.ptr A.length 6 0 0 0] ⟨(pcF A la b r [] a0 n0).ps,false,[]⟩=some (.tup [],⟨(pcF A la b r ((pcs N r n0 a0 n0).map .str) (a0+n0) 0).ps,false,[]⟩):=by
 refine ZCW (hTY _ _ rfl) (fun A' hA'=>?_)
 have hA0:A'=(pcF A la b r [] a0 n0).ps++[(false,[])]:=hA'
 repeat' (refine ZQ ?_)
 refine Z1 (α:=List (List UInt8) × Nat × Nat × List (Bool × List Blk)) (fun q=>[(0,.func (.yield lv) [] caps),(1,.ptr A.length 7 0 0 0),(2,.ptr A.length 4 0 0 0),(3,.ptr A.length 5 0 0 0),(4,.ptr A.length 6 0 0 0)]) (fun q=>⟨q.2.2.2,false,[]⟩)
  (fun q=>q.2.2.2=(pcF A la b r (q.1.map .str) q.2.1 q.2.2.1).ps++[(false,[])]/\q.1++pcs N r q.2.2.1 q.2.1 q.2.2.1=pcs N r n0 a0 n0/\q.2.1+q.2.2.1=a0+n0/\q.1.length+q.2.2.1<=n0) (fun q=>q.2.2.1) ([],a0,n0,A') rfl rfl ⟨hA0,rfl,rfl,by simp⟩ ?_
 clear hA' hA0
 rintro ⟨ps,a,n,A'⟩ ⟨hA',hp,han,hpl⟩
 simp only at hA' hp han hpl ⊢
 have g7:=ZQV (A:=A) (la:=la) (b:=b) (r:=r) (es:=ps.map .str) (a:=a) (n:=n) (i:=7) rfl;have g4:=ZQV (A:=A) (la:=la) (b:=b) (r:=r) (es:=ps.map .str) (a:=a) (n:=n) (i:=4) rfl;have g5:=ZQV (A:=A) (la:=la) (b:=b) (r:=r) (es:=ps.map .str) (a:=a) (n:=n) (i:=5) rfl;have g6:=ZQV (A:=A) (la:=la) (b:=b) (r:=r) (es:=ps.map .str) (a:=a) (n:=n) (i:=6) rfl;rw [<- hA'] at g7 g4 g5 g6
 rcases Nat.eq_zero_or_pos n with hz|hpos
 ·subst hz
  have hps:ps=pcs N r n0 a0 n0:=by rw [<- hp];simp [pcs]
  repeat' (first|refine Z2 rfl (g7 _) rfl rfl ?_|refine ZE ?_|refine ZD ?_|refine ZB rfl ?_|refine ZC ?_|(refine QR rfl rfl (fun _=>?_) (fun _=>?_)<;>try (exfalso;omega))|refine ZH rfl ?_|refine Zy ?_|refine ZJ ?_|refine Zg ?_|refine Ze rfl ?_|refine Zw ?_)
  all_goals try (exfalso;omega)
  rw [<- hps,<- han,Nat.add_zero];exact Zb (st:=⟨(pcF A la b r (ps.map .str) a 0).ps,false,[]⟩) hA' (.inl rfl) rfl rfl rfl rfl rfl
 ·have hmb:r.m.b=s.length:=(h.b hN).2
  obtain ⟨k1,k2,k3,k4⟩:=ZK0 hN h (a:=a) (by omega)
  have hlen:=Zej hN h (a:=a) hpos (by omega)
  have hLf:=Zpd hTY _ _ _ _ (ZqP (b:=b) hN ((hR (ps.map .str) a n).more [(false,[])] false []) h.rt (a:Int) (by omega) (by omega) (by omega))
  rw [<- hA'] at hLf
  have hstep:=fun p hp=>Zmz hN h (a:=a) hpos (by omega) (p:=p) hp
  generalize (Jx N r (a:Int)).1.1=lf at *
  generalize (Jx N r (a:Int)).1.2=rs at *
  obtain ⟨p,hpe⟩:∃ p,(lf.drop rs.toNat).take n=p:=⟨_,rfl⟩;have hst:=hstep p hpe;rw [hpe] at hlen
  have hslc:(lf.drop rs.toNat).take (min (lf.length:Int) (rs+(n:Int))-rs).toNat=p:=by
   rw [<- hpe,List.take_eq_take_iff,List.length_drop];omega
  have hyc:=hy (ps.map .str) a n p [(false,[])] false [] (by rw [List.length_map];omega)
  rw [<- hA'] at hyc
  have e1:ps.map AV.str++[.str p]=(ps++[p]).map .str:=by simp
  rw [e1] at hyc;obtain ⟨A2,hA2⟩:∃ A2,A2=(pcF A la b r ((ps++[p]).map .str) a n).ps++[(false,[])]:=⟨_,rfl⟩;rw [<- hA2] at hyc;have q6:=ZQV (A:=A) (la:=la) (b:=b) (r:=r) (es:=(ps++[p]).map .str) (a:=a) (n:=n) (i:=6) rfl;have q7:=ZQV (A:=A) (la:=la) (b:=b) (r:=r) (es:=(ps++[p]).map .str) (a:=a) (n:=n) (i:=7) rfl;rw [<- hA2] at q6 q7
  have hne:¬ (A.length=A.length/\6=7):=by omega
  have hnz:¬ (lf.length:Int)<=rs:=by omega
  have hwk:Zd ([.str p,.int .i64 0]++caps)=.str p::.int .i64 0::caps:=by
   show weak (.str p)::weak (.int .i64 0)::Zd caps=_
   rw [hcw];rfl
  unfold Ro.av at g5 hLf
  repeat' (first|refine Z2 rfl (g7 _) rfl rfl ?_|refine Z2 rfl (g4 _) rfl rfl ?_|refine Z2 rfl (g5 _) rfl rfl ?_|refine Z2 rfl (g6 _) rfl rfl ?_|refine ZpD rfl rfl ?_|refine Zgf rfl rfl rfl (by omega) hslc ?_|refine ZmY rfl rfl hwk hyc ?_|refine Z2 rfl (q6 _) rfl rfl ?_|refine Zmq rfl rfl (by omega) (q7 _) rfl rfl ?_|refine ZYk rfl rfl rfl rfl ?_|refine ZE ?_|refine ZD ?_|refine ZG rfl ?_|refine QF rfl ?_|refine Zm rfl rfl rfl rfl ?_|refine Zu rfl rfl ?_|refine ZB rfl ?_|refine ZC ?_|refine Qy rfl ?_|(refine QR rfl rfl (fun _=>?_) (fun _=>?_)<;>try (exfalso;omega))|(refine J1 rfl rfl (fun _=>?_) (fun _=>?_)<;>try (exfalso;omega))|(refine Zj rfl rfl (fun _=>?_) (fun _=>?_)<;>try (exfalso;omega))|(refine Zn rfl rfl (fun _=>?_) (fun _=>?_)<;>try (exfalso;omega))|refine ZU rfl ?_|refine ZH rfl ?_|refine XD rfl rfl ?_|refine Zo rfl rfl (by omega) ?_|refine Qa rfl rfl (by omega) ?_|refine ZA rfl rfl rfl (hLf) ?_|refine ZI ?_|refine ZQ ?_)
  all_goals try contradiction
  all_goals try (exfalso;omega)
  have H:=(Zpi (A:=A) (la:=la) (b:=b) (r:=r) ((ps++[p]).map .str) a n).push (A:=(pcF A la b r ((ps++[p]).map .str) a n).ps) (ro:=false) (L:=[]) rfl
  have hA3:A2=(Z0 ⟨(pcF A la b r ((ps++[p]).map .str) a n).ps,false,[]⟩ (pcK A) (pcB A ((ps++[p]).map .str) a n)).ps:=by rw [H.same];exact hA2
  refine ZKs (j:=2) H hA3 rfl rfl rfl rfl rfl rfl rfl rfl rfl (fun A4 hA4 e4=>?_)
  skip
  refine ZKs (j:=3) H hA4 rfl rfl rfl rfl rfl rfl rfl rfl rfl (fun A5 hA5 e5=>?_)
  repeat' (first|refine ZB rfl ?_|refine QB ?_|refine QH ?_)
  have e6:(a:Int)+p.length=((a+p.length:Nat):Int):=by omega
  have e7:(n:Int)-p.length=((n-p.length:Nat):Int):=by omega
  have hA6:A5=(pcF A la b r ((ps++[p]).map .str) (a+p.length) (n-p.length)).ps++[(false,[])]:=by
   rw [hA5,<- Zmr (A:=A) (la:=la) (b:=b) (r:=r) ((ps++[p]).map .str) ((ps++[p]).map .str) a n (a+p.length) (n-p.length)]
   rw [Y2 (st:=pcF A la b r ((ps++[p]).map .str) a n) (ks:=pcK A) rfl (fun k hk=>Zpj k hk),e6,e7]
   rfl
  refine ⟨(ps++[p],a+p.length,n-p.length,A5),⟨rfl,rfl⟩,⟨hA6,?_,by simp only;omega,by simp only [lL,List.length_singleton];omega⟩,by simp only;omega⟩
  simp only
  rw [List.append_assoc,List.singleton_append,<- hst,hp]
end
noncomputable def tS:List (FuncId × Ent):=(Xn,.base (rfO Tb p_slice_Pieces))::(Qp,.base ZQU)::t3
noncomputable def TS:Tab:=Xk tS
theorem le3S:TLe T3 TS:=fun g y hg=>ZFO (l:=(Qp,.base ZQU)::t3) (by decide +kernel) g y (ZFO (l:=t3) (by decide +kernel) g y hg)
theorem leS:TLe Tb TS:=fun g y hg=>le3S g y (le3 g y hg)
theorem upS {f:FuncId} {args:List AV} {st:St} {r:AV × St} (h:S Tb f args st=some r):S TS f args st=some r:=Zpd leS _ _ _ _ h
section
variable {st:St} {la b:Nat} {r:Ro} {N:ZL} {s:List UInt8}
theorem ZQW (hN:GoodN N) (hR:Rd st la (b+5) N) (h:Rt N r s) (hs:s.length<=100000) {a n:Int} (h0:0<=a) (h1:0<=n) (h2:a+n<=s.length):S Tb XK [.ptr la (b+5) 0 0 0,r.av,.int .i64 a,.int .i64 n] st=some (.int .i64 0,st):=by
 refine QE rfl (fun A hA=>?_)
 have hmb:r.m.b=s.length:=(h.b hN).2
 have hK:=fun L=>ZjI (hR.push hA (ro:=false) (L:=L)) h.rt
 unfold Ro.av at *
 repeat' (first|refine ZE ?_|refine ZD ?_|refine ZG rfl ?_|refine ZO rfl rfl ?_|refine ZS rfl rfl rfl rfl ?_|refine QF rfl ?_|refine Zm rfl rfl rfl rfl ?_|refine Zu rfl rfl ?_|refine ZB rfl ?_|refine ZC ?_|(refine Zk rfl rfl (fun _=>?_) (fun _=>?_)<;>try (exfalso;omega))|(refine QR rfl rfl (fun _=>?_) (fun _=>?_)<;>try (exfalso;omega))|(refine Zn rfl rfl (fun _=>?_) (fun _=>?_)<;>try (exfalso;omega))|refine ZH rfl ?_|refine Qa rfl rfl (by omega) ?_|refine Zf rfl rfl rfl ?_|refine Z5 rfl rfl rfl (Qb _ _ _) (JS _ _) rfl ?_|refine ZA rfl rfl (by first|rfl|(simp only [lE,lN,lC,Zd,ZX,ZW];first|done|rfl)) (hK _) ?_|refine ZI ?_|refine ZP ?_|refine ZJ ?_)
 all_goals try contradiction
 all_goals try (exfalso;omega)
 all_goals refine Zb hA (by first|exact .inl rfl|exact .inr rfl) rfl rfl rfl rfl ?_
 all_goals rfl
theorem Zkc (A:List (Bool × List Blk)) (L:List Blk) (a n:Int):S Tb ZC3 [.ptr la (b+5) 0 0 0,r.av,.int .i64 a,.int .i64 n] ⟨A,false,L⟩=some (.func (.func Jt) [] [.ptr A.length (L.length+3) 0 0 0,.ptr A.length L.length 0 0 0,.ptr A.length (L.length+1) 0 0 0,.ptr A.length (L.length+2) 0 0 0],⟨A,false,L++[.arr 1 0 [.ptr la (b+5) 0 0 0],.arr 5 0 [r.av],.arr 1 0 [.int .i64 a],.arr 1 0 [.int .i64 n]]⟩):=by
 refine Xl rfl ?_;unfold Ro.av
 repeat' (first|refine ZE ?_|refine ZD ?_|refine ZG rfl ?_|refine ZB rfl ?_|refine ZC ?_|refine ZB0 rfl rfl ?_|refine Zt rfl rfl rfl ?_|refine ZP ?_|refine ZJ ?_)
 refine (Jv (.inr rfl) rfl rfl rfl rfl).trans ?_
 simp
theorem Zgg (hN:GoodN N) (hR:Rd st la (b+5) N) (h:Rt N r s) (hs:s.length<=100000) {a n:Nat} (h2:a+n<=s.length):S TS Xn [.ptr la (b+5) 0 0 0,r.av,.int .i64 a,.int .i64 n] st=some (.tup [.lit ((pcs N r n a n).map .str),.int .i64 0],st):=by
 refine s_rf (rf:=p_slice_Pieces) rfl (fun A hA=>?_)
 have hK:=fun L=>ZQW hN (hR.push hA (ro:=false) (L:=L)) h hs (a:=a) (n:=n) (by omega) (by omega) (by omega)
 have hM:=fun L=>Zkc (la:=la) (b:=b) (r:=r) A L a n
 have hS:=fun (caps:List AV) (hcw:Zd caps=caps) hcr=>Zqz (TY:=ZU2 Tb (A.length+1) (ZAw (S Tb) itS p_slice_Pieces.nt p_slice_Pieces.rng)) (fun g y hg=>Zo0 Zma _ _ g y hg) (lv:=A.length+1) (A:=A) (la:=la) (b:=b) (caps:=caps) hcw (fun es a n p more ro L hl=>Zo1 _ _ _ _ _ (Zms hcr es a n hl p more ro L)) hN h (fun es a n=>hR.push hA) hs a n h2
 have hS1:=hS (ZLO 39 [(11,.ptr A.length 2 0 0 0),(12,.ptr A.length 3 0 0 0),(27,.func (.func Jt) [] [.ptr A.length 7 0 0 0,.ptr A.length 4 0 0 0,.ptr A.length 5 0 0 0,.ptr A.length 6 0 0 0]),(28,.any),(29,.any)]) rfl ⟨_,rfl,rfl⟩;have hlen:(pcs N r n a n).length<=n:=(Zei hN h n a n (Nat.le_refl _) h2).2.2
 unfold Ro.av at *
 repeat' (first|refine ZE ?_|refine ZD ?_|refine ZG rfl ?_|refine ZS rfl rfl rfl rfl ?_|refine ZB rfl ?_|refine ZC ?_|(refine Zn rfl rfl (fun _=>?_) (fun _=>?_)<;>try (exfalso;omega))|refine ZH rfl ?_|refine Zf rfl rfl rfl ?_|refine Z5 rfl rfl rfl rfl rfl rfl ?_|refine ZDO rfl ?_|refine ZA rfl rfl rfl (hK _) ?_|refine ZA rfl rfl rfl (hM _) ?_|refine ZI ?_|refine ZJ ?_)
 all_goals try contradiction
 unfold pcF pcL Ro.av at hS1
 have hal:((pcs N r n a n).map AV.str).length=(pcs N r n a n).length:=List.length_map ..
 refine .inr ⟨rfl,_,ZqI (g:=Jt) rfl (by decide) hS1,?_⟩
 repeat' (first|refine ZE ?_|refine ZD ?_|refine ZG rfl ?_|refine ZS rfl rfl rfl rfl ?_|refine ZB rfl ?_|refine ZC ?_|refine ZI ?_|refine ZP ?_|refine ZJ ?_)
 exact ZLT hA (.inr rfl) rfl rfl rfl (fun v hv=>by obtain ⟨x,_,rfl⟩:=List.mem_map.1 hv;rfl) rfl rfl
end
section
variable {st:St} {la b:Nat} {r:Ro} {N:ZL} {s:List UInt8}
theorem ZIF (hN:GoodN N) (hR:Rd st la (b+5) N) (h:Rt N r s) (hs:s.length<=65536) {a n:Nat} (h2:a+n<=s.length):S TS YG [.ptr la (b+5) 0 0 0,r.av,.int .i64 a,.int .i64 n] st=some (.tup [.str ((s.drop a).take n),.int .i64 0],st):=by
 refine QE (T:=TS) rfl (fun A hA=>?_)
 obtain ⟨p1,p2,p3⟩:=Zei hN h n a n (Nat.le_refl _) h2
 have hP:=fun L=>Zgg hN (hR.push hA (ro:=false) (L:=L)) h (by omega) (a:=a) (n:=n) h2
 have hJ:=fun st=>upS (Zmk (pcs N r n a n) (by omega) (by rw [p1,List.length_take,List.length_drop];omega) st)
 rw [p1] at hJ
 generalize (pcs N r n a n).map AV.str=l at *
 unfold Ro.av at *
 repeat' (first|refine ZE ?_|refine ZD ?_|refine ZG rfl ?_|refine ZS rfl rfl rfl rfl ?_|refine Zu rfl rfl ?_|refine ZB rfl ?_|refine ZC ?_|refine Zf rfl rfl rfl ?_|refine ZA rfl rfl rfl (hP _) ?_|refine ZA rfl rfl rfl (hJ _) ?_|refine ZP ?_|refine ZJ ?_)
 all_goals try contradiction
 all_goals refine Zb hA (by first|exact .inl rfl|exact .inr rfl) rfl rfl rfl rfl ?_
 all_goals rfl
theorem ZiE (s t:List UInt8) (hs:s.length<=65536) (st:St):S TS ZAy [.str s,.str t] st=some (.int .i64 (Lib.index s t),st):=by
 refine QE (T:=TS) rfl (fun A hA=>?_)
 have hI:∀ st,S TS Qp [.str s,.str t] st=some (.int .i64 (Lib.index s t),st):=fun st=>ZUa (o:=ZQU) rfl (by
  unfold ZQU ZQ5
  simp only
  rw [if_pos (by omega)];rfl)
 repeat' (first|refine ZE ?_|refine ZD ?_|refine ZG rfl ?_|refine ZB rfl ?_|refine ZC ?_|refine ZA rfl rfl rfl (hI _) ?_|refine ZP ?_|refine ZJ ?_)
 refine Zb hA (by first|exact .inl rfl|exact .inr rfl) rfl rfl rfl rfl ?_
 rfl
theorem Zm0 (hN:GoodN N) (hR:Rd st la (b+5) N) (h:Rt N r s) (hs:s.length<=65536) (t:List UInt8) {a:Nat} (h2:a<=s.length) :
 S TS ZEP [.ptr la (b+5) 0 0 0,r.av,.str t,.int .i64 a] st=some (if Lib.index (s.drop a) t<0 then .tup [.int .i64 0,.bool false,.int .i64 0] else .tup [.int .i64 (a+Lib.index (s.drop a) t),.bool true,.int .i64 0],st):=by
 refine QE (T:=TS) rfl (fun A hA=>?_)
 have hmb:r.m.b=s.length:=(h.b hN).2
 have hC:=fun L=>upS (ZQW hN (hR.push hA (ro:=false) (L:=L)) h (by omega) (a:=(a:Int)) (n:=0) (by omega) (by omega) (by omega))
 have hRe:=fun L=>ZIF hN (hR.push hA (ro:=false) (L:=L)) h hs (a:=a) (n:=s.length-a) (by omega)
 rw [show ((s.length-a:Nat):Int)=r.m.b-(a:Int) by omega,List.take_of_length_le (by rw [List.length_drop];exact Nat.le_refl _)] at hRe
 have hI:=fun st=>ZiE (s.drop a) t (by rw [List.length_drop];omega) st
 have hle:Lib.index (s.drop a) t<=100000000/\-1<=Lib.index (s.drop a) t:=by
  refine ⟨?_,Lib.index_ge _ _⟩
  have key:∀ (l t:List UInt8),Lib.index l t<=l.length:=by
   intro l t
   induction l with
   | nil=>unfold Lib.index;split<;>simp
   | cons c l ih =>
    rw [Lib.index];simp only [List.length_cons]
    split
    ·omega
    ·split<;>omega
  have:=key (s.drop a) t
  rw [List.length_drop] at this;omega
 generalize Lib.index (s.drop a) t=z at *
 generalize s.drop a=sd at *
 unfold Ro.av at *
 repeat' (first|refine ZE ?_|refine ZD ?_|refine ZG rfl ?_|refine ZO rfl rfl ?_|refine ZS rfl rfl rfl rfl ?_|refine Zu rfl rfl ?_|refine ZB rfl ?_|refine ZC ?_|(refine Zk rfl rfl (fun _=>?_) (fun _=>?_)<;>try (exfalso;omega))|(refine Zn rfl rfl (fun _=>?_) (fun _=>?_)<;>try (exfalso;omega))|refine ZU rfl ?_|refine ZH rfl ?_|refine Zo rfl rfl (by omega) ?_|refine Qa rfl rfl (by omega) ?_|refine Zf rfl rfl rfl ?_|refine ZA rfl rfl rfl (hC _) ?_|refine ZA rfl rfl rfl (hRe _) ?_|refine ZA rfl rfl rfl (hI _) ?_|refine ZI ?_|refine ZP ?_|refine ZJ ?_|refine ZZ ?_)
 all_goals try contradiction
 all_goals try (exfalso;omega)
 all_goals refine Zb hA (by first|exact .inl rfl|exact .inr rfl) rfl rfl rfl rfl ?_
 ·rw [if_pos (by assumption)]
 ·rw [if_neg (by omega)]
end
theorem Zkd (A:List (Bool × List Blk)):S Tb XG [] ⟨A,false,[]⟩=some (.tup [.ptr A.length 6 0 0 0,exRo.av,.bool true],⟨A,false,[.arr 5 0 [exRo.av]]++(arB A.length 1 exR++[.arr 5 0 [exRo.av]])⟩):=by
 have hN:=ZjA 8 4 (by omega) (by omega) A [.arr 5 0 [Ro.zero.av]]
 have h1:=ZjK (ZFP A [.arr 5 0 [Ro.zero.av]] [] (JA 8 4)) (ZYg 8 4 (by omega) (by omega)) ZNf exS (by decide) (by rw [Zpg];decide)
 rw [ZYf,Zpf] at h1
 change S Tb ZB2 [.ptr A.length 6 0 0 0,.str exS] ⟨A,false,_⟩=some (_,⟨A,false,[.arr 5 0 [Ro.zero.av]]++(arB A.length 1 exR++[])⟩) at h1
 refine Xl rfl ?_
 repeat' (first|refine ZE ?_|refine ZD ?_|refine ZG rfl ?_|refine QF rfl ?_|refine Zm rfl rfl rfl rfl ?_|refine Zu rfl rfl ?_|refine ZB rfl ?_|refine ZC ?_|(refine Zn rfl rfl (fun _=>?_) (fun _=>?_)<;>try (exfalso;omega))|refine ZH rfl ?_|refine JB rfl rfl rfl rfl ?_|refine Zf rfl rfl rfl ?_|refine ZA rfl rfl rfl (hN) ?_|refine ZI ?_)
 all_goals try contradiction
 all_goals try (exfalso;omega)
 unfold exS at h1;refine ZA rfl rfl rfl h1 ?_
 change Is _ _ _ _ _ _ ⟨A,false,[.arr 5 0 [Ro.zero.av],exR.b0,exR.b1,exR.b2,exR.b3 A.length 1,exR.b4,exR.b5 A.length 1]⟩
 generalize hb0:exR.b0=b0 at *
 generalize hb1:exR.b1=b1 at *
 generalize hb2:exR.b2=b2 at *
 generalize hb3:exR.b3 A.length 1=b3 at *
 generalize hb4:exR.b4=b4 at *
 generalize hb5:exR.b5 A.length 1=b5 at *
 repeat' (first|refine ZBo rfl rfl rfl rfl rfl rfl ?_|refine ZFJ rfl rfl rfl rfl rfl rfl rfl ?_|refine ZE ?_|refine ZD ?_|refine ZG rfl ?_|refine ZO rfl rfl ?_|refine ZS rfl rfl rfl rfl ?_|refine QF rfl ?_|refine Zm rfl rfl rfl rfl ?_|refine Zu rfl rfl ?_|refine ZB rfl ?_|refine ZC ?_|(refine Zj rfl rfl (fun _=>?_) (fun _=>?_)<;>try (exfalso;omega))|refine Zf rfl rfl rfl ?_|refine Z5 rfl rfl rfl rfl rfl rfl ?_|refine ZP ?_|refine ZJ ?_)
 all_goals first|exact absurd rfl ‹_›|(refine (Zp1 (.inr rfl) rfl rfl rfl rfl rfl).trans ?_;subst hb0 hb1 hb2 hb3 hb4 hb5;rfl)
theorem Zke (st:St):S TS JY [] st=some (.bool true,st):=by
 refine QE (T:=TS) rfl (fun A hA=>?_)
 obtain ⟨o1,o2,o3⟩:=Zqx;have hS:=upS (Zkd A);generalize hX0:[Blk.arr 5 0 [exRo.av]]++(arB A.length 1 exR++[.arr 5 0 [exRo.av]])=X0 at hS
 have hHas:∀ T,Has ⟨A,false,X0++T⟩ A.length 1 exR:=fun T=>by
  rw [<- hX0]
  have:=ZFP A [.arr 5 0 [exRo.av]] ([.arr 5 0 [exRo.av]]++T) exR
  simpa [List.append_assoc] using this
 have hRe:=fun T=>ZIF (a:=7) (n:=4) o2 (hHas T).r.rd o3 (by decide) (by decide)
 have hFi:=fun T=>Zm0 (a:=0) o2 (hHas T).r.rd o3 (by decide) [105,106] (by decide)
 have e1:(exS.drop 7).take 4=[104,105,106,107]:=rfl
 have e2:Lib.index (exS.drop 0) [105,106]=8:=by decide
 rw [e1] at hRe;rw [e2] at hFi
 simp only [show ¬ ((8:Int)<0) by decide,if_false] at hFi
 repeat' (first|refine ZE ?_|refine ZD ?_|refine ZG rfl ?_|refine QF rfl ?_|refine Zm rfl rfl rfl rfl ?_|refine Zu rfl rfl ?_|refine ZB rfl ?_|refine ZC ?_|refine QY rfl rfl rfl ?_|(refine Zj rfl rfl (fun _=>?_) (fun _=>?_)<;>try (exfalso;omega))|(refine Yb rfl rfl (fun _=>?_) (fun _=>?_)<;>try contradiction)|refine ZH rfl ?_|refine XD rfl rfl ?_|refine Zt rfl rfl rfl ?_|refine Q1 rfl rfl rfl rfl rfl rfl ?_|refine ZA rfl rfl rfl (hS) ?_|refine ZA rfl rfl rfl (hRe _) ?_|refine ZA rfl rfl rfl (hFi _) ?_|refine ZI ?_|refine ZP ?_|refine ZJ ?_)
 all_goals try contradiction
 all_goals try (exfalso;omega)
 refine Zb hA (by first|exact .inl rfl|exact .inr rfl) rfl rfl rfl rfl ?_
 rfl
set_option maxHeartbeats 16000000
structure Op where
 at_:Int
 num:Int
 text:List UInt8
def Zq0 (l:List Op):Prop:=∃ s∈l,300<s.text.length
noncomputable instance (l:List Op):Decidable (Zq0 l):=Classical.propDecidable _
def ZCw (texts:List (List UInt8)) (ys:List Ed):Prop:=ZQ3 texts\/ZYj ys\/12<ys.length
noncomputable instance (texts:List (List UInt8)) (ys:List Ed):Decidable (ZCw texts ys):=Classical.propDecidable _
theorem Zm1 (texts:List (List UInt8)) (ys:List Ed) (hb:texts.length<9223372036854775808) (hbs:∀ s∈texts,s.length<9223372036854775808) (hy:ys.length<9223372036854775808) (hys:∀ y∈ys,y.text.length<9223372036854775808) (st:St) :
 S Tb Yn [.lit (texts.map .str),.lit (ys.map Ed.av)] st=some (.bool (decide (ZCw texts ys)),st):=by
 refine QE rfl (fun A hA=>?_)
 have hLg:=fun st=>ZqL texts hb hbs st
 have hMn:=fun st=>Zmh ys hy hys st
 by_cases hl:ZQ3 texts
 ·rw [decide_eq_true (show ZCw texts ys from .inl hl)]
  simp only [decide_eq_true hl] at hLg
  repeat' (first|refine ZE ?_|refine ZD ?_|refine ZG rfl ?_|refine Je rfl rfl ?_|refine Zm rfl rfl rfl rfl ?_|refine ZB rfl ?_|refine ZC ?_|refine ZA rfl rfl rfl (hLg _) ?_|refine ZP ?_|refine ZJ ?_)
  all_goals try contradiction
  all_goals refine Zb hA (by first|exact .inl rfl|exact .inr rfl) rfl rfl rfl rfl ?_
  all_goals rfl
 simp only [decide_eq_false hl] at hLg
 by_cases hm:ZYj ys
 ·rw [decide_eq_true (show ZCw texts ys from .inr (.inl hm))]
  simp only [decide_eq_true hm] at hMn
  repeat' (first|refine ZE ?_|refine ZD ?_|refine ZG rfl ?_|refine QF rfl ?_|refine Je rfl rfl ?_|refine Zm rfl rfl rfl rfl ?_|refine ZB rfl ?_|refine ZC ?_|refine ZA rfl rfl rfl (hLg _) ?_|refine ZA rfl rfl rfl (hMn _) ?_|refine ZP ?_|refine ZJ ?_)
  all_goals try contradiction
  all_goals refine Zb hA (by first|exact .inl rfl|exact .inr rfl) rfl rfl rfl rfl ?_
  all_goals rfl
 simp only [decide_eq_false hm] at hMn
 by_cases h12:12<ys.length
 ·rw [decide_eq_true (show ZCw texts ys from .inr (.inr h12))]
  repeat' (first|refine ZFl rfl ?_|refine ZE ?_|refine ZD ?_|refine ZG rfl ?_|refine QF rfl ?_|refine Zm rfl rfl rfl rfl ?_|refine ZB rfl ?_|refine ZC ?_|(refine QR rfl rfl (fun _=>?_) (fun _=>?_)<;>try (exfalso;omega))|refine ZA rfl rfl rfl (hLg _) ?_|refine ZA rfl rfl rfl (hMn _) ?_|refine ZP ?_|refine ZJ ?_)
  all_goals try contradiction
  all_goals try (exfalso;omega)
  all_goals refine Zb hA (by first|exact .inl rfl|exact .inr rfl) rfl rfl rfl rfl ?_
  all_goals rfl
 ·rw [decide_eq_false (show ¬ ZCw texts ys from fun q=>q.elim hl fun q=>q.elim hm h12)]
  repeat' (first|refine ZFl rfl ?_|refine ZE ?_|refine ZD ?_|refine ZG rfl ?_|refine QF rfl ?_|refine Zm rfl rfl rfl rfl ?_|refine ZB rfl ?_|refine ZC ?_|(refine QR rfl rfl (fun _=>?_) (fun _=>?_)<;>try (exfalso;omega))|refine ZA rfl rfl rfl (hLg _) ?_|refine ZA rfl rfl rfl (hMn _) ?_|refine ZP ?_|refine ZJ ?_)
  all_goals try contradiction
  all_goals try (exfalso;omega)
  all_goals refine Zb hA (by first|exact .inl rfl|exact .inr rfl) rfl rfl rfl rfl ?_
  all_goals rfl
theorem ZiF (x n:Int) (h0:0<=n) (h1:n<4611686018427387904) (st:St):S Tb Jm [.int .i64 x,.int .i64 n] st=some (.int .i64 (JH x n),st):=by
 refine QE rfl (fun A hA=>?_)
 have hP:=fun st=>Zef x n h0 h1 st
 repeat' (first|refine ZE ?_|refine ZD ?_|refine ZG rfl ?_|refine ZB rfl ?_|refine ZC ?_|refine ZA rfl rfl rfl (hP _) ?_|refine ZP ?_|refine ZJ ?_)
 refine Zb hA (by first|exact .inl rfl|exact .inr rfl) rfl rfl rfl rfl ?_
 rfl
section
variable {O:Orc} {k:List Fr} {Q:JX} {e:Env} {A:List (Bool × List Blk)} {L:List Blk} {keep:List Nat} {is:List QAbs.PI} {d:Nat} {st:St}
theorem Zkf {w:Nat} {x i b:Opd} {ix ver s m v2 s2 m2:Nat} {n:Int} {es:List AV} (hx:Za e x=some (.ref A.length ix ver s m)) (hb:Za e b=some (.ref A.length ix v2 s2 m2)) (hi:Za e i=some (.int .i64 n)) (hn:0<=n/\n<m) (hg:L[ix]?=some (Blk.arr w ver es))
 (h:Is O is keep k Q ((d,.ptr A.length ix ver (s+n.toNat) 0)::e) ⟨A,false,L⟩):Is O (⟨some d,none,false,.w (.only b) (.ixS w x i)⟩::is) keep k Q e ⟨A,false,L⟩:=by
 refine Z4 (v:=.ptr A.length ix ver (s+n.toNat) 0) (st':=⟨A,false,L⟩) ?_ h
 have hgt:(St.hide (fun lv ix=>!Ye lv ix (b.get e)) ⟨A,false,L⟩).get A.length ix=some (Blk.arr w ver es):=by
  rw [Yi,St.get_cur,hg,ZF hb]
  simp [Ye,vis]
 have hio:YZ m (.int .i64 n)=some n.toNat:=by simp only [YZ,if_pos hn]
 simp only [Zc,Z8,PO.reads,if_true,evalPO,ZF hx,ZF hi,ixSV,hio,hgt,wIs,oS,QV,QK]
 simp [QV,QK]
theorem ZiG {a b:Opd} {agg:Bool} {n ix ver i o w v2 s2 m2:Nat} {es:List AV} {x v:AV} (ha:Za e a=some (.ptr A.length ix ver i o)) (hb:Za e b=some (.ref A.length ix v2 s2 m2))
 (hg:L[ix]?=some (Blk.arr w ver es)) (hx:es[i]?=some x) (hv:JI x agg o n=some v) (h:Is O is keep k Q ((d,v)::e) ⟨A,false,L⟩):Is O (⟨some d,none,false,.w (.only b) (.ld agg n a)⟩::is) keep k Q e ⟨A,false,L⟩:=by
 refine Z4 (v:=v) (st':=⟨A,false,L⟩) ?_ h
 have hgt:(St.hide (fun lv ix=>!Ye lv ix (b.get e)) ⟨A,false,L⟩).get A.length ix=some (Blk.arr w ver es):=by
  rw [Yi,St.get_cur,hg,ZF hb]
  simp [Ye,vis]
 simp only [Zc,Z8,PO.reads,if_true,evalPO,ZF ha,loadP,hgt,ZCf,hx,hv,oS,QV,QK]
theorem ZqU {a x b:Opd} {n lv ix ver i o lv2 ix2 v2 s2 m2:Nat} {vx:AV} (ha:Za e a=some (.ptr lv ix ver i o)) (hb:Za e b=some (.ref lv2 ix2 v2 s2 m2)) (hx:Za e x=some vx) (hne:¬ (lv=lv2/\ix=ix2)) (hh:ZAB 6 (lv+1) vx=true)
 (h:Is O (⟨none,none,false,.st n a x⟩::is) keep k Q e st):Is O (⟨none,none,false,.w (.off b) (.st n a x)⟩::is) keep k Q e st:=by
 refine ZeX ?_ h
 have hs:Zew (.ref lv2 ix2 v2 s2 m2) (.ptr lv ix ver i o) vx=true:=by
  unfold Zew;simp only [Ye,hh,Bool.and_true,Bool.not_eq_true',Bool.and_eq_false_iff,beq_eq_false_iff_ne,ne_eq]
  by_cases q:lv=lv2
  ·exact .inr fun z=>hne ⟨q,z⟩
  ·exact .inl q
 simp only [Zc,Z8,ZjT,ZF ha,ZF hb,ZF hx,hs,if_true]
end
section
variable {n:Nat} {r:AR} {v w:Nat} {ros:List Ro} {ss:List (List UInt8)} {G0 G1 G2:List Blk}
theorem ZqV:(ltL n r v ros G0 w ss G1).length=8+G0.length+G1.length:=by
 simp [ltL];omega
end
set_option maxHeartbeats 32000000
theorem Zm2 {texts:List (List UInt8)} {ys:List Ed} (h:¬ ZCw texts ys):(texts.flatten.length<=900/\texts.length<=4)/\ys.length<=12/\∀ y∈ys,y.text.length<=200:=by
 have h1:¬ ZQ3 texts:=fun q=>h (.inl q)
 have h2:¬ ZYj ys:=fun q=>h (.inr (.inl q))
 have h3:¬ 12<ys.length:=fun q=>h (.inr (.inr q))
 obtain ⟨a,b,c⟩:=ZqS h1 h2
 exact ⟨a,by omega,c⟩
end Go.Q15
namespace Go.QAbs
open Go.ChangeShapes Go.WideShapes Go.RowKit Go.Deep
variable {P:Program}
def rho0:Rho:=⟨fun _ _=>⟨0,0,0⟩,fun _=>(0,[])⟩
theorem Zkg (lv ix:Nat):St.empty.get lv ix=none:=by
 unfold St.empty St.get
 split<;>simp [vis]
theorem Zm3 {W:World} {b o:Nat} {v:Value} (h:W.cell? ⟨b,o,none⟩=some v):(cx .empty rho0 W 0).im b o v :=
 ⟨h,fun ⟨lv,ix,w,ver,es,hg,_⟩=>by rw [Zkg] at hg;simp at hg⟩
theorem walk_in (hm:P.follows .mixedOrders=true) {T:Tab} (hT:TabOk P T) {f:FuncId} {args:List AV} (h:∃ st',S T f args .empty=some (.bool true,st')) {W:World} {xs:List Value} (hg:KG P W (.of W)) (hx:RL (cx .empty rho0 W 0) args xs) :
 Calls P f xs.toArray W fun e W'=>e=.returned (.bool true)/\Below W.heap.size W W':=by
 obtain ⟨st',h⟩:=h
 refine (ZoD hm hT h hg (Zjs W) hx).mono fun e' W' ⟨x,_,he,g,hv⟩=>?_
 subst he
 exact ⟨by rw [YD hv],g.rel.below.b⟩
theorem ZjO {W:World} {b off len cap w:Nat} (es:List AV) (g:Nat->Value) (hlen:es.length=len) (hc:len<=cap) (he:∀ (i:Nat) (e:AV),es[i]?=some e->R (cx .empty rho0 W 0).pure e (g i))
 (hg:∀ i,i<len->(g i).cells.size=w/\∀ (j:Nat) (v:Value),(g i).cells[j]?=some v->W.cell? ⟨b,off+i*w+j,none⟩=some v):R (cx .empty rho0 W 0) (.lit es) (.slice (some ⟨b,off,none⟩) len cap):=by
 subst hlen
 exact .lit (w:=w) g he (fun i hi=>⟨(hg i hi).1,fun j v hv=>Zm3 ((hg i hi).2 j v hv)⟩) hc
section
variable {H:Type} {enc:TypeId × Value->H}
theorem open_strs_arg {W:World} {base:Nat} {t e:TypeId} {v:Value} {d:DataW H} {ps:List MemPlace} (ht:P.underlying t=some (.slice e)) (he:P.underlying e=some .string) (hc:P.cellsOf e=1)
 (hval:Value.okWide P W .any base t v) (h:DataW.Trod enc P W 0 (fun _=>true) true t v d ps) :
 ∃ ss:List (List UInt8),(∀ s∈ss,s.length<=maxLen)/\ss.length<=maxLen/\R (cx .empty rho0 W 0) (.lit (ss.map .str)) v:=by
 obtain ⟨a0,len,cap,rfl⟩:=okWide_slice ht hval;obtain ⟨fuel,hf⟩:=h
 rcases open_strings ht he hc hf with ⟨hcs,hx⟩|⟨a,len',cap',ss,hcs,_,hl,hm,hz,hx,hcell,hsz⟩
 ·refine ⟨[],by simp,by simp,?_⟩
  have:(Value.slice a0 len cap)=.slice none 0 0:=by simpa [Value.cells] using hcs
  rw [this];exact .lit0 _ _
 ·have hv:(Value.slice a0 len cap)=.slice (some a) len' cap':=by simpa [Value.cells] using hcs
  rw [hv];simp only [if_true] at hz
  refine ⟨(ss.take len').map (fun s=>s.data.toList),?_,?_,?_⟩
  ·intro s hs
   obtain ⟨s',hs',rfl⟩:=List.mem_map.1 hs;rw [Array.length_toList];exact hsz s' (List.mem_of_mem_take hs')
  ·rw [List.length_map,List.length_take];omega
  ·cases len' with
   | zero=>exact .lit0 _ _
   | succ n =>
    obtain ⟨b,off,spot⟩:=a
    have hspot:spot=none:=by simpa [Addr.add] using World.cell?_spot (hcell 0 (by omega))
    subst hspot
    refine ZjO (w:=1) _ (fun i=>.string (ss.getD i ByteArray.empty)) (by simp;omega) hl (fun i e he=>?_) (fun i hi=>⟨rfl,fun j v hv=>?_⟩)
    ·rw [jG,jG,List.getElem?_take] at he
     by_cases hi:i<n+1
     ·rw [if_pos hi] at he
      have hs:ss[i]?=some (ss.getD i ByteArray.empty):=by
       have:i<ss.length:=by omega
       simp [List.getD,this]
      rw [hs] at he;simp only [Option.map_some,oJ] at he;subst he;rw [Zll (ss.getD i ByteArray.empty)];exact .str _
     ·rw [if_neg hi] at he;simp at he
    ·have hj : j = 0 := by
      have:j<(Value.string (ss.getD i ByteArray.empty)).cells.size:=(Array.getElem?_eq_some_iff.1 hv).1
      simp [Value.cells] at this;omega
     subst hj
     have hv':Value.string (ss.getD i ByteArray.empty)=v:=by simpa [Value.cells] using hv
     rw [<- hv']
     have:=hcell i (by omega)
     simpa [Addr.add_lit] using this
theorem open_ops_arg {W:World} {base:Nat} {t e t0 t1 t2 t3 t4:TypeId} {f0 f1 f2 f3 f4:Field} {v:Value} {d:DataW H} {ps:List MemPlace} (ht:P.underlying t=some (.slice e)) (he:P.underlying e=some (.struct #[f0,f1,f2,f3,f4])) (hc:P.cellsOf e=5)
 (hf0:f0.type=t0/\f0.offset=0/\P.underlying t0=some (.int .u8)/\P.cellsOf t0=1) (hf1:f1.type=t1/\f1.offset=1/\P.underlying t1=some (.int .i64)/\P.cellsOf t1=1) (hf2:f2.type=t2/\f2.offset=2/\P.underlying t2=some (.int .i64)/\P.cellsOf t2=1)
 (hf3:f3.type=t3/\f3.offset=3/\P.underlying t3=some (.int .i64)/\P.cellsOf t3=1) (hf4:f4.type=t4/\f4.offset=4/\P.underlying t4=some .string/\P.cellsOf t4=1) (hval:Value.okWide P W .any base t v) (h:DataW.Trod enc P W 0 (fun _=>true) true t v d ps) :
 ∃ l:List (Nat × Int × Int × Int × List UInt8),(∀ s∈l,s.2.2.2.2.length<=maxLen)/\l.length<=maxLen/\R (cx .empty rho0 W 0) (.lit (l.map fun q=>.agg [.int .u8 q.1,.int .i64 q.2.1,.int .i64 q.2.2.1,.int .i64 q.2.2.2.1,.str q.2.2.2.2])) v:=by
 obtain ⟨a0,len,cap,rfl⟩:=okWide_slice ht hval;obtain ⟨fuel,hf⟩:=h
 rcases open_slice ht hf with ⟨hcs,hx⟩|⟨a,len',cap',m,n,D,Pl,hcs,_,hl,hm,hmm,hx,hall⟩
 ·refine ⟨[],by simp,by simp,?_⟩
  have:(Value.slice a0 len cap)=.slice none 0 0:=by simpa [Value.cells] using hcs
  rw [this];exact .lit0 _ _
 ·have hv:(Value.slice a0 len cap)=.slice (some a) len' cap':=by simpa [Value.cells] using hcs
  rw [hv];simp only [if_true] at hmm;subst hmm;rw [hc] at hall
  have each:∀ i,i<len'->∃ q:Nat × Int × Int × Int × List UInt8,q.2.2.2.2.length<=maxLen/\W.cell? (a.add (i*5))=some (.int .u8 q.1)/\W.cell? (a.add (i*5+1))=some (.int .i64 q.2.1)/\W.cell? (a.add (i*5+2))=some (.int .i64 q.2.2.1)/\W.cell? (a.add (i*5+3))=some (.int .i64 q.2.2.2.1)/\W.cell? (a.add (i*5+4))=some (.string ⟨q.2.2.2.2.toArray⟩):=by
   intro i hi
   obtain ⟨cs',h1,h2⟩:=hall i (by omega)
   obtain ⟨_,hlen,hcell⟩:=World.cells?_some h1;obtain ⟨xs,k,_,_,_,hxl,hfs⟩:=DataW.trod_struct he h2;have g0:=hfs 0 f0 rfl;have g1:=hfs 1 f1 rfl;have g2:=hfs 2 f2 rfl;have g3:=hfs 3 f3 rfl;have g4:=hfs 4 f4 rfl
   match cs',hlen,xs,hxl with
   | [c0,c1,c2,c3,c4],_,[y0,y1,y2,y3,y4],_ =>
    simp only [hf0.1,hf0.2.1,hf0.2.2.2,hf1.1,hf1.2.1,hf1.2.2.2,hf2.1,hf2.2.1,hf2.2.2.2,hf3.1,hf3.2.1,hf3.2.2.2,hf4.1,hf4.2.1,hf4.2.2.2,List.drop,List.take,List.getElem?_cons_zero,List.getElem?_cons_succ] at g0 g1 g2 g3 g4;obtain ⟨n0,e0,_,w0⟩:=DataW.trod_int hf0.2.2.1 g0;obtain ⟨n1,e1,_,_⟩:=DataW.trod_int hf1.2.2.1 g1;obtain ⟨n2,e2,_,_⟩:=DataW.trod_int hf2.2.2.1 g2;obtain ⟨n3,e3,_,_⟩:=DataW.trod_int hf3.2.2.1 g3;obtain ⟨s,e4,_,hs⟩:=DataW.trod_string hf4.2.2.1 g4;simp only [List.cons.injEq,and_true] at e0 e1 e2 e3 e4;subst e0;subst e1;subst e2;subst e3;subst e4
    have hn0:0<=n0:=by
     simp only [Lit.wf,Bool.and_eq_true,decide_eq_true_eq] at w0;exact w0.1
    refine ⟨(n0.toNat,n1,n2,n3,s.data.toList),by simp only [Array.length_toList];exact hs,?_,?_,?_,?_,?_⟩
    ·have:=hcell 0 (by omega)
     simp only [add_add,Nat.add_zero,List.getElem?_cons_zero] at this;rw [this];simp only [Int.toNat_of_nonneg hn0]
    ·have:=hcell 1 (by omega)
     simpa only [add_add,List.getElem?_cons_succ,List.getElem?_cons_zero] using this
    ·have:=hcell 2 (by omega)
     simpa only [add_add,List.getElem?_cons_succ,List.getElem?_cons_zero] using this
    ·have:=hcell 3 (by omega)
     simpa only [add_add,List.getElem?_cons_succ,List.getElem?_cons_zero] using this
    ·have:=hcell 4 (by omega)
     simp only [add_add,List.getElem?_cons_succ,List.getElem?_cons_zero] at this;rw [this,Zll s]
  obtain ⟨q,hq⟩:=choose_lt each
  refine ⟨(List.range len').map q,?_,by simp;omega,?_⟩
  ·intro s hs
   obtain ⟨i,hi,rfl⟩:=List.mem_map.1 hs;exact (hq i (List.mem_range.1 hi)).1
  ·cases len' with
   | zero=>exact .lit0 _ _
   | succ len' =>
    obtain ⟨b,off,spot⟩:=a
    have hspot:spot=none:=by simpa [Addr.add] using World.cell?_spot (hq 0 (by omega)).2.1
    subst hspot
    refine ZjO (w:=5) _ (fun i=>.agg #[.int .u8 (q i).1,.int .i64 (q i).2.1,.int .i64 (q i).2.2.1,.int .i64 (q i).2.2.2.1,.string ⟨(q i).2.2.2.2.toArray⟩]) (by simp) hl (fun i e he=>?_) (fun i hi=>⟨by simp [Value.cells],fun j v hv=>?_⟩)
    ·rw [jG,jG] at he
     by_cases hi:i<len'+1
     ·rw [List.getElem?_range hi] at he
      simp only [Option.map_some,oJ] at he;subst he;have hr:=RL.cons (C:=(cx .empty rho0 W 0).pure) (.int .u8 ((q i).1:Int)) (.cons (.int .i64 (q i).2.1) (.cons (.int .i64 (q i).2.2.1) (.cons (.int .i64 (q i).2.2.2.1) (.cons (.str (q i).2.2.2.2) (.nil _)))));exact .agg (xs:=[_,_,_,_,_]) hr.1 hr.2
     ·have:(List.range (len'+1))[i]?=none:=by simp;omega
      rw [this] at he;simp at he
    ·obtain ⟨_,k0,k1,k2,k3,k4⟩:=hq i hi
     have hj:j<5:=by
      have:=(Array.getElem?_eq_some_iff.1 hv).1
      simpa [Value.cells] using this
     simp only [Addr.add_lit] at k0 k1 k2 k3 k4
     match j,hj with
     | 0,_ =>
      have:v=.int .u8 (q i).1:=by simpa [Value.cells] using hv.symm
      subst this;simpa using k0
     | 1,_ =>
      have:v=.int .i64 (q i).2.1:=by simpa [Value.cells] using hv.symm
      subst this;simpa [Nat.add_assoc] using k1
     | 2,_ =>
      have:v=.int .i64 (q i).2.2.1:=by simpa [Value.cells] using hv.symm
      subst this;simpa [Nat.add_assoc] using k2
     | 3,_ =>
      have:v=.int .i64 (q i).2.2.2.1:=by simpa [Value.cells] using hv.symm
      subst this;simpa [Nat.add_assoc] using k3
     | 4,_ =>
      have:v=.string ⟨(q i).2.2.2.2.toArray⟩:=by simpa [Value.cells] using hv.symm
      subst this;simpa [Nat.add_assoc] using k4
end
end Go.QAbs
namespace Go.Proofs
open Go.Shelf
def Tryz.lays156_ren:Go.Shelf.Ren:=⟨fun|156=>21|165=>79|166=>80|169=>81|240=>147|241=>148|276=>209|277=>210|n=>n,fun|31=>22|9=>9|3=>3|4=>4|0=>0|20=>20|72=>134|76=>138|70=>131|37=>132|75=>137|127=>238|164=>296|5=>5|80=>140|n=>n,fun|n=>n⟩
theorem Tryz.lays156:Go.Proofs.Lays.n156 Tryz.prog Tryz.lays156_ren:={
 mixed:=by kernel_rfl
 f156:=Tryz.func21.trans (congrArg some (by kernel_rfl))
 f165:=Tryz.func79.trans (congrArg some (by kernel_rfl))
 f166:=Tryz.func80.trans (congrArg some (by kernel_rfl))
 f169:=Tryz.func81.trans (congrArg some (by kernel_rfl))
 f240:=Tryz.func147.trans (congrArg some (by kernel_rfl))
 f241:=Tryz.func148.trans (congrArg some (by kernel_rfl))
 f276:=Tryz.func209.trans (congrArg some (by kernel_rfl))
 f277:=Tryz.func210.trans (congrArg some (by kernel_rfl))
 t0:=Tryz.underlying0
 a0:=Tryz.isAgg0
 z0:=Tryz.sizeOf0
 v0:=Tryz.zeroValue0
 t3:=Tryz.underlying3
 a3:=Tryz.isAgg3
 z3:=Tryz.sizeOf3
 v3:=Tryz.zeroValue3
 t4:=Tryz.underlying4
 a4:=Tryz.isAgg4
 z4:=Tryz.sizeOf4
 v4:=Tryz.zeroValue4
 t9:=Tryz.underlying9
 a9:=Tryz.isAgg9
 z9:=Tryz.sizeOf9
 v9:=Tryz.zeroValue9
 t20:=Tryz.underlying20
 a20:=Tryz.isAgg20
 z20:=Tryz.sizeOf20
 v20:=Tryz.zeroValue20
 t31:=Tryz.underlying22
 a31:=Tryz.isAgg22
 z31:=Tryz.sizeOf22
 v31:=Tryz.zeroValue22
 t37:=Tryz.underlying132
 a37:=Tryz.isAgg132
 z37:=Tryz.sizeOf132
 v37:=Tryz.zeroValue132
 t70:=Tryz.underlying131
 a70:=Tryz.isAgg131
 z70:=Tryz.sizeOf131
 v70:=Tryz.zeroValue131
 t72:=Tryz.underlying134
 a72:=Tryz.isAgg134
 z72:=Tryz.sizeOf134
 v72:=Tryz.zeroValue134
 t75:=Tryz.underlying137
 a75:=Tryz.isAgg137
 z75:=Tryz.sizeOf137
 v75:=Tryz.zeroValue137
 t76:=Tryz.underlying138
 a76:=Tryz.isAgg138
 z76:=Tryz.sizeOf138
 v76:=Tryz.zeroValue138
 t127:=Tryz.underlying238
 a127:=Tryz.isAgg238
 z127:=Tryz.sizeOf238
 v127:=Tryz.zeroValue238
 t164:=Tryz.underlying296
 a164:=Tryz.isAgg296
 z164:=Tryz.sizeOf296
 v164:=Tryz.zeroValue296 }
theorem Tryz.Builder_Extra_156:Builder.Extra Tryz.prog Tryz.lays156_ren:={
 sizeBuilder:=by kernel_rfl
 liesBuilder:=by kernel_rfl
 t5:=Tryz.underlying5
 a5:=Tryz.isAgg5
 z5:=Tryz.sizeOf5
 v5:=Tryz.zeroValue5
 infoByte:=by kernel_rfl
 cellsByte:=by kernel_rfl
 sizeByte:=by kernel_rfl
 neB5:=by decide }
open Go.RowKit in
theorem Tryz.strings_Join_none (a:Option Addr) (c:Nat) (sep:ByteArray) (w:World) :
 Calls Tryz.prog 21 #[.slice a 0 c,.string sep] w fun e w'=>e=.returned (.string ⟨#[]⟩)/\w'=w:=Any.strings_Join_none Tryz.lays156 Tryz.Builder_Extra_156 a c sep w
open Go.RowKit in
theorem Tryz.strings_Join (bk o c:Nat) (xs:List ByteArray) (sep:ByteArray) (w:World) (hcells:∀ (j:Nat) x,xs[j]?=some x->w.cell? ⟨bk,o+j,none⟩=some (.string x)) (hbk:bk<w.heap.size) (hN:xs.length<=140737488355328) (hcap:xs.length<=c) (hlen:(Lib.join (xs.map (·.data.toList)) sep.data.toList).length<=140737488355328) :
 Calls Tryz.prog 21 #[.slice (some ⟨bk,o,none⟩) xs.length c,.string sep] w fun e w'=>e=.returned (.string ⟨(Lib.join (xs.map (·.data.toList)) sep.data.toList).toArray⟩)/\Below w.heap.size w w':=Any.strings_Join Tryz.lays156 Tryz.Builder_Extra_156 bk o c xs sep w hcells hbk hN hcap hlen
end Go.Proofs
namespace Go.Q15
open Go Go.QAbs
set_option maxRecDepth 100000
open Go.Shelf in
def Zm4:Ren:=⟨fun|41=>179|n=>n,fun|22=>185|23=>191|n=>n,fun n=>n⟩
theorem Zm5:Go.Proofs.SlLaysE0.n41 Proofs.Tryz.prog Zm4:={
 mixed:=by kernel_rfl
 f41 := ⟨"slices.Clone[[]quarto/api.Kid,quarto/api.Kid]", by decide, Proofs.Tryz.func179.trans (congrArg some (by kernel_rfl))⟩
 t4:=Proofs.Tryz.underlying4
 a4:=Proofs.Tryz.isAgg4
 z4:=Proofs.Tryz.sizeOf4
 v4:=Proofs.Tryz.zeroValue4
 t22:=Proofs.Tryz.underlying185
 a22:=Proofs.Tryz.isAgg185
 z22:=Proofs.Tryz.sizeOf185
 v22:=Proofs.Tryz.zeroValue185 }
theorem Zm6:∃ i z,Proofs.Tryz.prog.info? 191=some i/\i.zero=some z/\i.size=4/\i.bytes=32/\z.cells.size=4:=⟨_,_,rfl,rfl,rfl,rfl,rfl⟩
theorem ZiH:ZQi Proofs.Tryz.prog QA (.base (ZJg 4)):=by
 obtain ⟨i,z,h1,h2,h3,h4,h5⟩:=Zm6
 refine Zlo (T:=191) (fun n c W=>Go.Proofs.AnyE.slices_Clone_nil Zm5 n c W) fun ad n c news W hl hn hc ho=>?_
 exact Zjw Zm5 i z 4 32 h1 h2 h3 h4 h5 (by decide) Proofs.Tryz.sizeOf191 ad n c news W hl (by unfold maxLen;omega) (by omega) hc ho
theorem Zek:Proofs.Tryz.prog.follows .mixedOrders=true:=by kernel_rfl
theorem Zm7:ZQj Proofs.Tryz.prog tl:=⟨⟨Proofs.Tryz.call179,ZiH⟩,⟨Proofs.Tryz.call21,ZoK Proofs.Tryz.strings_Join_none Proofs.Tryz.strings_Join⟩,ZoW⟩
theorem Zpl:TabOk Proofs.Tryz.prog Tb:=ZU1 Zm7
def mkEd (q:Nat × Int × Int × Int × List UInt8):Ed:=⟨q.1,q.2.1,q.2.2.1,q.2.2.2.1,q.2.2.2.2⟩
end Go.Q15
namespace Go.Proofs
open Go.Shelf
open Go.RowKit in
def Tryz.lays219_ren:Go.Shelf.Ren:=⟨fun|219=>84|217=>151|225=>152|224=>153|267=>154|266=>211|314=>212|n=>n,fun|9=>9|3=>3|4=>4|5=>5|46=>234|146=>300|51=>299|n=>n,fun|1=>0|n=>n⟩
theorem Tryz.lays219:Go.Proofs.Lays.n219 Tryz.prog Tryz.lays219_ren:={
 mixed:=by kernel_rfl
 f217:=Tryz.func151.trans (congrArg some (by kernel_rfl))
 f219:=Tryz.func84.trans (congrArg some (by kernel_rfl))
 f224:=Tryz.func153.trans (congrArg some (by kernel_rfl))
 f225:=Tryz.func152.trans (congrArg some (by kernel_rfl))
 f266:=Tryz.func211.trans (congrArg some (by kernel_rfl))
 f267:=Tryz.func154.trans (congrArg some (by kernel_rfl))
 f314:=Tryz.func212.trans (congrArg some (by kernel_rfl))
 t3:=Tryz.underlying3
 a3:=Tryz.isAgg3
 z3:=Tryz.sizeOf3
 v3:=Tryz.zeroValue3
 t4:=Tryz.underlying4
 a4:=Tryz.isAgg4
 z4:=Tryz.sizeOf4
 v4:=Tryz.zeroValue4
 t5:=Tryz.underlying5
 a5:=Tryz.isAgg5
 z5:=Tryz.sizeOf5
 v5:=Tryz.zeroValue5
 t9:=Tryz.underlying9
 a9:=Tryz.isAgg9
 z9:=Tryz.sizeOf9
 v9:=Tryz.zeroValue9
 t46:=Tryz.underlying234
 a46:=Tryz.isAgg234
 z46:=Tryz.sizeOf234
 v46:=Tryz.zeroValue234
 t51:=Tryz.underlying299
 a51:=Tryz.isAgg299
 z51:=Tryz.sizeOf299
 v51:=Tryz.zeroValue299
 t146:=Tryz.underlying300
 a146:=Tryz.isAgg300
 z146:=Tryz.sizeOf300
 v146:=Tryz.zeroValue300
 g1:=by kernel_rfl }
open Go.RowKit Go.Lib in
open Go.RowKit Go.Lib in
theorem Tryz.stringslite_Index (s sub:ByteArray) (m:Int) (w:World) (hs:s.size<4294967281) (hm:w.cell? ⟨0,0,none⟩=some (.int .i64 m)) :
 Calls Tryz.prog 84 #[.string s,.string sub] w fun e w'=>e=.returned (.int .i64 (Lib.index s.data.toList sub.data.toList))/\w'=w:=Any.stringslite_Index Tryz.lays219 s sub m w hs hm
end Go.Proofs
namespace Go.Q15
open Go Go.QAbs
set_option maxRecDepth 100000
theorem Zm8:ZQj Proofs.Tryz.prog t1:=⟨⟨Proofs.Tryz.call85,Zik Zek Zpl Proofs.Tryz.func85 ZdF⟩,Zm7⟩
theorem Zpm:TabOk Proofs.Tryz.prog T1:=ZU1 Zm8
theorem ZqW:ZQj Proofs.Tryz.prog t3:=⟨⟨Proofs.Tryz.call89,Zik Zek Zpm Proofs.Tryz.func89 ZZk⟩,⟨Proofs.Tryz.call27,Zik Zek Zpm Proofs.Tryz.func27 Zc3⟩,Zm8⟩
theorem max0 : Proofs.Tryz.prog.globalNamed "internal/bytealg.MaxLen" = some 0 := by kernel_rfl
theorem ZqX:ZQj Proofs.Tryz.prog tS:=⟨⟨Proofs.Tryz.call19,Zik Zek Zpl Proofs.Tryz.func19 ZVG⟩,⟨Proofs.Tryz.call84,Zmt max0 Proofs.Tryz.stringslite_Index⟩,ZqW⟩
theorem TS_ok:TabOk Proofs.Tryz.prog TS:=ZU1 ZqX
set_option maxHeartbeats 8000000
def ZGo (A:List (Bool × List Blk)) (r:Ro) (g:FuncId) (s:Int):St:=⟨A,false,[.arr 5 0 [r.av],.arr 1 0 [.func (.func g) [] []],.arr 1 0 [.int .i64 s]]⟩
theorem ZqY (A:List (Bool × List Blk)) (r:Ro) (g:FuncId) (s:Int):Cl (ZGo A r g s) [(A.length,2)] [.arr 1 0 [.int .i64 s]]:=by
 refine ⟨by simp,rfl,fun k hk=>?_,fun j lv ix b h1 h2=>?_⟩
 ·simp only [List.mem_singleton] at hk
  subst hk;simp [St.wr,ZGo]
 ·match j,h1,h2 with
  | 0,h1,h2=>obtain ⟨rfl,rfl⟩:=Prod.mk.inj (Option.some.inj h1);obtain rfl:=Option.some.inj h2;exact St.get_cur ..
  | n+1,h1,h2=>simp at h1
theorem ZpE (A:List (Bool × List Blk)) (r:Ro) (g:FuncId) (s t:Int):Z0 (ZGo A r g s) [(A.length,2)] [.arr 1 0 [.int .i64 t]]=ZGo A r g t:=by
 simp [Z0,St.upd,ZGo]
theorem ZpF (A:List (Bool × List Blk)) (r:Ro) {g:FuncId} {q:Mea->Int} (hq:Comp q) (hg:ZKz g q) (s:Int) (m:Mea) (L:List Blk) (h0:0<=s) (h1:s<=1000000000) (hf:m.Fit 65536) :
 S Tb XR [m.av,.ptr A.length 2 0 0 0,.ptr A.length 1 0 0 0] ⟨(ZGo A r g s).ps,false,L⟩=some (.tup [],⟨(ZGo A r g (s+q m)).ps,false,L⟩):=by
 have H:=(ZqY A r g s).push (A:=(ZGo A r g s).ps) (ro:=false) (L:=L) rfl
 have e:Z0 ⟨(ZGo A r g s).ps,false,L⟩ [(A.length,2)] [.arr 1 0 [.int .i64 (s+q m)]]=⟨(ZGo A r g (s+q m)).ps,false,L⟩:=by
  rw [Y2 rfl (fun k hk=>by simp only [List.mem_singleton] at hk;subst hk;exact Nat.le_refl _),ZpE]
 obtain ⟨f1,f2⟩:=hq.fit m 65536 hf
 have hgm:=fun st=>hg m st
 have hpart:∀ L',St.get ⟨(ZGo A r g s).ps++[(false,L)],false,L'⟩ A.length 1=some (.arr 1 0 [.func (.func g) [] []]):=fun L'=>by
  have h1:(ZGo A r g s).get A.length 1=some (.arr 1 0 [.func (.func g) [] []]):=St.get_cur ..
  exact ZV (st:=⟨(ZGo A r g s).ps,false,L⟩) rfl (ZV rfl h1)
 rw [<- e]
 refine ZCW rfl (fun A1 hA=>?_)
 have hA':A1=(Z0 ⟨(ZGo A r g s).ps,false,L⟩ [(A.length,2)] [.arr 1 0 [.int .i64 s]]).ps:=by rw [H.same];exact hA
 have g2:=fun L'=>H.old hA' rfl rfl (ro:=false) (L:=L') (j:=0) rfl rfl
 have hA0:A1=(ZGo A r g s).ps++[(false,L)]:=hA
 have hpart1:∀ L',St.get ⟨A1,false,L'⟩ A.length 1=some (.arr 1 0 [.func (.func g) [] []]):=fun L'=>by rw [hA0];exact hpart L'
 unfold Mea.av at *
 repeat' (first|refine Z2 rfl (hpart1 _) rfl rfl ?_|refine YO rfl rfl rfl (hgm _) ?_|refine ZE ?_|refine ZD ?_|refine ZS rfl rfl rfl rfl ?_|refine ZB rfl ?_|refine ZC ?_|refine Zo rfl rfl (by omega) ?_|refine Zf rfl rfl rfl ?_|refine Z2 rfl (g2 _) rfl rfl ?_)
 all_goals try contradiction
 all_goals try (exfalso;omega)
 refine ZKs H hA' rfl rfl (j:=0) rfl rfl rfl rfl rfl rfl rfl (fun A2 hA2 _=>?_)
 repeat' (first|refine ZB rfl ?_|refine ZJ ?_)
 refine Zb hA2 (.inl rfl) rfl rfl rfl rfl ?_;rfl
theorem Zm9 (A:List (Bool × List Blk)) (r:Ro) {g:FuncId} {q:Mea->Int} (hq:Comp q) (hg:ZKz g q):Pass (ZGo A r g) q XR [.ptr A.length 2 0 0 0,.ptr A.length 1 0 0 0] (A.length+1) :=
 ⟨hq,fun _=>by simp [ZGo],fun s m L h0 h1 hf=>⟨_,ZpF A r hq hg s m L h0 h1 hf⟩,fun m=>rfl⟩
theorem Zgh {g f:FuncId} {q:Mea->Int} (hq:Comp q) (hg:ZKz g q) {p:UInt8->Bool} (hp:∀ l,q (Qk l)=l.countP p) (hf:∀ (s:List UInt8) (a:Int),0<=a->a<=s.length->s.length<100001->∀ st,S Tb f [.str s,.int .i64 a] st=some (.tup [.int .i64 ((s.take a.toNat).countP p),.int .i64 0],st))
 {st:St} {la b:Nat} {N:ZL} (hN:GoodN N) (hR:Rd st la (b+5) N) {r:Ro} {s:List UInt8} (h:Rt N r s) {a:Int} (h0:0<=a) (h1:a<=s.length) (hs:s.length<=100000) :
 S Tb ZAb [.ptr la (b+5) 0 0 0,r.av,.int .i64 a,.func (.func g) [] [],.func (.func f) [] []] st=some (.tup [.int .i64 ((s.take a.toNat).countP p),.int .i64 0],st):=by
 have hm:=h.m hN
 have hmq:q r.m=s.countP p:=by rw [hm];exact hp s
 have hmb:r.m.b=s.length:=by rw [hm];rfl
 refine QE rfl (fun A hA=>?_)
 have hC:=fun L=>Zga (hR.push hA (ro:=false) (L:=L)) h.rt
 have hgm:=fun st=>hg r.m st
 rw [hmq] at hgm
 by_cases he:a=s.length
 ·have e1:s.take a.toNat=s:=by rw [List.take_of_length_le (by omega)]
  rw [e1]
  unfold Ro.av Mea.av at *
  repeat' (first|refine ZE ?_|refine ZD ?_|refine ZG rfl ?_|refine ZO rfl rfl ?_|refine ZS rfl rfl rfl rfl ?_|refine QF rfl ?_|refine Zm rfl rfl rfl rfl ?_|refine ZB rfl ?_|refine ZC ?_|(refine Zk rfl rfl (fun _=>?_) (fun _=>?_)<;>try (exfalso;omega))|(refine QR rfl rfl (fun _=>?_) (fun _=>?_)<;>try (exfalso;omega))|(refine Zj rfl rfl (fun _=>?_) (fun _=>?_)<;>try (exfalso;omega))|(refine Zn rfl rfl (fun _=>?_) (fun _=>?_)<;>try (exfalso;omega))|refine ZU rfl ?_|refine ZH rfl ?_|refine Zf rfl rfl rfl ?_|refine ZA rfl rfl rfl (hC _) ?_|refine ZA rfl rfl rfl (hgm _) ?_|refine ZI ?_|refine ZP ?_|refine ZJ ?_|refine ZZ ?_)
  all_goals try contradiction
  all_goals try (exfalso;omega)
  refine Zb hA (by first|exact .inl rfl|exact .inr rfl) rfl rfl rfl rfl ?_
  rfl
 ·obtain ⟨hz,x,x1,x2,x3,x4⟩:=h.rt.nz (by rw [hmb];omega)
  have htx:ZID N r=s:=h.tx;unfold ZID at htx;rw [if_neg hz] at htx
  obtain ⟨pre,leaf,post,t1,t2,t3,t4,t5⟩:=ZcE comp_b hq hN r.h r.at_ x a x1 x3 h0 (by rw [x4,hmb];omega)
  rw [htx] at t1
  have el:∀ l:List UInt8,(Qk l).b=l.length:=fun l=>rfl
  rw [el] at t2 t3 t4;rw [el] at t4;rw [hp] at t5;subst t1
  have hlen:(pre++leaf++post).length=pre.length+leaf.length+post.length:=by simp [Nat.add_assoc]
  have hW:=Zgc (Zm9 A r hq hg) Zgb hN (fun s=>hR.push hA (ro:=false) (L:=[.arr 5 0 [r.av],.arr 1 0 [.func (.func g) [] []],.arr 1 0 [.int .i64 s]])) h.rt hz a ⟨h0,by omega,by omega⟩ 0 ⟨by decide,by decide⟩
  rw [Int.zero_add,t2,t5] at hW
  have hin:=fun st=>hf leaf (a-pre.length) t3 (by omega) (by omega) st
  have hct:((pre++leaf++post).take a.toNat).countP p=pre.countP p+(leaf.take (a-pre.length).toNat).countP p:=by
   rw [show a.toNat=pre.length+(a-pre.length).toNat by omega,List.append_assoc,List.take_length_add_append,List.take_append_of_le_length (by omega),List.countP_append]
  have hb1:=List.countP_le_length (p:=p) (l:=pre);have hb2:=List.countP_le_length (p:=p) (l:=leaf.take (a-(pre.length:Int)).toNat);rw [List.length_take] at hb2;rw [hct]
  simp only at hW
  generalize (Q8 (QG Mea.b) q N r.h r.at_ a).2.1=path at *
  unfold ZGo at hW
  unfold Ro.av at *
  repeat' (first|refine ZE ?_|refine ZD ?_|refine ZG rfl ?_|refine ZO rfl rfl ?_|refine ZS rfl rfl rfl rfl ?_|refine QF rfl ?_|refine Zm rfl rfl rfl rfl ?_|refine Zu rfl rfl ?_|refine ZB rfl ?_|refine ZC ?_|(refine Zk rfl rfl (fun _=>?_) (fun _=>?_)<;>try (exfalso;omega))|(refine QR rfl rfl (fun _=>?_) (fun _=>?_)<;>try (exfalso;omega))|(refine Zj rfl rfl (fun _=>?_) (fun _=>?_)<;>try (exfalso;omega))|(refine Zn rfl rfl (fun _=>?_) (fun _=>?_)<;>try (exfalso;omega))|refine ZH rfl ?_|refine Zo rfl rfl (by omega) ?_|refine ZB0 rfl rfl ?_|refine Zf rfl rfl rfl ?_|refine Z5 rfl rfl rfl rfl rfl rfl ?_|refine ZA rfl rfl rfl (hC _) ?_|refine ZA rfl rfl rfl (hW) ?_|refine ZA rfl rfl rfl (hin _) ?_|refine ZI ?_|refine ZP ?_|refine ZJ ?_)
  all_goals try contradiction
  all_goals try (exfalso;omega)
  refine Zb hA (by first|exact .inl rfl|exact .inr rfl) rfl rfl rfl rfl ?_
  rfl
theorem ZcF {g:FuncId} {p:UInt8->Bool} (hg:ZpY g p) (s:List UInt8) (a:Int) (h0:0<=a) (h1:a<=s.length) (hs:s.length<100001) (st:St) :
 S Tb Y0 [.str s,.int .i64 a,.func (.func g) [] []] st=some (.tup [.int .i64 ((s.take a.toNat).countP p),.int .i64 0],st):=by
 refine QE rfl (fun A hA=>?_)
 have hC:=fun st=>ZUJ g p hg (s.take a.toNat) (by rw [List.length_take];omega) st
 repeat' (first|refine ZE ?_|refine ZD ?_|refine ZG rfl ?_|refine QF rfl ?_|refine Zm rfl rfl rfl rfl ?_|refine ZB rfl ?_|refine ZC ?_|refine Qy rfl ?_|(refine Zk rfl rfl (fun _=>?_) (fun _=>?_)<;>try (exfalso;omega))|(refine QR rfl rfl (fun _=>?_) (fun _=>?_)<;>try (exfalso;omega))|refine ZH rfl ?_|refine ZEI rfl rfl (by omega) ?_|refine ZA rfl rfl rfl (hC _) ?_|refine ZI ?_|refine ZP ?_|refine ZJ ?_)
 all_goals try contradiction
 all_goals try (exfalso;omega)
 refine Zb hA (by first|exact .inl rfl|exact .inr rfl) rfl rfl rfl rfl ?_
 rfl
theorem ZYn (s:List UInt8) (a:Int) (h0:0<=a) (h1:a<=s.length) (hs:s.length<100001) (st:St) :
 S Tb YV [.str s,.int .i64 a] st=some (.tup [.int .i64 ((s.take a.toNat).countP QD),.int .i64 0],st):=by
 refine QE rfl (fun A hA=>?_)
 have hC:=fun st=>ZcF Zf5 s a h0 h1 hs st
 repeat' (first|refine ZE ?_|refine ZD ?_|refine ZG rfl ?_|refine Zu rfl rfl ?_|refine ZB rfl ?_|refine ZC ?_|refine ZA rfl rfl rfl (hC _) ?_|refine ZP ?_|refine ZJ ?_)
 all_goals try contradiction
 refine Zb hA (by first|exact .inl rfl|exact .inr rfl) rfl rfl rfl rfl ?_
 rfl
theorem Zkh (s:List UInt8) (a:Int) (h0:0<=a) (h1:a<=s.length) (hs:s.length<100001) (st:St) :
 S Tb ZAP [.str s,.int .i64 a] st=some (.tup [.int .i64 ((s.take a.toNat).countP QW),.int .i64 0],st):=by
 refine QE rfl (fun A hA=>?_)
 have hC:=fun st=>ZcF Zi1 s a h0 h1 hs st
 repeat' (first|refine ZE ?_|refine ZD ?_|refine ZG rfl ?_|refine Zu rfl rfl ?_|refine ZB rfl ?_|refine ZC ?_|refine ZA rfl rfl rfl (hC _) ?_|refine ZP ?_|refine ZJ ?_)
 all_goals try contradiction
 refine Zb hA (by first|exact .inl rfl|exact .inr rfl) rfl rfl rfl rfl ?_
 rfl
theorem ZqZ:ZKz Yq Mea.r:=fun m st=>by
 refine QE rfl (fun A hA=>?_)
 unfold Mea.av
 repeat' (first|refine ZE ?_|refine ZD ?_|refine ZG rfl ?_|refine ZO rfl rfl ?_|refine ZS rfl rfl rfl rfl ?_|refine ZB rfl ?_|refine ZC ?_|refine Zf rfl rfl rfl ?_|refine ZP ?_|refine ZJ ?_)
 refine Zb hA (by first|exact .inl rfl|exact .inr rfl) rfl rfl rfl rfl ?_
 rfl
theorem Zqa:ZKz ZAz Mea.l:=fun m st=>by
 refine QE rfl (fun A hA=>?_)
 unfold Mea.av
 repeat' (first|refine ZE ?_|refine ZD ?_|refine ZG rfl ?_|refine ZO rfl rfl ?_|refine ZS rfl rfl rfl rfl ?_|refine ZB rfl ?_|refine ZC ?_|refine Zf rfl rfl rfl ?_|refine ZP ?_|refine ZJ ?_)
 refine Zb hA (by first|exact .inl rfl|exact .inr rfl) rfl rfl rfl rfl ?_
 rfl
theorem ZJV {st:St} {la b:Nat} {N:ZL} (hN:GoodN N) (hR:Rd st la (b+5) N) {r:Ro} {s:List UInt8} (h:Rt N r s) {a:Int} (h0:0<=a) (h1:a<=s.length) (hs:s.length<=100000) :
 S Tb Xa [.ptr la (b+5) 0 0 0,r.av,.int .i64 a] st=some (.tup [.int .i64 ((s.take a.toNat).countP QD),.int .i64 0],st):=by
 refine QE rfl (fun A hA=>?_)
 have hB:=fun L=>Zgh ZqM ZqZ (p:=QD) (fun l=>rfl) (fun s a h0 h1 hs st=>ZYn s a h0 h1 hs st) hN (hR.push hA (ro:=false) (L:=L)) h h0 h1 hs
 unfold Ro.av at *
 repeat' (first|refine ZE ?_|refine ZD ?_|refine ZG rfl ?_|refine ZS rfl rfl rfl rfl ?_|refine Zu rfl rfl ?_|refine ZB rfl ?_|refine ZC ?_|refine Zf rfl rfl rfl ?_|refine ZA rfl rfl rfl (hB _) ?_|refine ZP ?_|refine ZJ ?_)
 all_goals try contradiction
 refine Zb hA (by first|exact .inl rfl|exact .inr rfl) rfl rfl rfl rfl ?_
 rfl
theorem Zgi {st:St} {la b:Nat} {N:ZL} (hN:GoodN N) (hR:Rd st la (b+5) N) {r:Ro} {s:List UInt8} (h:Rt N r s) {a:Int} (h0:0<=a) (h1:a<=s.length) (hs:s.length<=100000) :
 S Tb ZC2 [.ptr la (b+5) 0 0 0,r.av,.int .i64 a] st=some (.tup [.int .i64 ((s.take a.toNat).countP QW),.int .i64 0],st):=by
 refine QE rfl (fun A hA=>?_)
 have hB:=fun L=>Zgh ZqN Zqa (p:=QW) (fun l=>rfl) (fun s a h0 h1 hs st=>Zkh s a h0 h1 hs st) hN (hR.push hA (ro:=false) (L:=L)) h h0 h1 hs
 unfold Ro.av at *
 repeat' (first|refine ZE ?_|refine ZD ?_|refine ZG rfl ?_|refine ZS rfl rfl rfl rfl ?_|refine Zu rfl rfl ?_|refine ZB rfl ?_|refine ZC ?_|refine Zf rfl rfl rfl ?_|refine ZA rfl rfl rfl (hB _) ?_|refine ZP ?_|refine ZJ ?_)
 all_goals try contradiction
 refine Zb hA (by first|exact .inl rfl|exact .inr rfl) rfl rfl rfl rfl ?_
 rfl
set_option maxHeartbeats 16000000
theorem ZcG (p:UInt8->Bool) (s:List UInt8) (a n:Nat):(s.take (a+n)).countP p=(s.take a).countP p+((s.drop a).take n).countP p:=by
 rw [List.take_add,List.countP_append]
theorem ZpG {O:Orc} {k:List Fr} {Q:JX} {e:Env} {A:List (Bool × List Blk)} {L:List Blk} {keep:List Nat} {is:List QAbs.PI} {d w:Nat} {x i:Opd} {ix ver:Nat} {n:Int} {es:List AV} (hx:Za e x=some (.ref A.length ix ver 0 2)) (hi:Za e i=some (.int .i64 n)) (hn:0<=n/\n<2) (hg:L[ix]?=some (Blk.arr w ver es)) (h:Is O is keep k Q ((d,.ptr A.length ix ver (0+n.toNat) 0)::e) ⟨A,false,L⟩):Is O (⟨some d,none,false,.ixS w x i⟩::is) keep k Q e ⟨A,false,L⟩ :=
 ZIN hx hi (by omega) hg h
theorem ZpH {b ix ver i o:Nat} {g:FuncId} (st:St):ZY QJ (b+1) st (.agg [.func (.func g) [] [],.ptr b ix ver i o])=some (.agg [.func (.func g) [] [],.ptr b ix ver i o],st):=by
 show (mapSt (keepN (ZY 5 (b+1))) _ _).bind ZFm=_
 simp only [mapSt,keepN,XB,jB,if_false,ZY,Zer,if_true,oS,if_pos (Nat.lt_succ_self b),YY,ZFm]
theorem ZjP (p:UInt8->Bool) (s:List UInt8) (a:Nat):(s.take a).countP p<=s.length:=by
 have h:=List.countP_le_length (p:=p) (l:=s.take a);rw [List.length_take] at h;omega
section
variable {st:St} {la b:Nat} {r:Ro} {N:ZL} {s:List UInt8}
theorem Zgj (hN:GoodN N) (hR:Rd st la (b+5) N) (h:Rt N r s) (hs:s.length<=65536) {a n:Nat} (h2:a+n<=s.length):S Tb ZAx [.ptr la (b+5) 0 0 0,r.av,.int .i64 a,.int .i64 n] st=some (.tup [(Qk ((s.drop a).take n)).av,.int .i64 0],st):=by
 refine QE rfl (fun A hA=>?_)
 have hC:=fun L=>ZQW hN (hR.push hA (ro:=false) (L:=L)) h (by omega) (a:=(a:Int)) (n:=(n:Int)) (by omega) (by omega) (by omega)
 have hB1:=fun L=>ZJV (b:=b) hN (hR.push hA (ro:=false) (L:=L)) h (a:=(a:Int)) (by omega) (by omega) (by omega)
 have hB2:=fun L=>ZJV (b:=b) hN (hR.push hA (ro:=false) (L:=L)) h (a:=(a:Int)+(n:Int)) (by omega) (by omega) (by omega)
 have hF1:=fun L=>Zgi (b:=b) hN (hR.push hA (ro:=false) (L:=L)) h (a:=(a:Int)) (by omega) (by omega) (by omega)
 have hF2:=fun L=>Zgi (b:=b) hN (hR.push hA (ro:=false) (L:=L)) h (a:=(a:Int)+(n:Int)) (by omega) (by omega) (by omega)
 have e1:=ZcG QD s a n;have e2:=ZcG QW s a n;have l1:=ZjP QD s (a+n);have l2:=ZjP QW s (a+n)
 rw [show ((a:Nat):Int).toNat=a by omega] at hB1 hF1
 rw [show ((a:Int)+(n:Int)).toNat=a+n by omega] at hB2 hF2
 have hm:(Qk ((s.drop a).take n)).av=.agg [.int .i64 (n:Int),.int .i64 ((((s.take (a+n)).countP QD:Nat):Int)-(((s.take a).countP QD:Nat):Int)),.int .i64 ((((s.take (a+n)).countP QW:Nat):Int)-(((s.take a).countP QW:Nat):Int))]:=by
  have e3:((s.drop a).take n).length=n:=by rw [List.length_take,List.length_drop];omega
  unfold Qk Mea.av;simp only [e3]
  rw [show ((((s.take (a+n)).countP QD:Nat):Int)-(((s.take a).countP QD:Nat):Int))=((((s.drop a).take n).countP QD:Nat):Int) by omega,show ((((s.take (a+n)).countP QW:Nat):Int)-(((s.take a).countP QW:Nat):Int))=((((s.drop a).take n).countP QW:Nat):Int) by omega]
 rw [hm]
 generalize (s.take (a+n)).countP QD=c2 at *
 generalize (s.take a).countP QD=c1 at *
 generalize (s.take (a+n)).countP QW=d2 at *
 generalize (s.take a).countP QW=d1 at *
 clear hm
 unfold Ro.av at *
 repeat' (first|refine ZpG rfl rfl (by omega) rfl ?_|refine ZU8 rfl rfl rfl rfl (ZpH _) rfl rfl ?_|refine ZE ?_|refine ZD ?_|refine ZG rfl ?_|refine ZO rfl rfl ?_|refine ZS rfl rfl rfl rfl ?_|refine Zu rfl rfl ?_|refine ZB rfl ?_|refine ZC ?_|refine Zl rfl rfl ?_|refine Qf rfl ?_|(refine Zk rfl rfl (fun _=>?_) (fun _=>?_)<;>try (exfalso;omega))|(refine Zn rfl rfl (fun _=>?_) (fun _=>?_)<;>try (exfalso;omega))|refine ZU rfl ?_|refine ZH rfl ?_|refine Zo rfl rfl (by omega) ?_|refine Qa rfl rfl (by omega) ?_|refine Zq rfl rfl rfl ?_|refine Zf rfl rfl rfl ?_|refine Z5 rfl rfl rfl rfl rfl rfl ?_|refine Zff rfl rfl rfl rfl ?_|refine J7 ?_|refine ZA rfl rfl rfl (hC _) ?_|refine ZA rfl rfl rfl (hB1 _) ?_|refine ZA rfl rfl rfl (hB2 _) ?_|refine ZA rfl rfl rfl (hF1 _) ?_|refine ZA rfl rfl rfl (hF2 _) ?_|refine ZI ?_|refine ZP ?_|refine Zy ?_|refine ZQ ?_|refine ZJ ?_|refine Zg ?_|refine QB ?_|refine Ze rfl ?_)
 all_goals try contradiction
 all_goals try (exfalso;omega)
 all_goals try (exfalso;simp only [List.length_cons,List.length_nil] at *;omega)
 all_goals refine Y8 hA (by first|exact .inl rfl|exact .inr rfl) rfl rfl rfl rfl rfl ?_
 all_goals rfl
end
set_option maxHeartbeats 64000000
section
variable {A:List (Bool × List Blk)} {Y:List Blk} {ps:List (List UInt8)} {v3 v4 v11 v16 v17 v18 v22:AV} {k:List Fr} {Q:JX}
def Zgk (ps:List (List UInt8)) (i:Nat):Blk:=.arr 3 0 [.agg [.int .i64 ((ps.take i).flatten.length:Nat),.int .i64 ((ps.take i).flatten.countP QD:Nat),.int .i64 ((ps.take i).flatten.countP QW:Nat)]]
theorem ZpI (hp:∀ p∈ps,1<=p.length/\p.length<=16) (hf:ps.flatten.length<=100000) (hl:ps.length<=100000)
 (hQ:∀ E (x y:AV),Rk (S TS) k Q .norm [(3,v3),(4,v4),(11,v11),(16,v16),(17,v17),(18,v18),(20,.lit (ps.map .str)),(22,v22),(24,.ptr A.length Y.length 0 0 0),(25,x),(129,y)] ⟨A,false,Y++(Zgk ps ps.length::E)⟩) :
 Ru (S TS) p_quartolaw18_SliceParts_25.loop (.blk 0::k) Q [(3,v3),(4,v4),(11,v11),(16,v16),(17,v17),(18,v18),(20,.lit (ps.map .str)),(22,v22),(24,.ptr A.length Y.length 0 0 0),(25,.int .i64 0)] ⟨A,false,Y++[.arr 3 0 [.agg [.int .i64 0,.int .i64 0,.int .i64 0]]]⟩:=by
 refine Z1 (α:=Nat × List Blk) (fun q=>[(3,v3),(4,v4),(11,v11),(16,v16),(17,v17),(18,v18),(20,.lit (ps.map .str)),(22,v22),(24,.ptr A.length Y.length 0 0 0),(25,.int .i64 q.1)]) (fun q=>⟨A,false,Y++(Zgk ps q.1::q.2)⟩) (fun q=>q.1<=ps.length) (fun q=>ps.length-q.1) (0,[]) rfl rfl (Nat.zero_le _) ?_
 rintro ⟨i,E⟩ hi
 replace hi:i<=ps.length:=hi
 simp only
 rcases Nat.lt_or_ge i ps.length with hlt|hge
 ·obtain ⟨p,hpi⟩:∃ x,ps[i]?=some x:=⟨ps[i]'hlt,jE _⟩
  have q:0<=((i:Nat):Int)/\ps[((i:Nat):Int).toNat]?=some p:=⟨by omega,by rw [show ((i:Nat):Int).toNat=i by omega];exact hpi⟩
  have hpl:=hp p (jM hpi)
  have hM:=fun st=>upS (ZNn p (by omega) st)
  have ets:(ps.take (i+1)).flatten=(ps.take i).flatten++p:=by
   rw [Zi hpi,List.flatten_append];simp
  have el:(ps.take (i+1)).flatten.length=(ps.take i).flatten.length+p.length:=by rw [ets,lL]
  have er:(ps.take (i+1)).flatten.countP QD=(ps.take i).flatten.countP QD+p.countP QD:=by rw [ets,List.countP_append]
  have eN:(ps.take (i+1)).flatten.countP QW=(ps.take i).flatten.countP QW+p.countP QW:=by rw [ets,List.countP_append]
  have bl:(ps.take i).flatten.length<=100000:=by
   have:(ps.take i++ps.drop i).flatten.length<=100000:=by rw [List.take_append_drop];exact hf
   rw [List.flatten_append,lL] at this;omega
  have br:=List.countP_le_length (p:=QD) (l:=(ps.take i).flatten);have bn:=List.countP_le_length (p:=QW) (l:=(ps.take i).flatten);have br2:=List.countP_le_length (p:=QD) (l:=p);have bn2:=List.countP_le_length (p:=QW) (l:=p)
  have hend:Zgk ps (i+1)=.arr 3 0 [.agg [.int .i64 (((ps.take i).flatten.length:Nat)+(p.length:Nat):Int),.int .i64 (((ps.take i).flatten.countP QD:Nat)+(p.countP QD:Nat):Int),.int .i64 (((ps.take i).flatten.countP QW:Nat)+(p.countP QW:Nat):Int)]]:=by
   unfold Zgk;rw [el,er,eN,Int.natCast_add,Int.natCast_add,Int.natCast_add]
  unfold Qk Mea.av at hM
  simp only at hM
  unfold Zgk
  generalize (ps.take i).flatten.length=sb at *
  generalize (ps.take i).flatten.countP QD=sr at *
  generalize (ps.take i).flatten.countP QW=sn at *
  generalize p.countP QD=pr at *
  generalize p.countP QW=pn at *
  have h24:∀ (S0:Blk) (E:List Blk) (c:Blk),(Y++(S0::E)++[c])[Y.length]?=some S0:=fun S0 E c=>by
   rw [List.append_assoc,List.getElem?_append_right (Nat.le_refl _),Nat.sub_self];rfl
  have hjE:∀ (L:List Blk) (c:Blk),(L++[c])[L.length]?=some c:=fun L c=>by rw [List.getElem?_append_right (Nat.le_refl _),Nat.sub_self];rfl
  have hset:∀ (L:List Blk) (B:Blk),Y.length<L.length->(L.set Y.length B)[Y.length]?=some B:=fun L B h=>by rw [List.getElem?_set_self h]
  have hbne:∀ (S0:Blk) (E:List Blk),Nat.beq (Y++(S0::E)).length Y.length=false:=fun S0 E=>by
   have hn:(Y++(S0::E)).length≠Y.length:=by rw [lL,List.length_cons];omega
   cases h:Nat.beq (Y++(S0::E)).length Y.length with
   | false=>rfl
   | true=>exact absurd (Nat.eq_of_beq_eq_true h) hn
  have hfin:∀ (S0:Blk) (E:List Blk) (c B:Blk),(Y++(S0::E)++[c]).set Y.length B=Y++(B::(E++[c])):=fun S0 E c B=>by
   rw [List.append_assoc,List.set_append_right _ _ (Nat.le_refl _),Nat.sub_self];rfl
  repeat' (first|refine ZFl rfl ?_|refine Y5 (f:=AV.str) rfl rfl q (fun _=>rfl) ?_|refine ZS rfl (h24 _ _ _) rfl rfl ?_|refine ZS rfl (hjE _ _) rfl rfl ?_|refine ZBo rfl rfl (hbne _ _) (hjE _ _) rfl rfl ?_|refine ZYk rfl rfl rfl rfl ?_|refine ZU8 rfl rfl (h24 _ _ _) rfl rfl rfl (Yu _) ?_|refine ZU8 rfl rfl (hset _ _ (by simp)) rfl rfl rfl (Yu _) ?_|refine ZE ?_|refine ZD ?_|refine ZG rfl ?_|refine ZO rfl rfl ?_|refine QF rfl ?_|refine Zm rfl rfl rfl rfl ?_|refine ZB rfl ?_|refine ZC ?_|refine Qy rfl ?_|refine Qg rfl rfl ?_|(refine Zk rfl rfl (fun _=>?_) (fun _=>?_)<;>try (exfalso;omega))|(refine QR rfl rfl (fun _=>?_) (fun _=>?_)<;>try (exfalso;omega))|refine ZU rfl ?_|refine ZH rfl ?_|refine Zo rfl rfl (by omega) ?_|refine Zt rfl rfl rfl ?_|refine Q1 rfl rfl rfl rfl rfl rfl ?_|refine ZA rfl rfl rfl (hM _) ?_|refine ZI ?_|refine ZQ ?_|refine QB ?_|refine QH ?_)
  all_goals try contradiction
  all_goals try (exfalso;omega)
  refine ⟨(i+1,E++[Blk.arr 3 0 [.agg [.int .i64 p.length,.int .i64 pr,.int .i64 pn]]]),⟨rfl,?_⟩,by simp only;omega,by simp only;omega⟩
  show (⟨A,false,_⟩:St)=⟨A,false,Y++(Zgk ps (i+1)::(E++[Blk.arr 3 0 [.agg [.int .i64 p.length,.int .i64 pr,.int .i64 pn]]]))⟩
  rw [hend,List.set_set,List.set_set,hfin];rfl
 ·obtain rfl:i=ps.length:=by omega
  have hq:=fun x y=>hQ E x y
  repeat' (first|refine ZFl rfl ?_|exact hq _ _|refine ZE ?_|refine ZD ?_|refine ZG rfl ?_|refine ZB rfl ?_|refine ZC ?_|(refine Zk rfl rfl (fun _=>?_) (fun _=>?_)<;>try (exfalso;omega))|refine ZH rfl ?_|refine Zy ?_|refine Zg ?_|refine Ze rfl ?_|refine Zw ?_)
  all_goals try contradiction
  all_goals try (exfalso;omega)
end
section
variable {st:St} {lv ic li ver la b:Nat} {r:Ro} {es:List AV} {vis:Int} {N:ZL} {s:List UInt8} {a:Nat}
end
def RdM (st:St) (la ix im:Nat) (N:ZL):Prop:=∃ a0 a1 a3 a4 a5,st.get la ix=some (.arr 6 0 [.agg [a0,a1,.map la im,a3,a4,a5]])/\st.get la im=some (.map (N.map nodeAV))
theorem RdM.rd {st:St} {la ix im:Nat} {N:ZL} (h:RdM st la ix im N):Rd st la ix N:=by
 obtain ⟨a0,a1,a3,a4,a5,h1,h2⟩:=h;exact ⟨a0,a1,im,a3,a4,a5,h1,h2⟩
theorem RdM.app {A:List (Bool × List Blk)} {L:List Blk} {la ix im:Nat} {N:ZL} (h:RdM ⟨A,false,L⟩ la ix im N) (T:List Blk):RdM ⟨A,false,L++T⟩ la ix im N:=by
 obtain ⟨a0,a1,a3,a4,a5,h1,h2⟩:=h;exact ⟨a0,a1,a3,a4,a5,Yv h1,Yv h2⟩
section
variable {A:List (Bool × List Blk)} {X:List Blk} {ic li la b im:Nat} {r:Ro} {N:ZL} {s:List UInt8} {a:Nat} {vis:Int}
section
variable (hN:GoodN N) (h:Rt N r s) (h0:r.at_≠0) (hs:s.length<=100000)
include hN h h0 hs
end
end
theorem eqM3 (a b c:Int):eqV [(0,0),(1,0),(2,0)] 0 (.agg [.int .i64 a,.int .i64 b,.int .i64 c]) (.agg [.int .i64 a,.int .i64 b,.int .i64 c])=some true:=by
 simp [eqV,JU,ZcQ]
theorem ZpN {O:Orc} {k:List Fr} {Q:JX} {e:Env} {st:St} {keep:List Nat} {is:List QAbs.PI} {d:Nat} {x y:Opd} {a b c:List UInt8} (hx:Za e x=some (.str a)) (hy:Za e y=some (.str b)) (hl:a.length+b.length<4611686018427387904) (he:a++b=c) (h:Is O is keep k Q ((d,.str c)::e) st):Is O (⟨some d,none,false,.bin .add x y⟩::is) keep k Q e st:=by
 subst he;exact ZhQ hx hy hl h
theorem Zeo (texts:List (List UInt8)) (ys:List Ed) (which at_ num:Int) (hb:texts.length<9223372036854775808) (hbs:∀ s∈texts,s.length<9223372036854775808) (hy:ys.length<9223372036854775808) (hys:∀ y∈ys,y.text.length<9223372036854775808) (st:St) :
 S TS J2 [.lit (texts.map .str),.lit (ys.map Ed.av),.int .i64 which,.int .i64 at_,.int .i64 num] st=some (.bool true,st):=by
 refine QE (T:=TS) rfl (fun A hA=>?_)
 have hBy:=fun st=>upS (Zm1 texts ys hb hbs hy hys st)
 have hWk:=fun st=>Zke st
 by_cases hl:ZCw texts ys
 ·simp only [decide_eq_true hl] at hBy
  repeat' (first|refine ZE ?_|refine ZD ?_|refine ZG rfl ?_|refine ZB rfl ?_|refine ZC ?_|refine ZU rfl ?_|refine ZA rfl rfl rfl (hBy _) ?_|refine ZA rfl rfl rfl (hWk _) ?_|refine ZP ?_|refine ZJ ?_|refine ZZ ?_)
  all_goals try contradiction
  all_goals refine Zb hA (by first|exact .inl rfl|exact .inr rfl) rfl rfl rfl rfl ?_
  all_goals rfl
 simp only [decide_eq_false hl] at hBy;obtain ⟨h9,h12,hy2⟩:=Zm2 hl;obtain ⟨v,st',hMk0,r,c,ros,ss,G0,G1,n,rfl,rfl,hI⟩:=ZqT texts ys h9 h12 hy2 A;have hMk:=upS hMk0;clear hMk0;have hn20:=hI.n20;have hrs:=hI.len;have hsl:=hI.rts.1
 rcases Nat.eq_zero_or_pos n with hn0|hpos
 ·subst hn0
  repeat' (first|refine ZE ?_|refine ZD ?_|refine ZG rfl ?_|refine Zu rfl rfl ?_|refine ZB rfl ?_|refine ZC ?_|refine Qf rfl ?_|(refine Zj rfl rfl (fun _=>?_) (fun _=>?_)<;>try (exfalso;omega))|refine ZU rfl ?_|refine ZH rfl ?_|refine XD rfl rfl ?_|refine ZA rfl rfl rfl (hBy _) ?_|refine ZA rfl rfl rfl (hWk _) ?_|refine ZA rfl rfl rfl (hMk) ?_|refine ZI ?_|refine ZP ?_|refine ZJ ?_|refine ZZ ?_)
  all_goals try contradiction
  all_goals try (exfalso;omega)
  all_goals refine Zb hA (by first|exact .inl rfl|exact .inr rfl) rfl rfl rfl rfl ?_
  all_goals rfl
 have hpb:=Qs (x:=which) (n:=(n:Int)-1) (by omega)
 have hPk:=fun st=>upS (ZiF which ((n:Int)-1) (by omega) (by omega) st)
 generalize JH which ((n:Int)-1)=z at *
 obtain ⟨ro,hro⟩:∃ x,ros[z.toNat]?=some x:=⟨_,jE (by omega)⟩
 obtain ⟨s,hs⟩:∃ x,ss[z.toNat]?=some x:=⟨_,jE (by omega)⟩
 have hRt:=hI.rts.2 z.toNat ro s hro hs;have hsm:=hI.small s (jM hs);have hGd:=hI.good
 have hpb2:=Qs (x:=at_) (n:=(s.length:Int)) (by omega)
 have hPk2:=fun st=>upS (ZiF at_ (s.length:Int) (by omega) (by omega) st)
 generalize JH at_ (s.length:Int)=a at *
 obtain ⟨a,rfl⟩:∃ k:Nat,a=k:=⟨a.toNat,by omega⟩
 have hpb3:=Qs (x:=num) (n:=(s.length:Int)-(a:Int)) (by omega)
 have hPk3:=fun st=>upS (ZiF num ((s.length:Int)-(a:Int)) (by omega) (by omega) st)
 generalize JH num ((s.length:Int)-(a:Int))=m at *
 obtain ⟨m,rfl⟩:∃ k:Nat,m=k:=⟨m.toNat,by omega⟩
 have ham:a+m<=s.length:=by omega
 have f6:(ltL A.length r n ros G0 c ss G1)[6]?=_:=ZqR;have f7:(ltL A.length r n ros G0 c ss G1)[7+G0.length]?=_:=lt_7
 have g6:(ros.map Ro.av)[0+z.toNat]?=some ro.av:=by rw [Nat.zero_add,jG,hro];rfl
 have g7:(ss.map AV.str)[0+z.toNat]?=some (.str s):=by rw [Nat.zero_add,jG,hs];rfl
 have hz:=ZqV (n:=A.length) (r:=r) (v:=n) (ros:=ros) (G0:=G0) (w:=c) (ss:=ss) (G1:=G1)
 have hne:¬ (A.length=A.length/\(ltL A.length r n ros G0 c ss G1).length=7+G0.length):=by rw [hz];omega
 have hHas:=ZYm (A:=A) (r:=r) (v:=n) (ros:=ros) (G0:=G0) (w:=c) (ss:=ss) (G1:=G1);have hRM:RdM ⟨A,false,ltL A.length r n ros G0 c ss G1⟩ A.length (0+5) (0+4) r.nodes:=⟨_,_,_,_,_,hHas.h5,hHas.h4⟩;clear hHas
 generalize ltL A.length r n ros G0 c ss G1=X at *
 have hRe:=fun b=>ZIF hGd (hRM.app [b]).rd hRt (by omega) (a:=a) (n:=m) ham
 have hPi:=fun b=>Zgg hGd (hRM.app [b]).rd hRt (by omega) (a:=a) (n:=m) ham
 have hMe:=fun b=>upS (Zgj hGd (hRM.app [b]).rd hRt (by omega) (a:=a) (n:=m) ham)
 have hRe2:=fun b c T=>ZIF hGd (((hRM.app [b]).app [c]).app T).rd hRt (by omega) (a:=0) (n:=a) (by omega)
 have hRe3:=fun b c T=>ZIF hGd (((hRM.app [b]).app [c]).app T).rd hRt (by omega) (a:=a+m) (n:=s.length-a-m) (by omega)
 rw [List.drop_zero] at hRe2
 rw [show ((a+m:Nat):Int)=(a:Int)+(m:Int) by omega,show ((s.length-a-m:Nat):Int)=(s.length:Int)-(a:Int)-(m:Int) by omega,List.take_of_length_le (by rw [List.length_drop];omega)] at hRe3
 obtain ⟨p1,p2,p3⟩:=Zei hGd hRt m a m (Nat.le_refl _) ham
 have hcat:s.take a++(s.drop a).take m++s.drop (a+m)=s:=by
  rw [List.append_assoc,<- List.drop_drop,List.take_append_drop,List.take_append_drop]
 have hml:((s.drop a).take m).length=m:=by rw [List.length_take,List.length_drop];omega
 have hJ:=fun st=>upS (Zmk (pcs r.nodes ro m a m) (by omega) (by rw [p1,hml];omega) st)
 have hsub:(s.drop a).take m=(s.drop ((a:Int)).toNat).take ((a:Int)+(m:Int)-(a:Int)).toNat:=by
  rw [show ((a:Nat):Int).toNat=a by omega,show ((a:Int)+(m:Int)-(a:Int)).toNat=m by omega]
 have hMs:=fun st=>upS (ZNn ((s.drop a).take m) (by rw [hml];omega) st)
 have hlp:=fun Y v3 v4 v11 v16 v17 v18 v22 k Q=>ZpI (A:=A) (Y:=Y) (ps:=pcs r.nodes ro m a m) (v3:=v3) (v4:=v4) (v11:=v11) (v16:=v16) (v17:=v17) (v18:=v18) (v22:=v22) (k:=k) (Q:=Q) p2 (by rw [p1,hml];omega) (by omega)
 have hsB:Zgk (pcs r.nodes ro m a m) (pcs r.nodes ro m a m).length=.arr 3 0 [(Qk ((s.drop a).take m)).av]:=by
  unfold Zgk;rw [List.take_length,p1];rfl
 rw [hsB] at hlp;rw [p1] at hJ;clear p1 p2 hsB hRM hRt
 generalize pcs r.nodes ro m a m=ps at *
 have hl2:(s.take a).length<=s.length:=by rw [List.length_take];omega
 have hl3:(s.drop (a+m)).length<=s.length:=by rw [List.length_drop];omega
 generalize (s.drop a).take m=sub at *
 generalize s.take a=pre at *
 generalize s.drop (a+m)=post at *
 have hcl:(pre++sub).length+post.length<4611686018427387904:=by rw [lL];omega
 have chm:∀ a b c:AV,JI (.agg [a,b,c]) true 0 3=some (.agg [a,b,c]):=fun _ _ _=>rfl
 have hj:∀ c:Blk,(X++[c])[X.length]?=some c:=fun c=>by rw [List.getElem?_append_right (Nat.le_refl _),Nat.sub_self];rfl
 have hjE:∀ (L:List Blk) (c:Blk),(L++[c])[L.length]?=some c:=fun L c=>by rw [List.getElem?_append_right (Nat.le_refl _),Nat.sub_self];rfl
 have hjF:∀ (c d:Blk) (T:List Blk),(X++[c]++[d]++T)[X.length]?=some c:=fun c d T=>by rw [List.append_assoc,List.append_assoc,List.getElem?_append_right (Nat.le_refl _),Nat.sub_self];rfl
 have hjG:∀ (L:List Blk) (d:Blk) (T:List Blk),(L++[d]++T)[L.length]?=some d:=fun L d T=>by rw [List.append_assoc,List.getElem?_append_right (Nat.le_refl _),Nat.sub_self];rfl
 have hjH:∀ (L:List Blk) (d:Blk) (T:List Blk),(L++(d::T))[L.length]?=some d:=fun L d T=>by rw [List.getElem?_append_right (Nat.le_refl _),Nat.sub_self];rfl
 have hq3:=eqM3 (Qk sub).b (Qk sub).r (Qk sub).l
 unfold Mea.av at *
 unfold Ro.av at hRe hPi hMe hRe2 hRe3
 repeat' (first|refine YO rfl rfl rfl (hMs _) ?_|refine JB rfl rfl hq3 rfl ?_|refine hlp _ _ _ _ _ _ _ _ _ _ (fun E x y=>?_)|refine ZpN rfl rfl hcl hcat ?_|refine ZIN rfl rfl (by omega) f6 ?_|refine ZS rfl f6 g6 (ZjL _) ?_|refine Zkf rfl rfl rfl (by omega) f7 ?_|refine ZiG rfl rfl f7 g7 rfl ?_|refine ZqU rfl rfl rfl hne rfl ?_|refine Zgf rfl rfl rfl (by omega) hsub.symm ?_|refine ZS rfl (hj _) rfl rfl ?_|refine ZS rfl (hjE _ _) rfl (chm _ _ _) ?_|refine ZS rfl (hjF _ _ _) rfl rfl ?_|refine ZS rfl (hjH _ _ _) rfl (chm _ _ _) ?_|refine ZS rfl (hjG _ _ _) rfl (chm _ _ _) ?_|refine ZE ?_|refine ZD ?_|refine ZG rfl ?_|refine QF rfl ?_|refine Zm rfl rfl rfl rfl ?_|refine Zu rfl rfl ?_|refine ZB rfl ?_|refine ZC ?_|refine Qy rfl ?_|refine Qf rfl ?_|(refine Zj rfl rfl (fun _=>?_) (fun _=>?_)<;>try (exfalso;omega))|(refine Zn rfl rfl (fun _=>?_) (fun _=>?_)<;>try (exfalso;omega))|(refine Yb rfl rfl (fun _=>?_) (fun _=>?_)<;>try contradiction)|(refine Zin rfl rfl (fun _=>?_) (fun _=>?_)<;>try contradiction)|refine ZH rfl ?_|refine XD rfl rfl ?_|refine Zo rfl rfl (by omega) ?_|refine Qa rfl rfl (by omega) ?_|refine ZhQ rfl rfl (by omega) ?_|refine Zt rfl rfl rfl ?_|refine Q1 rfl rfl rfl rfl rfl rfl ?_|refine ZA rfl rfl rfl (hBy _) ?_|refine ZA rfl rfl rfl (hWk _) ?_|refine ZA rfl rfl rfl (hMk) ?_|refine ZA rfl rfl rfl (hPk _) ?_|refine ZA rfl rfl rfl (hPk2 _) ?_|refine ZA rfl rfl rfl (hPk3 _) ?_|refine ZA rfl rfl rfl (hRe _) ?_|refine ZA rfl rfl rfl (hPi _) ?_|refine ZA rfl rfl rfl (hMe _) ?_|refine ZA rfl rfl rfl (hRe2 _ _ _) ?_|refine ZA rfl rfl rfl (hRe3 _ _ _) ?_|refine ZA rfl rfl rfl (hJ _) ?_|refine ZI ?_|refine ZP ?_|refine ZQ ?_|refine ZJ ?_)
 all_goals try contradiction
 all_goals try (exfalso;omega)
 all_goals refine Zb hA (by first|exact .inl rfl|exact .inr rfl) rfl rfl rfl rfl ?_
 all_goals rfl
end Go.Q15
namespace Go.QAbs
open Go.ChangeShapes Go.WideShapes Go.RowKit Go.Deep
variable {P:Program}
end Go.QAbs
namespace Go.Q15
open Go Go.QAbs
set_option maxRecDepth 100000
theorem sliceParts_run (ss:List (List UInt8)) (l:List (Nat × Int × Int × Int × List UInt8)) (which at_ num:Int) (h1:∀ s∈ss,s.length<=maxLen) (h2:ss.length<=maxLen) (h3:∀ s∈l,s.2.2.2.2.length<=maxLen) (h4:l.length<=maxLen) (_h5:(Lit.int .i64 which).wf=true) (_h6:(Lit.int .i64 at_).wf=true) (_h7:(Lit.int .i64 num).wf=true) :
 ∃ st',S TS J2 [.lit (ss.map .str),.lit (l.map fun q=>.agg [.int .u8 q.1,.int .i64 q.2.1,.int .i64 q.2.2.1,.int .i64 q.2.2.2.1,.str q.2.2.2.2]),.int .i64 which,.int .i64 at_,.int .i64 num] .empty=some (.bool true,st'):=by
 have hm:maxLen<9223372036854775808:=by decide +kernel
 have:=Zeo ss (l.map mkEd) which at_ num (by omega) (fun s hs=>by have:=h1 s hs;omega) (by rw [List.length_map];omega) (fun s hs=>by obtain ⟨q,hq,rfl⟩:=List.mem_map.1 hs;have:=h3 q hq;simp only [mkEd];omega) .empty
 rw [List.map_map] at this;exact ⟨_,this⟩
end Go.Q15
