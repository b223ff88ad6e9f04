/- A part of the proof: SQa, SQb, W10, SLa, S8, SB, RZ, SD, SE, SF, SG, SI, SJ, SK, SL, SN, SSa, SSb, SSc, SLb, SLc, SLd, SSd, SSe, SSf, SSg, SSh, SSi, SSj, SSk, SQc, SQd, SQe, SSl, SQf, SQg, SQh, SSm, SSn, SLe, FY, SHJ, TZa, SHI2, TZo, PDa, ESa, SLg, PDb, ESb, ESc, ESd, ESe, STc, STd, ESg, SLh, SLi, FYi, TZs. No condition. -/
import Derived.Lib.Index
import Derived.Lib.Bytealg
import Derived.SliceStrings
import Derived.Deep.Slices
import Derived.Carry
import Derived.Shelf.Strings.OnBuilder
import Derived.Test.YtleajkoecgbnlaaGreatProg
import Derived.Shelf.Small.Strs
import Derived.Shelf.Strings.Search1
import Derived.Shelf.Strings.Search2
import Derived.Shelf.Strings.Search3
import Derived.ChangeSlices
import Derived.Test.YtleajkoecgbnlaaGreatScT8
set_option linter.unusedVariables false
set_option linter.unusedSimpArgs false
namespace Go.Q15
open Go Go.QAbs
set_option maxRecDepth 100000
set_option maxHeartbeats 8000000
theorem ZoT {N:ZO} {n:Nat}:∀ {ks:List Kid},(∀ k∈ks,JY (Qc N n k.at_)=k.m)->JY (ks.flatMap fun k=>Qc N n k.at_)=QJ (ks.map Kid.m):=by
 intro ks
 induction ks with
 | nil=>intro _;rfl
 | cons k l ih =>
  intro h
  rw [List.flatMap_cons,ZDM,h k (by simp),ih (fun z hz=>h z (List.mem_cons_of_mem _ hz)),jC,QJ]
theorem NdOk.ksFit {x:Nd} (h:NdOk x):∀ k∈x.ks,k.m.Fit 65536:=by
 rcases h with q|⟨n,ks,q⟩
 ·rw [q.ks];intro k hk;simp at hk
 ·have e:=q.eq;subst e;exact fun k hk=>(q.kid k hk).fit
theorem Zl7 {p q:Mea->Int} (hp:Comp p) (hq:Comp q) {N:ZO} (hN:GoodN N):∀ (n o:Nat) (x:Nd) (a:Int),lk N o=some x->x.h=n->0<=a->a<p x.mea ->
 ∃ pre leaf post,Qc N n o=pre++leaf++post/\(JF (QR p) q N n o a).1=(leaf,a-p (JY pre))/\0<=a-p (JY pre)/\a-p (JY pre)<p (JY leaf)/\(JF (QR p) q N n o a).2.2=q (JY pre):=by
 intro n
 induction n with
 | zero =>
  intro o x a hx hh h0 h1
  have hm:x.mea=JY x.text:=by unfold Nd.mea;rw [if_pos hh]
  have e:p (JY [])=0:=by rw [Zhg];exact hp.zero
  have e2:q (JY [])=0:=by rw [Zhg];exact hq.zero
  refine ⟨[],x.text,[],?_,?_,by rw [e];omega,by rw [e,<- hm];omega,by rw [e2];rfl⟩
  ·rw [Qc,hx];simp
  ·rw [JF,QY hx,e];simp
 | succ n ih =>
  intro o x a hx hh h0 h1;obtain ⟨hok,hkids⟩:=hN o x hx
  have hm:x.mea=QJ (x.ks.map Kid.m):=by unfold Nd.mea;rw [if_neg (by omega)]
  rw [hm] at h1;obtain ⟨c1,c2,c3,c4⟩:=ZN5 hp x.ks a hok.ksFit h0 h1;obtain ⟨k,hk⟩:∃ k,x.ks[(QR p x.ks a).1]?=some k:=⟨_,jE c1⟩;have c5:=c4 k hk;obtain ⟨_,y,y1,y2,y3⟩:=hkids k (jM hk)
  have hmk:∀ k∈x.ks,JY (Qc N n k.at_)=k.m:=fun k hk=>by
   obtain ⟨_,y,y1,y2,y3⟩:=hkids k hk
   rw [ZEK hN n k.at_ y y1 (by omega),y3]
  obtain ⟨pre,leaf,post,t1,t2,t3,t4,t5⟩:=ih k.at_ y (QR p x.ks a).2 y1 (by omega) c3 (by rw [y3];exact c5)
  have hseek:JF (QR p) q N (n+1) o a=((JF (QR p) q N n k.at_ (QR p x.ks a).2).1,o::(JF (QR p) q N n k.at_ (QR p x.ks a).2).2.1,ZAh q x.ks (QR p x.ks a).1+(JF (QR p) q N n k.at_ (QR p x.ks a).2).2.2):=by
   rw [JF,QY hx];simp only [hk,Option.map_some,Option.getD_some]
  rw [hseek,c2] at *
  generalize hci:(QR p x.ks a).1=ci at *
  have hsplit:x.ks=x.ks.take ci++k::x.ks.drop (ci+1):=by
   have:=List.take_append_drop ci x.ks
   rw [ZQt hk] at this;exact this.symm
  have hpm:JY ((x.ks.take ci).flatMap fun k=>Qc N n k.at_)=QJ ((x.ks.take ci).map Kid.m):=ZoT (fun z hz=>hmk z (List.mem_of_mem_take hz))
  have e3:p (JY ((x.ks.take ci).flatMap (fun k=>Qc N n k.at_)++pre))=ZAh p x.ks ci+p (JY pre):=by
   rw [ZDM,hp.add,hpm];rfl
  have e4:q (JY ((x.ks.take ci).flatMap (fun k=>Qc N n k.at_)++pre))=ZAh q x.ks ci+q (JY pre):=by
   rw [ZDM,hq.add,hpm];rfl
  refine ⟨(x.ks.take ci).flatMap (fun k=>Qc N n k.at_)++pre,leaf,post++(x.ks.drop (ci+1)).flatMap (fun k=>Qc N n k.at_),?_,?_,?_,?_,?_⟩
  ·rw [Qc,hx]
   simp only [Option.map_some,Option.getD_some];rw [hsplit,List.flatMap_append,List.flatMap_cons,t1]
   have e:((x.ks.take ci++k::x.ks.drop (ci+1)).take ci)=x.ks.take ci:=by rw [<- hsplit]
   have e':((x.ks.take ci++k::x.ks.drop (ci+1)).drop (ci+1))=x.ks.drop (ci+1):=by rw [<- hsplit]
   rw [e,e'];simp only [List.append_assoc]
  ·simp only
   rw [t2,e3]
   congr 1
   omega
  ·rw [e3];omega
  ·rw [e3];omega
  ·simp only
   rw [t5,e4]
theorem Zl8 {p q:Mea->Int} (hp:Comp p) {N:ZO} (hN:GoodN N):∀ (n o:Nat) (x:Nd) (a:Int),lk N o=some x->x.h=n->0<=a->a<p x.mea ->
 (JF (QR p) q N n o a).2.1.length=n+1/\(JF (QR p) q N n o a).2.1[0]?=some o /\
 ∀ j h,(JF (QR p) q N n o a).2.1[j]?=some h->∃ y,lk N h=some y/\y.h+j=n/\(y.h=0->y.text=(JF (QR p) q N n o a).1.1)/\∀ h',(JF (QR p) q N n o a).2.1[j+1]?=some h'->∃ (i:Nat) (k:Kid),y.ks[i]?=some k/\k.at_=h':=by
 intro n
 induction n with
 | zero =>
  intro o x a hx hh h0 h1;rw [JF]
  refine ⟨rfl,rfl,fun j h hj=>?_⟩
  match j,hj with
  | 0,hj =>
   obtain rfl:o=h:=by simpa using hj
   exact ⟨x,hx,by omega,fun _=>by simp only [QY hx],fun h' q=>by simp at q⟩
  | j+1,hj=>simp at hj
 | succ n ih =>
  intro o x a hx hh h0 h1;obtain ⟨hok,hkids⟩:=hN o x hx
  have hm:x.mea=QJ (x.ks.map Kid.m):=by unfold Nd.mea;rw [if_neg (by omega)]
  rw [hm] at h1;obtain ⟨c1,c2,c3,c4⟩:=ZN5 hp x.ks a hok.ksFit h0 h1;obtain ⟨k,hk⟩:∃ k,x.ks[(QR p x.ks a).1]?=some k:=⟨_,jE c1⟩;have c5:=c4 k hk;obtain ⟨_,y,y1,y2,y3⟩:=hkids k (jM hk)
  obtain ⟨i1,i2,i3⟩:=ih k.at_ y (QR p x.ks a).2 y1 (by omega) c3 (by rw [y3];exact c5)
  have hseek:JF (QR p) q N (n+1) o a=((JF (QR p) q N n k.at_ (QR p x.ks a).2).1,o::(JF (QR p) q N n k.at_ (QR p x.ks a).2).2.1,ZAh q x.ks (QR p x.ks a).1+(JF (QR p) q N n k.at_ (QR p x.ks a).2).2.2):=by
   rw [JF,QY hx];simp only [hk,Option.map_some,Option.getD_some]
  rw [hseek]
  simp only
  generalize JF (QR p) q N n k.at_ (QR p x.ks a).2=R at *
  refine ⟨by rw [List.length_cons,i1],rfl,fun j h hj=>?_⟩
  match j,hj with
  | 0,hj =>
   obtain rfl:o=h:=by simpa using hj
   refine ⟨x,hx,by omega,fun q=>by omega,fun h' hq=>⟨_,k,hk,?_⟩⟩
   simp only [Nat.zero_add,List.getElem?_cons_succ] at hq;rw [i2] at hq;exact Option.some.inj hq
  | j+1,hj =>
   simp only [List.getElem?_cons_succ] at hj ⊢;obtain ⟨z,z1,z2,z3,z4⟩:=i3 j h hj
   exact ⟨z,z1,by omega,z3,z4⟩
theorem ZoU (m:Mea) (st:St):S Tb ZAm [m.av] st=some (.tup [],st):=by
 refine QI rfl (fun A hA=>?_)
 unfold Mea.av
 repeat' (first|refine ZD ?_|refine ZB rfl ?_|refine Zh rfl rfl rfl ?_|refine ZJ ?_)
 refine Ze hA (by first|exact .inl rfl|exact .inr rfl) rfl rfl rfl rfl ?_
 rfl
theorem Zl9 (st:St):Pass (fun _=>st) Mea.b ZAm [] st.ps.length :=
 ⟨ZQu,fun _=>rfl,fun s m L _ _ _=>⟨_,ZoU m _⟩,fun m=>rfl⟩
abbrev J7 (N:ZO) (r:Ro) (a:Int):(List UInt8 × Int) × List Nat × Int:=JF (QR Mea.b) Mea.b N r.h r.at_ a
theorem RtOk.nz {N:ZO} {r:Ro} (h:RtOk N r) (hb:0<r.m.b):r.at_≠0/\∃ x,lk N r.at_=some x/\NdOk x/\x.h=r.h/\x.mea=r.m:=by
 rcases h with rfl|w
 ·simp [Ro.zero,Mea.zero] at hb
 ·exact w
theorem ZsI {st:St} {la b:Nat} {N:ZO} (hN:GoodN N) (hR:Rd st la (b+5) N) {r:Ro} (hr:RtOk N r) (a:Int) (h0:0<=a) (h1:a<r.m.b) (hb:r.m.b<=1000000) :
 S Tb ZG9 [.ptr la (b+5) 0 0 0,r.av,.int .i64 a] st=some (.tup [.str (J7 N r a).1.1,.int .i64 (J7 N r a).1.2,.lit ((J7 N r a).2.1.map Z9),.int .i64 0],st):=by
 refine QI rfl (fun A hA=>?_)
 have hC:=fun L=>ZoP (hR.push hA (ro:=false) (L:=L)) hr
 have hW:=fun L=>ZoS (Zl9 ⟨A,false,L⟩) ZoR hN (fun _=>hR.push hA (ro:=false) (L:=L)) hr (hr.nz (by omega)).1 a ⟨h0,h1,hb⟩ 0 ⟨by decide,by decide⟩
 unfold J7
 generalize JF (QR Mea.b) Mea.b N r.h r.at_ a=R at *
 unfold Ro.av at *
 repeat' (first|refine ZE ?_|refine ZD ?_|refine ZG rfl ?_|refine ZQ rfl rfl ?_|refine ZS rfl rfl rfl rfl ?_|refine QM rfl ?_|refine Zs rfl rfl rfl rfl ?_|refine Zy rfl rfl ?_|refine ZB rfl ?_|refine ZC ?_|(refine Zi rfl rfl (fun _=>?_) (fun _=>?_)<;>try (exfalso;omega))|(refine Xt rfl rfl (fun _=>?_) (fun _=>?_)<;>try (exfalso;omega))|(refine Zj rfl rfl (fun _=>?_) (fun _=>?_)<;>try (exfalso;omega))|refine ZH rfl ?_|refine Zh rfl rfl rfl ?_|refine Zw rfl rfl rfl rfl rfl rfl ?_|refine ZA rfl rfl rfl (hC _) ?_|refine ZA rfl rfl rfl (hW _) ?_|refine ZI ?_|refine ZP ?_|refine ZJ ?_)
 all_goals try contradiction
 all_goals try (exfalso;omega)
 refine Ze hA (by first|exact .inl rfl|exact .inr rfl) rfl rfl rfl rfl ?_
 rfl
end Go.Q15
namespace Go.QAbs
end Go.QAbs
namespace Go.Q15
open Go Go.QAbs
set_option maxRecDepth 100000
set_option maxHeartbeats 8000000
theorem ZoV {O:Orc} {k:List Fr} {Q:Jw} {e:Env} {st:St} {keep:List Nat} {is:List QAbs.PI} {d:Nat} {a b:Opd} {agg:Bool} {n lv ix ver i o lj jx vb ib ob w:Nat} {es:List AV} {x v:AV} (ha:Zb e a=some (.ptr lv ix ver i o)) (hb:Zb e b=some (.ptr lj jx vb ib ob)) (hne:¬ (lj=lv/\jx=ix))
 (hg:st.get lv ix=some (Blk.arr w ver es)) (hx:es[i]?=some x) (hv:JG x agg o n=some v) (h:Is O is keep k Q ((d,v)::e) st):Is O (⟨some d,none,false,.w (.hide [b]) (.ld agg n a)⟩::is) keep k Q e st:=by
 refine Zfu ?_ h
 have hp:Yp (Y0 e [b]) lv ix=false:=by
  simp only [Yp,Y0,ZF hb,List.any_cons,List.any_nil,Bool.or_false,Yo,Bool.and_eq_false_iff,beq_eq_false_iff_ne]
  by_cases q:lj=lv
  ·right;intro w;exact hne ⟨q,w.symm⟩
  ·left;exact fun w=>q w.symm
 have hgt:(St.hide (Yp (Y0 e [b])) st).get lv ix=some (Blk.arr w ver es):=by
  rw [Ys,hp,hg];rfl
 simp only [Z7,PO.reads,if_true,evalPO,ZF ha,loadP,hgt,ZCC,hx,hv,oS,QW,QL]
def pcs (N:ZO) (r:Ro):Nat->Nat->Nat->List (List UInt8)
 | 0,_,_=>[]
 | f+1,a,n=>if n=0 then [] else
  let p:=((J7 N r (a:Int)).1.1.drop (J7 N r (a:Int)).1.2.toNat).take n
  p::pcs N r f (a+p.length) (n-p.length)
theorem ZLC {N:ZO} (hN:GoodN N) {r:Ro} {s:List UInt8} (h:Rt N r s) {a:Nat} (ha:a<s.length):0<=(J7 N r (a:Int)).1.2/\(J7 N r (a:Int)).1.2<(J7 N r (a:Int)).1.1.length/\(J7 N r (a:Int)).1.1.length<=16 /\
 ∀ n,((J7 N r (a:Int)).1.1.drop (J7 N r (a:Int)).1.2.toNat).take n=(s.drop a).take (min n ((J7 N r (a:Int)).1.1.length-(J7 N r (a:Int)).1.2.toNat)):=by
 have hmb:r.m.b=s.length:=(h.b hN).2
 obtain ⟨hz,x,x1,x2,x3,x4⟩:=h.rt.nz (by rw [hmb];omega)
 have htx:ZRV N r=s:=h.tx;unfold ZRV at htx;rw [if_neg hz] at htx
 obtain ⟨pre,leaf,post,t1,t2,t3,t4,t5⟩:=Zl7 ZQu ZQu hN r.h r.at_ x (a:Int) x1 x3 (by omega) (by rw [x4,hmb];omega)
 obtain ⟨p1,p2,p3⟩:=Zl8 ZQu (q:=Mea.b) hN r.h r.at_ x (a:Int) x1 x3 (by omega) (by rw [x4,hmb];omega)
 obtain ⟨o,ho⟩:∃ o,(JF (QR Mea.b) Mea.b N r.h r.at_ (a:Int)).2.1[r.h]?=some o:=⟨_,jE (by rw [p1];omega)⟩
 obtain ⟨y,y1,y2,y3,_⟩:=p3 r.h o ho
 have y4:=y3 (by omega)
 rw [t2] at y4
 have el:∀ l:List UInt8,(JY l).b=l.length:=fun l=>rfl
 rw [el] at t2 t3 t4;rw [el] at t4;have e1:(J7 N r (a:Int)).1=(leaf,(a:Int)-pre.length):=t2;rw [e1]
 have hlf:leaf.length<=16:=by
  rcases (hN o y y1).1 with q|⟨m,ks,q⟩
  ·have:=q.hi;rw [y4] at this;exact this
  ·have e:=q.eq;rw [e] at y2;simp only at y2;omega
 refine ⟨t3,t4,hlf,fun n=>?_⟩
 simp only
 rw [htx] at t1
 have hpl:a-pre.length=((a:Int)-pre.length).toNat:=by omega
 have hsd:s.drop a=leaf.drop (a-pre.length)++post:=by
  rw [t1,List.append_assoc,List.drop_append,List.drop_of_length_le (l:=pre) (by omega),lE,List.drop_append_of_le_length (by omega)]
 rw [<- hpl,hsd,List.take_append_of_le_length (by rw [List.length_drop];omega)]
 rw [List.take_eq_take_iff,List.length_drop];omega
theorem Zjp {N:ZO} (hN:GoodN N) {r:Ro} {s:List UInt8} (h:Rt N r s):∀ (f a n:Nat),n<=f->a+n<=s.length->(pcs N r f a n).flatten=(s.drop a).take n/\(∀ p∈pcs N r f a n,1<=p.length/\p.length<=16)/\(pcs N r f a n).length<=n
 | 0,a,n,hf,ha=>by
  obtain rfl:n=0:=by omega
  simp [pcs]
 | f+1,a,n,hf,ha=>by
  rw [pcs]
  by_cases q:n=0
  ·subst q;simp
  rw [if_neg q]
  obtain ⟨k1,k2,k3,k4⟩:=ZLC hN h (a:=a) (by omega)
  have k5:=k4 n
  generalize hp:((J7 N r (a:Int)).1.1.drop (J7 N r (a:Int)).1.2.toNat).take n=p at *
  have hpl:1<=p.length/\p.length<=16/\p.length<=n:=by
   rw [<- hp,List.length_take,List.length_drop];omega
  have hpe:p=(s.drop a).take p.length:=by
   have:p.length=min n ((J7 N r (a:Int)).1.1.length-(J7 N r (a:Int)).1.2.toNat):=by rw [<- hp,List.length_take,List.length_drop]
   rw [this];exact k5
  obtain ⟨i1,i2,i3⟩:=Zjp hN h f (a+p.length) (n-p.length) (by omega) (by omega)
  refine ⟨?_,fun z hz=>?_,?_⟩
  ·simp only [List.flatten_cons]
   rw [i1]
   have e2:(s.drop a).take n=(s.drop a).take p.length++((s.drop a).drop p.length).take (n-p.length):=by
    rw [<- List.take_append_drop p.length ((s.drop a).take n),List.take_take,Nat.min_eq_left hpl.2.2,List.drop_take]
   rw [e2,<- hpe,List.drop_drop]
  ·simp only [List.mem_cons] at hz
   rcases hz with rfl|hz
   ·exact ⟨hpl.1,hpl.2.1⟩
   ·exact i2 z hz
  ·simp only [List.length_cons];omega
def pcL (A:List (Bool × List Blk)) (la b:Nat) (r:Ro) (es:List AV) (a n:Nat):List Blk:=[.arr 5 0 [r.av],.arr 1 es.length es,.arr 1 0 [.ref A.length 1 es.length 0 es.length],.arr 1 0 [.int .i64 0],.arr 1 0 [.ptr la (b+5) 0 0 0],.arr 5 0 [r.av],.arr 1 0 [.int .i64 a],.arr 1 0 [.int .i64 n]]
def pcF (A:List (Bool × List Blk)) (la b:Nat) (r:Ro) (es:List AV) (a n:Nat):St:=⟨A,false,pcL A la b r es a n⟩
def pcK (A:List (Bool × List Blk)):List (Nat × Nat):=[(A.length,1),(A.length,2),(A.length,6),(A.length,7)]
def pcB (A:List (Bool × List Blk)) (es:List AV) (a n:Nat):List Blk:=[.arr 1 es.length es,.arr 1 0 [.ref A.length 1 es.length 0 es.length],.arr 1 0 [.int .i64 a],.arr 1 0 [.int .i64 n]]
section
variable {A:List (Bool × List Blk)} {la b:Nat} {r:Ro}
theorem ZrY (es:List AV) (a n:Nat):Cl (pcF A la b r es a n) (pcK A) (pcB A es a n):=by
 refine ⟨by simp [pcK],rfl,fun k hk=>?_,fun j lv ix b h1 h2=>?_⟩
 ·simp only [pcK,List.mem_cons,List.not_mem_nil,or_false] at hk
  rcases hk with rfl|rfl|rfl|rfl<;>simp [St.wr,pcF]
 ·match j,h1,h2 with
  | 0,h1,h2=>obtain ⟨rfl,rfl⟩:=Prod.mk.inj (Option.some.inj h1);obtain rfl:=Option.some.inj h2;exact St.get_cur ..
  | 1,h1,h2=>obtain ⟨rfl,rfl⟩:=Prod.mk.inj (Option.some.inj h1);obtain rfl:=Option.some.inj h2;exact St.get_cur ..
  | 2,h1,h2=>obtain ⟨rfl,rfl⟩:=Prod.mk.inj (Option.some.inj h1);obtain rfl:=Option.some.inj h2;exact St.get_cur ..
  | 3,h1,h2=>obtain ⟨rfl,rfl⟩:=Prod.mk.inj (Option.some.inj h1);obtain rfl:=Option.some.inj h2;exact St.get_cur ..
  | n+4,h1,h2=>simp [pcK] at h1
theorem ZoW (es fs:List AV) (a n a' n':Nat):JW (pcF A la b r es a n) (pcK A) (pcB A fs a' n')=pcF A la b r fs a' n':=by
 simp [JW,St.upd,pcF,pcL,pcK,pcB]
theorem ZrZ:∀ k∈pcK A,k.1<=A.length:=by simp [pcK]
theorem ZoX {caps:List AV} (hc:∃ rest,caps=.any::.any::.any::.any::.any::.any::.any::.any::.any::.any::.any::.ptr A.length 2 0 0 0::.ptr A.length 3 0 0 0::rest/\rest.length=26) (es:List AV) (a n:Nat) (hlim:es.length<4000000000) (p:List UInt8) (more:List (Bool × List Blk)) (ro:Bool) (L:List Blk) :
 Yu (S Tb) itS p_slice_Pieces.nt p_slice_Pieces.rng (.str p::.int .i64 0::caps) ⟨(pcF A la b r es a n).ps++more,ro,L⟩=some (.bool true,⟨(pcF A la b r (es++[.str p]) a n).ps++more,ro,L⟩):=by
 obtain ⟨rest,rfl,hrl⟩:=hc;have H:=(ZrY (A:=A) (la:=la) (b:=b) (r:=r) es a n).more more ro L
 refine ZN1 (by simp [hrl];rfl) (fun A' hA'=>?_)
 rw [<- H.same] at hA'
 have g2:=fun L'=>H.old hA' rfl rfl (ro:=false) (L:=L') (j:=1) rfl rfl
 repeat' (first|refine ZE ?_|refine ZD ?_|refine ZG rfl ?_|refine ZB rfl ?_|refine ZC ?_|refine ZJ ?_)
 all_goals refine ⟨rfl,?_⟩
 all_goals repeat' (first|refine ZE ?_|refine ZD ?_|refine ZG rfl ?_|refine ZB rfl ?_|refine ZC ?_|(refine Zj rfl rfl (fun _=>?_) (fun _=>?_)<;>try (exfalso;omega))|refine ZH rfl ?_|refine QZ rfl rfl rfl rfl ?_|refine QA rfl (g2 _) rfl rfl ?_|refine ZI ?_|refine ZL ?_)
 all_goals try contradiction
 refine ZUv H hA' rfl rfl (j:=0) rfl rfl rfl rfl rfl rfl (ZdV 5 _ _ [p]) (by simp only [List.length_singleton];omega) (by decide) (fun A2 hA2 hl2=>?_)
 refine ZQh H hA2 rfl rfl (j:=1) rfl rfl rfl rfl rfl (Q8 _ (Nat.lt_succ_self _)) rfl (fun A3 hA3 hl3=>?_)
 repeat' (first|refine ZB rfl ?_|refine ZJ ?_|refine Z1 ?_)
 refine ⟨rfl,hA3.trans ?_⟩;have e:=ZoW (A:=A) (la:=la) (b:=b) (r:=r) es (es++[.str p]) a n a n
 rw [<- e,<- ZEP (s:=pcF A la b r es a n) (ks:=pcK A) (fun k hk=>ZrZ k hk)]
 simp only [pcB,lL,List.length_singleton];rfl
end
end Go.Q15
namespace Go.QAbs
open Go.RowKit (Below)
section
variable {P:Program} {W0:World} {B0:Bse} {st:St} {ρ:Rho} {W W':World}
def ZRX (f:List UInt8->List UInt8->Option AV):List AV->St->Option (AV × St)
 | [.str s,.str t],st=>(f s t).map fun v=>(v,st)
 | _,_=>none
theorem strO2_frame (f:List UInt8->List UInt8->Option AV) (args:List AV):(∃ v,∀ st,ZRX f args st=some (v,st))\/∀ st,ZRX f args st=none:=by
 by_cases h:∃ s t,args=[.str s,.str t]
 ·obtain ⟨s,t,rfl⟩:=h
  cases hq:f s t with
  | none=>exact .inr fun st=>by simp [ZRX,hq]
  | some v=>exact .inl ⟨v,fun st=>by simp [ZRX,hq]⟩
 ·refine .inr fun st=>?_
  unfold ZRX
  split
  ·exact absurd ⟨_,_,rfl⟩ h
  ·rfl
def ZQv:List AV->St->Option (AV × St):=ZRX fun s t=>if s.length<4294967281 then some (.int .i64 (Lib.index s t)) else none
theorem ZoY {f : FuncId} {g : Nat} (hg : P.globalNamed "internal/bytealg.MaxLen" = some g)
 (h1:∀ (s sub:ByteArray) (m:Int) (w:World),s.size<4294967281->w.cell? ⟨g,0,none⟩=some (.int .i64 m)->Calls P f #[.string s,.string sub] w fun e w'=>e=.returned (.int .i64 (Lib.index s.data.toList sub.data.toList))/\w'=w) :
 ZQ9 P f (.base ZQv):=by
 refine ⟨fun args=>?_,?_⟩
 ·rcases strO2_frame (fun s t=>if s.length<4294967281 then some (.int .i64 (Lib.index s t)) else none) args with ⟨v,hv⟩|hv
  ·exact (FrP.ret v).congr hv
  ·exact FrP.nope.congr hv
 intro args st v st' h W0 B0 ρ W xs hk hr hx;unfold ZQv ZRX at h
 split at h
 ·rename_i s t
  simp only at h
  split at h
  ·rename_i hb
   simp only [Option.map_some,oJ,jP] at h;obtain ⟨rfl,rfl⟩:=h;obtain ⟨x,ys,rfl,hx1,hx2⟩:=hx.cons_inv;obtain ⟨y,zs,rfl,hy1,hy2⟩:=hx2.cons_inv;obtain rfl:=hy2.nil_inv;have hxs:=YA hx1;subst hxs;have hy:=YA hy1;subst hy;obtain ⟨m,hm,_⟩:=(hk.rel hr) g hg
   refine (h1 ⟨s.toArray⟩ ⟨t.toArray⟩ m W (by simpa [ByteArray.size] using hb) hm).mono ?_
   rintro e' W' ⟨rfl,rfl⟩
   exact ⟨_,ρ,rfl,Zgx hr (.refl _ _),.int _ _⟩
  ·simp at h
 ·simp at h
end
end Go.QAbs
namespace Go.Q15
open Go Go.QAbs
set_option maxRecDepth 100000
set_option maxHeartbeats 8000000
set_option maxHeartbeats 16000000
def ltL (n:Nat) (r:AR) (v:Nat) (ros:List Ro) (G0:List Blk) (w:Nat) (ss:List (List UInt8)) (G1:List Blk):List Blk :=
 r.b0::r.b1::r.b2::r.b3 n 0::r.b4::r.b5 n 0::.arr 5 v (ros.map Ro.av)::(G0++.arr 1 w (ss.map .str)::G1)
section
variable {A:List (Bool × List Blk)} {r:AR} {v:Nat} {ros:List Ro} {G0:List Blk} {w:Nat} {ss:List (List UInt8)} {G1:List Blk}
theorem ZZr:Has ⟨A,false,ltL A.length r v ros G0 w ss G1⟩ A.length 0 r:=XV A [] (.arr 5 v (ros.map Ro.av)::(G0++.arr 1 w (ss.map .str)::G1)) r
theorem Zra:Rd ⟨A,false,ltL A.length r v ros G0 w ss G1⟩ A.length 5 r.nodes:=(ZZr).r.rd
theorem ZoZ (r':AR):Qk ⟨A,false,ltL A.length r v ros G0 w ss G1⟩ A.length 0 r'=⟨A,false,ltL A.length r' v ros G0 w ss G1⟩:=ZZm A [] (.arr 5 v (ros.map Ro.av)::(G0++.arr 1 w (ss.map .str)::G1)) r r'
theorem ZsJ {n:Nat}:(ltL n r v ros G0 w ss G1)[6]?=some (.arr 5 v (ros.map Ro.av)):=rfl
theorem lt_7 {n:Nat}:(ltL n r v ros G0 w ss G1)[7+G0.length]?=some (.arr 1 w (ss.map .str)):=by
 rw [show 7+G0.length=G0.length+7 by omega]
 show (G0++.arr 1 w (ss.map .str)::G1)[G0.length]?=_
 exact ZQm _ _ _
theorem Zoa {n:Nat} (b:Blk):ltL n r v ros G0 w ss G1++[b]=ltL n r v ros G0 w ss (G1++[b]):=by simp [ltL]
theorem ZrA {n:Nat} (v':Nat) (x:Ro):(ltL n r v ros G0 w ss G1).set 6 (.arr 5 v' (ros.map Ro.av++[x.av]))=ltL n r v' (ros++[x]) G0 w ss G1:=by
 unfold ltL;rw [List.map_append];rfl
theorem ZrB {n:Nat} (w':Nat) (s:List UInt8):(ltL n r v ros G0 w ss G1).set (7+G0.length) (.arr 1 w' (ss.map .str++[.str s]))=ltL n r v ros G0 w' (ss++[s]) G1:=by
 rw [show 7+G0.length=G0.length+7 by omega]
 unfold ltL;simp only [List.set_cons_succ,List.map_append]
 rw [show (G0++Blk.arr 1 w (ss.map .str)::G1).set G0.length (Blk.arr 1 w' (ss.map .str++[AV.str s]))=G0++Blk.arr 1 w' (ss.map .str++[AV.str s])::G1 by simp]
 rfl
end
theorem Zjq {ys:List Ed} {i:Nat} {y:Ed} (h:ys[i]?=some y):((ys.map Ed.av).drop i).take (i+1-i)=[y].map Ed.av:=by
 rw [<- List.map_drop,<- List.map_take,show i+1-i=1 by omega]
 obtain ⟨h1,h2⟩:=List.getElem?_eq_some_iff.1 h;rw [List.drop_eq_getElem_cons h1,h2];rfl
theorem Zob (ys:List Ed):Q5 5 (ys.map Ed.av)=true:=by
 induction ys with
 | nil=>rfl
 | cons b s ih=>rw [jC,Q5,List.all_cons];exact Bool.and_eq_true_iff.2 ⟨rfl,ih⟩
theorem Zkp {O:Orc} {k:List Fr} {Q:Jw} {e:Env} {st:St} {keep:List Nat} {is:List QAbs.PI} {d:Nat} {ys:List Ed} {i:Nat} {y:Ed} {x a b:Opd} {z:Int} (hx:Zb e x=some (.lit (ys.map Ed.av))) (ha:Zb e a=some (.int .i64 i)) (hb:Zb e b=some (.int .i64 z)) (hz:z=i+1) (hy:ys[i]?=some y)
 (h:Is O is keep k Q ((d,.lit ([y].map Ed.av))::e) st):Is O (⟨some d,none,false,.slc 5 x (some a) (some b)⟩::is) keep k Q e st:=by
 have hlt:=(List.getElem?_eq_some_iff.1 hy).1;refine Zd7 (r:=i+1) (l:=i) hx ?_ ?_ (Zob _) ?_
 ·simp only [ZBj,ZF hb,JL,List.length_map]
  rw [if_pos (by omega)];congr 1;omega
 ·simp only [ZBj,ZF ha,JL]
  rw [if_pos (by omega)];rfl
 ·rw [Zjq hy];exact h
theorem ZsK {texts:List (List UInt8)} {ys:List Ed} (hl:¬ ZRW texts) (hm:¬ ZZq ys):(texts.flatten.length<=900/\texts.length<=4)/\ys.length<=60/\∀ y∈ys,y.text.length<=200:=by
 refine ⟨?_,ZoL hm⟩
 have:=ZoM hl
 rw [List.length_flatten];omega
theorem Zjr {texts:List (List UInt8)} (h9:texts.flatten.length<=900):∀ s∈texts,s.length<=900:=by
 intro s hs;obtain ⟨i,hi,rfl⟩:=List.getElem_of_mem hs;have h1:=ZIY (l:=texts) (jE hi);have h2:=ZIx texts (i+1);rw [h1,lL] at h2;omega
theorem ZiJ:∀ (n:Nat) (l:List Nat),l.Nodup->(∀ x∈l,x<n)->l.length<=n:=by
 intro n
 induction n with
 | zero=>intro l _ h;cases l with
  | nil=>exact Nat.le_refl _
  | cons a l=>have:=h a (by simp);omega
 | succ n ih =>
  intro l hd h
  by_cases hm:n∈l
  ·have := ih (l.erase n) (hd.erase n) (fun x hx => by
    have h1:=h x (List.mem_of_mem_erase hx)
    have h2:x≠n:=fun e=>by subst e;exact hd.not_mem_erase hx
    omega)
   rw [List.length_erase_of_mem hm] at this;omega
  ·have := ih l hd (fun x hx => by
    have h1:=h x hx
    have h2:x≠n:=fun e=>hm (e▸hx)
    omega)
   omega
theorem AROk.few {r:AR} (h:AROk r) {l:List Nat} (hd:l.Nodup) (hl:∀ o∈l,∃ x,lk r.nodes o=some x):l.length<=16384:=by
 have h16:=h.n16
 have key:∀ o∈l,ZiB r o:=fun o ho=>by obtain ⟨x,hx⟩:=hl o ho;exact (h.live hx).1
 have h1:(l.map (· % 65536)).Nodup:=by
  unfold List.Nodup at hd ⊢;rw [List.pairwise_map]
  refine hd.imp_of_mem (fun {p o} hp ho hne e=>hne ?_)
  have a:=(key p hp).2.2;have c:=(key o ho).2.2;rw [e,c] at a
  have:=Option.some.inj a
  omega
 have:=ZiJ r.states.length _ h1 (fun x hx=>by
  obtain ⟨o,ho,rfl⟩:=List.mem_map.1 hx
  exact (List.getElem?_eq_some_iff.1 (key o ho).2.1).1)
 rw [List.length_map] at this;omega
theorem Zoc (texts:List (List UInt8)) (hl:texts.flatten.length<=900):∀ i,i<=texts.length->(XC (texts.take i)).1.nodes.length+(XC (texts.take i)).1.n=1500:=by
 intro i
 induction i with
 | zero=>intro _;simp [XC,JD]
 | succ i ih =>
  intro hi
  obtain ⟨s,hs⟩:∃ s,texts[i]?=some s:=⟨texts[i]'(by omega),by simp [show i<texts.length by omega]⟩
  have hl2:=ZIx texts (i+1)
  have h:=ZZp texts hl i (by omega)
  obtain ⟨hn,_⟩:=ZZo (s:=s) h (by rw [<- Zc hs];omega)
  have hfl:=ZIY hs
  have hs2:s.length<=900:=by rw [hfl,lL] at hl2;omega
  obtain ⟨b1,b2,b3⟩:=Xp h.good (show s.length<=65536 by omega)
  obtain ⟨w1,_⟩:=ZZl (XV [] [] [] _) h.ok h.good b1 (by rw [b3];omega) hn
  have h1:=w1.n;have h2:=w1.nl
  have h3:=ih (by omega)
  rw [Zc hs,ZLB]
  show (wrV (Qy s) _).1.nodes.length+(wrV (Qy s) _).1.n=1500
  omega
theorem Zod {N:ZO} (hN:GoodN N) {ros:List Ro} (h:PlanOk N ros) {y:Ed} (hy:y.text.length<=200) {B:Int} (hB:0<=B) (hr:∀ r∈ros,r.m.b<=B):(ZCy N ros y).bytes<=B+200:=by
 unfold ZCy
 match hq:ZdX ros y.n with
 | none =>
  obtain ⟨b1,b2,b3⟩:=Xp hN (s:=y.text) (by omega)
  show (Qy y.text).bytes<=_;omega
 | some r =>
  have hm:=jM (show ros[_]?=some r from hq)
  obtain ⟨h1,h2,h3,h4⟩:=h.rt r hm;have h5:=hr r hm;have p1:=Qu (x:=y.at_) h3
  have p2:=Qu (x:=y.len) (n:=r.m.b-JK y.at_ r.m.b) (by omega)
  have:=ZNs hN (s:=y.text) h1.keep (a:=JK y.at_ r.m.b) (n:=JK y.len (r.m.b-JK y.at_ r.m.b)) p1.1 p2.1 (by omega) (by omega) (by omega)
  show (Tr.own _).bytes<=_
  rw [ZAg,this.bytes];omega
structure MkInv (r:AR) (ros:List Ro) (ss:List (List UInt8)) (n:Nat) (B:Nat):Prop where
 ok:AROk r
 good:GoodN r.nodes
 rts:Rts r.nodes ros ss
 len:ros.length=n
 n20:n<=20
 small:∀ s∈ss,s.length<=B
 nl:r.nodes.length+r.n=1500
theorem MkInv.plan {r:AR} {ros:List Ro} {ss:List (List UInt8)} {n B:Nat} (h:MkInv r ros ss n B) (hB:B<=60000):PlanOk r.nodes ros:=h.rts.plan h.good (by have:=h.len;have:=h.n20;omega) (fun s hs=>by have:=h.small s hs;omega)
theorem MkInv.mb {r:AR} {ros:List Ro} {ss:List (List UInt8)} {n B:Nat} (h:MkInv r ros ss n B):∀ ro∈ros,ro.m.b<=(B:Int):=by
 intro ro hr;obtain ⟨i,hi,rfl⟩:=List.getElem_of_mem hr
 have hi2:i<ss.length:=by rw [<- h.rts.1];exact hi
 have g:=h.rts.2 i _ _ (jE hi) (jE hi2)
 have:=(g.b h.good).2
 have:=h.small _ (List.getElem_mem hi2)
 omega
theorem ZsL (texts:List (List UInt8)) (ys:List Ed) (h9:texts.flatten.length<=900/\texts.length<=4) (hy12:ys.length<=12) (hys:∀ y∈ys,y.text.length<=200) (A:List (Bool × List Blk)) :
 Sp Tb YQ [.lit (texts.map .str),.lit (ys.map Ed.av)] ⟨A,false,[]⟩ (fun v st'=>∃ r c ros ss G0 G1 n,v=.tup [.ptr A.length 5 0 0 0,.ref A.length 6 n 0 n,.ref A.length (7+G0.length) c 0 n,.bool true]/\st'=⟨A,false,ltL A.length r n ros G0 c ss G1⟩/\MkInv r ros ss n 3300):=by
 refine ZkO (rfl:Tb YQ=some (.pf Xg)) ?_;have hLd:=ZsE texts h9.1 h9.2 A [];have hLok:=ZZp texts h9.1 texts.length (Nat.le_refl _);have hnl0:=Zoc texts h9.1 texts.length (Nat.le_refl _);rw [List.take_length] at hLok hnl0;have hrl:=hLok.rts.1;obtain ⟨r0,ros0,hV⟩:∃ r0 ros0,XC texts=(r0,ros0):=⟨_,_,rfl⟩;rw [hV] at hLd hLok hrl hnl0
 simp only at hLd hLok hrl hnl0
 have hG:(ZDf ros0).length=texts.length:=by unfold ZDf;rw [List.length_map,hrl]
 generalize ZDf ros0=G0 at *
 change S Tb YS [.lit (texts.map .str)] ⟨A,false,[]⟩=some (.tup [.ptr A.length 5 0 0 0,.ref A.length 6 texts.length 0 texts.length,.bool true],⟨A,false,r0.b0::r0.b1::r0.b2::r0.b3 A.length 0::r0.b4::r0.b5 A.length 0::.arr 5 texts.length (ros0.map Ro.av)::G0⟩) at hLd
 repeat' (first|refine ZE ?_|refine ZD ?_|refine ZG rfl ?_|refine Zy rfl rfl ?_|refine ZB rfl ?_|refine ZC ?_|refine ZH rfl ?_|refine JO rfl rfl ?_|refine QZ rfl rfl rfl rfl ?_|refine ZA rfl rfl rfl (hLd) ?_|refine ZI ?_)
 all_goals try contradiction
 refine ZFb (vx:=.lit (texts.map .str)) (ys:=texts.map .str) (bytes:=16) rfl rfl rfl (by rw [List.length_map];omega) (by decide) (Zl1 _) ?_
 repeat' (first|refine ZE ?_|refine ZD ?_|refine ZG rfl ?_|refine ZB rfl ?_|refine ZC ?_|refine ZL ?_)
 have hl7:(r0.b0::r0.b1::r0.b2::r0.b3 A.length 0::r0.b4::r0.b5 A.length 0::Blk.arr 5 texts.length (ros0.map Ro.av)::G0).length=7+G0.length:=by simp;omega
 rw [hl7,List.length_map]
 refine Zx (α:=Nat × Nat × AR × List Ro × List (List UInt8) × List Blk) (fun q=>[(1,.lit (ys.map Ed.av)),(8,.ptr A.length 5 0 0 0),(9,.ref A.length 6 (texts.length+q.2.1) 0 (texts.length+q.2.1)),(11,.ref A.length (7+G0.length) q.2.1 0 (texts.length+q.2.1)),(12,.int .i64 q.1)])
  (fun q=>⟨A,false,ltL A.length q.2.2.1 (texts.length+q.2.1) q.2.2.2.1 G0 q.2.1 q.2.2.2.2.1 q.2.2.2.2.2⟩) (fun q=>q.1<=ys.length/\q.2.1<=q.1/\MkInv q.2.2.1 q.2.2.2.1 q.2.2.2.2.1 (texts.length+q.2.1) (900+200*q.1)) (fun q=>ys.length-q.1) (0,0,r0,ros0,texts,[]) rfl rfl ⟨Nat.zero_le _,Nat.zero_le _,hLok.ok,hLok.good,hLok.rts,hrl,by simp only;omega,Zjr h9.1,hnl0⟩ ?_
 rintro ⟨i,c,r,ros,ss,G1⟩ ⟨hi,hci,hI⟩
 simp only at hi hci hI ⊢
 have hsl:=hI.rts.1;have hrs:=hI.len
 rcases Nat.lt_or_ge i ys.length with hlt|hge
 ·obtain ⟨y,hyi⟩:∃ y,ys[i]?=some y:=⟨ys[i]'(by omega),by simp [hlt]⟩
  have hy2:=hys y (jM hyi)
  have hP:PlanOk r.nodes ros:=hI.plan (by omega)
  obtain ⟨hv,hvb⟩:=ZoJ hI.good hP hy2
  have hvs:=Zod hI.good hP hy2 (B:=((900+200*i:Nat):Int)) (by omega) hI.mb
  have hPl:=fun L (hR:Rd ⟨A,false,L⟩ A.length 5 r.nodes) (hg:St.get ⟨A,false,L⟩ A.length 6=some (.arr 5 (texts.length+c) (ros.map Ro.av)))=>Zq6 (b:=0) hI.good hR hg hP (ys:=[y]) (by simp) (fun z hz=>by rw [List.mem_singleton] at hz;rw [hz];exact hy2)
  have hPl:=hPl _ Zra (Zf3 (ZsJ (r:=r) (v:=texts.length+c) (G0:=G0) (w:=c) (ss:=ss) (G1:=G1)) rfl)
  have hTx:=Zr2 hI.good (Zra (A:=A) (r:=r) (v:=texts.length+c) (ros:=ros) (G0:=G0) (w:=c) (ss:=ss) (G1:=G1)) hv (by omega)
  have hln:=hv.len hI.good;simp only [jC,List.map_nil] at hPl;rw [hrs] at hPl
  generalize hT:ZCy r.nodes ros y=t at *
  rcases Nat.lt_or_ge r.n (nw t) with hfull|hroom
  ·have hWr:=ZZk (ZZr (A:=A) (r:=r) (v:=texts.length+c) (ros:=ros) (G0:=G0) (w:=c) (ss:=ss) (G1:=G1)) hI.ok hI.good hv (by omega) hfull
   have eb:=Zoa (n:=A.length) (r:=r) (v:=texts.length+c) (ros:=ros) (G0:=G0) (w:=c) (ss:=ss) (G1:=G1) (.arr 5 0 [Ro.zero.av])
   generalize ltL A.length r (texts.length+c) ros G0 c ss G1=L1 at *
   repeat' (first|refine XL rfl ?_|refine Zkp rfl rfl rfl rfl hyi ?_|refine Jl (f:=Tr.av) (l:=[t]) rfl rfl ⟨by decide,rfl⟩ Z3 ?_|refine ZE ?_|refine ZD ?_|refine ZG rfl ?_|refine Zy rfl rfl ?_|refine ZB rfl ?_|refine ZC ?_|(refine Zi rfl rfl (fun _=>?_) (fun _=>?_)<;>try (exfalso;omega))|(refine Zn rfl rfl (fun _=>?_) (fun _=>?_)<;>try (exfalso;omega))|(refine Zj rfl rfl (fun _=>?_) (fun _=>?_)<;>try (exfalso;omega))|refine ZU rfl ?_|refine ZH rfl ?_|refine JO rfl rfl ?_|refine Zl rfl rfl (by omega) ?_|refine Zt rfl rfl rfl ?_|refine JV rfl rfl rfl rfl rfl rfl ?_|refine QQ rfl (Zm _) ?_|refine ZA rfl rfl (by first|rfl|(simp only [lE,lN,lC,Za,ZV,ZW];first|done|rfl)) (hPl) ?_|refine ZA rfl rfl (by first|rfl|(simp only [lE,lN,lC,Za,ZV,ZW];first|done|rfl)) (hTx) ?_|refine ZA rfl rfl (by first|rfl|(simp only [lE,lN,lC,Za,ZV,ZW];first|done|rfl)) (hWr) ?_|refine ZI ?_|refine Zv ?_|refine ZL ?_|refine Zf ?_|refine Zd rfl ?_|refine QB ?_)
   all_goals try contradiction
   all_goals try (exfalso;omega)
   refine ⟨(i+1,c,r,ros,ss,G1++[Blk.arr 5 0 [Ro.zero.av]]),⟨rfl,?_⟩,⟨by simp only;omega,by simp only;omega,hI.ok,hI.good,hI.rts,hrs,hI.n20,fun s hs=>by have:=hI.small s hs;simp only;omega,hI.nl⟩,by simp only;omega⟩
   exact congrArg (St.mk A false) eb
  ·have hWr:=Zf4 (ZZr (A:=A) (r:=r) (v:=texts.length+c) (ros:=ros) (G0:=G0) (w:=c) (ss:=ss) (G1:=G1)) hI.ok hI.good hv (by omega) hroom
   rw [ZoZ] at hWr
   obtain ⟨w1,w2⟩:=ZZl (ZZr (A:=A) (r:=r) (v:=texts.length+c) (ros:=ros) (G0:=G0) (w:=c) (ss:=ss) (G1:=G1)) hI.ok hI.good hv (by omega) hroom
   have f6:(ltL A.length (wrV t r).1 (texts.length+c) ros G0 c ss G1)[6]?=_:=ZsJ;have f7:(ltL A.length (wrV t r).1 (texts.length+c) ros G0 c ss G1)[7+G0.length]?=_:=lt_7;have n1:=w1.n;have n2:=w1.nl;have n3:=hI.nl;have n4:=hI.n20
   generalize hL2:ltL A.length (wrV t r).1 (texts.length+c) ros G0 c ss G1=L2 at *
   generalize ltL A.length r (texts.length+c) ros G0 c ss G1=L1 at *
   generalize (wrV t r).1=r2 at *
   generalize (wrV t r).2.1=ro at *
   generalize (wrV t r).2.2=hh at *
   generalize hTT:t.txt r.nodes=T at *
   have hl6:=(List.getElem?_eq_some_iff.1 f6).1;have hl7':=(List.getElem?_eq_some_iff.1 f7).1
   repeat' (first|refine XL rfl ?_|refine Zkp rfl rfl rfl rfl hyi ?_|refine Jl (f:=Tr.av) (l:=[t]) rfl rfl ⟨by decide,rfl⟩ Z3 ?_|refine ZE ?_|refine ZD ?_|refine ZG rfl ?_|refine Zy rfl rfl ?_|refine ZB rfl ?_|refine ZC ?_|refine Qe rfl rfl rfl ?_|(refine Zi rfl rfl (fun _=>?_) (fun _=>?_)<;>try (exfalso;omega))|(refine Zn rfl rfl (fun _=>?_) (fun _=>?_)<;>try (exfalso;omega))|(refine Zj rfl rfl (fun _=>?_) (fun _=>?_)<;>try (exfalso;omega))|refine ZU rfl ?_|refine ZH rfl ?_|refine JO rfl rfl ?_|refine Zl rfl rfl (by omega) ?_|refine Zt rfl rfl rfl ?_|refine JV rfl rfl rfl rfl rfl rfl ?_|refine QZ rfl rfl rfl rfl ?_|refine QQ rfl (Zm _) ?_|refine ZA rfl rfl (by first|rfl|(simp only [lE,lN,lC,Za,ZV,ZW];first|done|rfl)) (hPl) ?_|refine ZA rfl rfl (by first|rfl|(simp only [lE,lN,lC,Za,ZV,ZW];first|done|rfl)) (hTx) ?_|refine ZA rfl rfl (by first|rfl|(simp only [lE,lN,lC,Za,ZV,ZW];first|done|rfl)) (hWr) ?_|refine ZI ?_|refine ZL ?_)
   all_goals try contradiction
   all_goals try (exfalso;omega)
   refine ZAH (es:=ros.map Ro.av) (ys:=[ro.av]) rfl rfl (ZAI f6) (by rw [List.length_map];omega) rfl rfl (by rw [List.length_map,List.length_singleton];omega) (by decide) ?_
   repeat' (first|refine ZD ?_|refine ZG rfl ?_|refine ZB rfl ?_|refine ZC ?_|refine QZ rfl rfl rfl rfl ?_)
   refine ZAH (es:=ss.map .str) (ys:=[.str T]) rfl rfl ((jS (by omega)).trans (ZAI f7)) (by rw [List.length_map];omega) rfl rfl (by rw [List.length_map,List.length_singleton];omega) (by decide) ?_
   repeat' (first|refine ZD ?_|refine ZG rfl ?_|refine ZB rfl ?_|refine ZC ?_|refine Zl rfl rfl (by omega) ?_|refine Z1 ?_|refine QB ?_)
   refine ⟨(i+1,c+1,r2,ros++[ro],ss++[T],G1++[.arr 5 0 [ro.av]]),⟨rfl,?_⟩,⟨by simp only;omega,by simp only;omega,w1.ok,w1.good,(hI.rts.ext hI.good w1.ext).snoc w2,by simp only [lL,List.length_singleton];omega,by simp only;omega,fun s hs=>?_,by simp only;omega⟩,by simp only;omega⟩
   ·show (⟨A,false,((L2++[Blk.arr 5 0 [ro.av]]).set 6 (Blk.arr 5 (texts.length+c+1) (ros.map Ro.av++[ro.av]))).set (7+G0.length) (Blk.arr 1 (c+1) (ss.map AV.str++[AV.str T]))⟩:St)=_
    rw [<- hL2,Zoa,ZrA,ZrB];rfl
   ·rcases List.mem_append.1 hs with q|q
    ·have:=hI.small s q;simp only;omega
    ·rw [List.mem_singleton.1 q];simp only;omega
 ·obtain rfl:i=ys.length:=by omega
  repeat' (first|refine XL rfl ?_|refine ZE ?_|refine ZD ?_|refine ZG rfl ?_|refine ZB rfl ?_|refine ZC ?_|(refine Zi rfl rfl (fun _=>?_) (fun _=>?_)<;>try (exfalso;omega))|refine ZH rfl ?_|refine ZP ?_|refine Zv ?_|refine ZJ ?_|refine Zf ?_|refine Zd rfl ?_|refine Zo ?_)
  all_goals try (exfalso;omega)
  refine ⟨_,_,YE (.inr rfl) rfl rfl rfl rfl,r,c,ros,ss,G0,G1,texts.length+c,rfl,rfl,hI.ok,hI.good,hI.rts,hrs,hI.n20,fun s hs=>?_,hI.nl⟩
  have:=hI.small s hs
  omega
def bel (N:ZO):Nat->Nat->List Nat->List Nat
 | 0,h,s=>if h∈s then s else s++[h]
 | n+1,h,s=>if h∈s then s else (ZAe N h).ks.foldl (fun s k=>bel N n k.at_ s) (s++[h])
structure Visit (τ:List Nat->List Nat->St) (lm mx:Nat) (g:FuncId) (caps:List AV):Prop where
 len:∀ u w u' w',(τ u w).ps.length=(τ u' w').ps.length
 wr:∀ u w,(τ u w).wr lm
 get:∀ u w,(τ u w).get lm mx=some (.map (YK u))
 upd:∀ u w v,(τ u w).upd lm mx (.map (YK v))=τ v w
 call:∀ u w h more L,w.length<1000000000->∃ v,S Tb g ([.int .u64 (h:Nat)]++caps) ⟨(τ u w).ps++more,false,L⟩=some (v,⟨(τ u (w++[h])).ps++more,false,L⟩)
 wk:∀ h:Nat,ZW (Za ([]++[.int .u64 (h:Nat)]++caps))=some ([.int .u64 (h:Nat)]++caps)
 wk2:∀ la b h:Nat,ZW (Za ([]++[.ptr la b 0 0 0,.int .u64 (h:Nat),.map lm mx,.func (.func g) [] caps]++[]))=some [.ptr la b 0 0 0,.int .u64 (h:Nat),.map lm mx,.func (.func g) [] caps]
theorem Zoe {O:Orc} {k:List Fr} {Q:Jw} {e:Env} {L:List Blk} {keep:List Nat} {is:List QAbs.PI} {s0:St} {more:List (Bool × List Blk)} {x i v:Opd} {lv ix h:Nat} {w:AV} {es es':List (AV × AV)} (hx:Zb e x=some (.map lv ix)) (hi:Zb e i=some (.int .u64 h)) (hv:Zb e v=some w) (hw:s0.wr lv) (hg:s0.get lv ix=some (.map es))
 (hs:ZY QG (lv+1) ⟨s0.ps++more,false,L⟩ w=some (w,⟨s0.ps++more,false,L⟩)) (hp:ZFy (.int .u64 h) w es=some es')
 (hh:Is O is keep k Q e ⟨(s0.upd lv ix (.map es')).ps++more,false,L⟩):Is O (⟨none,none,false,.mupd 0 x i v⟩::is) keep k Q e ⟨s0.ps++more,false,L⟩:=by
 have hl:=St.get_le hg;have g':=ZAf hg more false L;have w':=Zkm hl hw more false L;refine Z4 (od:=none) (v:=.undef) (st':=St.upd ⟨s0.ps++more,false,L⟩ lv ix (.map es')) ?_ ?_
 ·simp only [Zg,evalPO,ZF hx,ZF hi,ZF hv,ZLH,Yh,if_true,hs,oS,ZQx,g',ZOA,hp,St.put_upd w' g',ZBk]
 ·rw [Zh9 hl];exact hh
theorem ZiK {N:ZO} {n P:Nat} (ih:∀ (h:Nat) (s:List Nat) (x:Nd),lk N h=some x->x.h=n->3*(bel N n h s).length+1<=3*s.length+P):∀ (ks:List Kid) (s:List Nat),(∀ k∈ks,∃ y,lk N k.at_=some y/\y.h=n)->3*(ks.foldl (fun s k=>bel N n k.at_ s) s).length+ks.length<=3*s.length+ks.length*P:=by
 intro ks
 induction ks with
 | nil=>intro s _;simp
 | cons k l ihl =>
  intro s hk;rw [List.foldl_cons]
  obtain ⟨y,y1,y2⟩:=hk k (by simp)
  have a1:=ih k.at_ s y y1 y2
  have a2:=ihl (bel N n k.at_ s) (fun z hz=>hk z (List.mem_cons_of_mem _ hz))
  rw [List.length_cons,Nat.add_mul];omega
theorem ZrC {N:ZO} (hN:GoodN N):∀ (n h:Nat) (s:List Nat) (x:Nd),lk N h=some x->x.h=n->3*(bel N n h s).length+1<=3*s.length+4 ^ (n+1):=by
 intro n
 induction n with
 | zero =>
  intro h s x hx hh;rw [bel]
  split
  ·omega
  ·rw [lL];simp;omega
 | succ n ih =>
  intro h s x hx hh;rw [bel,QY hx]
  have hp:4 ^ (n+1+1)=4*4 ^ (n+1):=by rw [Nat.pow_succ];omega
  have h1:0<4 ^ (n+1):=Nat.pow_pos (by decide)
  split
  ·omega
  ·have hk4:=(hN h x hx).1.len
   have hkids:=(hN h x hx).2
   have:=ZiK ih x.ks (s++[h]) (fun k hk=>by obtain ⟨_,y,y1,y2,_⟩:=hkids k hk;exact ⟨y,y1,by omega⟩)
   rw [lL,List.length_singleton] at this
   have h3:(4-x.ks.length)*4 ^ (n+1)+x.ks.length*4 ^ (n+1)=4*4 ^ (n+1):=by rw [<- Nat.add_mul];congr 1;omega
   have h4:(4-x.ks.length)*1<=(4-x.ks.length)*4 ^ (n+1):=Nat.mul_le_mul_left _ h1
   generalize 4 ^ (n+1)=P at *
   generalize (4-x.ks.length)*P=P1 at *
   generalize x.ks.length*P=P2 at *
   omega
theorem ZZs {τ:List Nat->List Nat->St} {lm mx:Nat} {g:FuncId} {caps:List AV} (hV:Visit τ lm mx g caps) {N:ZO} {la b:Nat} (hR:∀ u w,Rd (τ u w) la (b+5) N) {h:Nat} {x:Nd} (hx:lk N h=some x) (hk4:x.ks.length<=4) (s:List Nat) (hs:h∉s) (f:Kid->List Nat->List Nat) {B:Nat} (hB:B<=900000000)
 (hlen:∀ i,((x.ks.take i).foldl (fun s k=>f k s) (s++[h])).length<=B)
 (hf:∀ k∈x.ks,∀ (s:List Nat) (more:List (Bool × List Blk)) (L:List Blk),s.length<=B->S Tb JU [.ptr la (b+5) 0 0 0,.int .u64 k.at_,.map lm mx,.func (.func g) [] caps] ⟨(τ s s).ps++more,false,L⟩=some (.int .i64 0,⟨(τ (f k s) (f k s)).ps++more,false,L⟩))
 {more:List (Bool × List Blk)} {st st':St} (hst:st.ps=(τ s s).ps++more) (hst':st'.ps=(τ (x.ks.foldl (fun s k=>f k s) (s++[h])) (x.ks.foldl (fun s k=>f k s) (s++[h]))).ps++more) :
 S Tb JU [.ptr la (b+5) 0 0 0,.int .u64 h,.map lm mx,.func (.func g) [] caps] st=some (.int .i64 0,st'):=by
 refine ZBg rfl (fun A hA=>?_)
 have hA2:A=(τ s s).ps++more:=hA.trans hst;clear hA;subst hA2
 have hlk:=fun L=>ZIv (ZAf (hV.get s s) more false L) h
 simp only [decide_eq_false hs] at hlk;have hl0:=hlen 0;simp only [List.take_zero,List.foldl_nil,lL,List.length_singleton] at hl0
 repeat' (first|refine ZE ?_|refine ZD ?_|refine ZG rfl ?_|refine ZB rfl ?_|refine ZC ?_|refine ZH rfl ?_|refine ZAl rfl rfl (hlk _) ?_|refine ZI ?_)
 all_goals try contradiction
 refine Zoe rfl rfl rfl (hV.wr s s) (hV.get s s) rfl (ZUy h s hs) ?_;rw [hV.upd]
 have hG:=fun L=>ZZT ((hR (s++[h]) s).more more false L) hx hk4
 have hcp:x.copy.av=.agg [.int .i64 x.h,.str x.text,.lit (x.ks.map Kid.av)]:=rfl;rw [hcp] at hG
 obtain ⟨v,hc⟩:=hV.call (s++[h]) s h more [.arr 3 0 [.agg [.int .i64 x.h,.str x.text,.lit (x.ks.map Kid.av)]]] (by omega)
 generalize hA1:(τ (s++[h]) s).ps++more=A1 at *
 repeat' (first|refine ZA rfl rfl (hV.wk h) hc ?_|refine ZE ?_|refine ZD ?_|refine ZG rfl ?_|refine ZQ rfl rfl ?_|refine Zy rfl rfl ?_|refine ZB rfl ?_|refine ZC ?_|(refine Zj rfl rfl (fun _=>?_) (fun _=>?_)<;>try (exfalso;omega))|refine ZH rfl ?_|refine Zh rfl rfl rfl ?_|refine Zw rfl rfl rfl rfl rfl rfl ?_|refine ZA rfl rfl rfl (hG _) ?_|refine ZI ?_)
 all_goals try contradiction
 obtain ⟨A2,hA2⟩:∃ A2,A2=(τ (s++[h]) (s++[h])).ps++more:=⟨_,rfl⟩
 have e12:A1.length=A2.length:=by
  have:=hV.len (s++[h]) s (s++[h]) (s++[h])
  rw [<- hA1,hA2];simp only [lL] at this ⊢;omega
 rw [<- hA2,e12]
 repeat' (first|refine XL rfl ?_|refine ZG rfl ?_|refine ZS rfl rfl rfl rfl ?_|refine ZB rfl ?_|refine ZC ?_|refine ZL ?_)
 refine Zx (α:=Nat × List Blk) (fun p=>[(0,.ptr la (b+5) 0 0 0),(2,.map lm mx),(3,.func (.func g) [] caps),(32,.lit (x.ks.map Kid.av)),(33,.int .i64 x.ks.length),(34,.int .i64 p.1)])
  (fun p=>⟨(τ ((x.ks.take p.1).foldl (fun s k=>f k s) (s++[h])) ((x.ks.take p.1).foldl (fun s k=>f k s) (s++[h]))).ps++more,false,.arr 3 0 [.agg [.int .i64 x.h,.str x.text,.lit (x.ks.map Kid.av)]]::p.2⟩) (fun p=>p.1<=x.ks.length) (fun p=>x.ks.length-p.1) (0,[]) rfl (by rw [hA2];rfl) (Nat.zero_le _) ?_
 rintro ⟨i,G⟩ hi
 simp only at hi ⊢
 rcases Nat.lt_or_ge i x.ks.length with hlt|hge
 ·obtain ⟨kd,hk⟩:∃ k,x.ks[i]?=some k:=⟨x.ks[i]'hlt,jE _⟩
  have qk:0<=((i:Nat):Int)/\x.ks[((i:Nat):Int).toNat]?=some kd:=⟨by omega,by rw [show ((i:Nat):Int).toNat=i by omega];exact hk⟩
  have hcl:=fun L=>hf kd (jM hk) _ more L (hlen i)
  have hnx:(x.ks.take (i+1)).foldl (fun s k=>f k s) (s++[h])=f kd ((x.ks.take i).foldl (fun s k=>f k s) (s++[h])):=by
   rw [Zc hk,List.foldl_append];rfl
  rw [<- hnx] at hcl
  generalize hP:(τ ((x.ks.take (i+1)).foldl (fun s k=>f k s) (s++[h])) ((x.ks.take (i+1)).foldl (fun s k=>f k s) (s++[h]))).ps++more=P at *
  generalize (τ ((x.ks.take i).foldl (fun s k=>f k s) (s++[h])) ((x.ks.take i).foldl (fun s k=>f k s) (s++[h]))).ps++more=A3 at *
  repeat' (first|refine Jl (f:=Kid.av) rfl rfl qk (fun _=>rfl) ?_|refine ZA rfl rfl (hV.wk2 _ _ _) (hcl _) ?_|refine ZE ?_|refine ZD ?_|refine ZG rfl ?_|refine ZQ rfl rfl ?_|refine ZB rfl ?_|refine ZC ?_|refine Qe rfl rfl rfl ?_|refine QQ rfl rfl ?_|(refine Zi rfl rfl (fun _=>?_) (fun _=>?_)<;>try (exfalso;omega))|(refine Zj rfl rfl (fun _=>?_) (fun _=>?_)<;>try (exfalso;omega))|refine ZU rfl ?_|refine ZH rfl ?_|refine Zl rfl rfl (by omega) ?_|refine Zt rfl rfl rfl ?_|refine JV rfl rfl rfl rfl rfl rfl ?_|refine ZI ?_|refine ZL ?_|refine Z1 ?_|refine QB ?_)
  all_goals try contradiction
  all_goals try (exfalso;omega)
  refine ⟨(i+1,G++[.arr 4 0 [kd.av]]),⟨rfl,?_⟩,by simp only;omega,by simp only;omega⟩
  simp only
  rw [hP];rfl
 ·obtain rfl:i=x.ks.length:=by omega
  rw [List.take_length]
  repeat' (first|refine ZE ?_|refine ZD ?_|refine ZG rfl ?_|refine ZB rfl ?_|refine ZC ?_|(refine Zi rfl rfl (fun _=>?_) (fun _=>?_)<;>try (exfalso;omega))|refine ZH rfl ?_|refine ZP ?_|refine Zv ?_|refine ZJ ?_|refine Zf ?_|refine Zd rfl ?_|refine Zo ?_)
  all_goals try (exfalso;omega)
  refine Ze (st:=st') hst'.symm (.inr rfl) rfl rfl rfl rfl ?_;rfl
theorem ZZt {τ:List Nat->List Nat->St} {lm mx:Nat} {g:FuncId} {caps:List AV} (hV:Visit τ lm mx g caps) {la b:Nat} {h:Nat} (s:List Nat) (hs:h∈s) {more:List (Bool × List Blk)} {st:St} (hst:st.ps=(τ s s).ps++more) :
 S Tb JU [.ptr la (b+5) 0 0 0,.int .u64 h,.map lm mx,.func (.func g) [] caps] st=some (.int .i64 0,st):=by
 refine ZBg rfl (fun A hA=>?_)
 have hA2:A=(τ s s).ps++more:=hA.trans hst;have hA0:=hA;clear hA;subst hA2
 have hlk:=fun L=>ZIv (ZAf (hV.get s s) more false L) h
 simp only [decide_eq_true hs] at hlk
 repeat' (first|refine ZE ?_|refine ZD ?_|refine ZG rfl ?_|refine ZB rfl ?_|refine ZC ?_|refine ZU rfl ?_|refine ZAl rfl rfl (hlk _) ?_|refine ZP ?_|refine ZJ ?_|refine ZZ ?_)
 all_goals try contradiction
 refine Ze (st:=st) hA0 (.inr rfl) rfl rfl rfl rfl ?_;rfl
theorem Zof {s t:St} (h:s.ps=t.ps):s=t:=by
 obtain ⟨A,r,L⟩:=s;obtain ⟨A',r',L'⟩:=t
 have:=List.append_inj' h rfl
 obtain ⟨rfl,h2⟩:=this;simp only [List.cons.injEq,jP,and_true] at h2;obtain ⟨rfl,rfl⟩:=h2;rfl
theorem Zkq {τ:List Nat->List Nat->St} {lm mx:Nat} {g:FuncId} {caps:List AV} (hV:Visit τ lm mx g caps) {N:ZO} (hN:GoodN N) {la b:Nat} (hR:∀ u w,Rd (τ u w) la (b+5) N):∀ (n h:Nat) (x:Nd) (s:List Nat),lk N h=some x->x.h=n->s.length+4 ^ (n+1)<=900000000->∀ {more:List (Bool × List Blk)} {st st':St},st.ps=(τ s s).ps++more->st'.ps=(τ (bel N n h s) (bel N n h s)).ps++more ->
 S Tb JU [.ptr la (b+5) 0 0 0,.int .u64 h,.map lm mx,.func (.func g) [] caps] st=some (.int .i64 0,st'):=by
 intro n
 induction n with
 | zero =>
  intro h x s hx hh hb more st st' hst hst'
  by_cases hm:h∈s
  ·rw [bel,if_pos hm,<- hst] at hst'
   rw [Zof hst'];exact ZZt hV s hm hst
  ·rw [bel,if_neg hm] at hst'
   have hks:x.ks=[]:=by
    rcases (hN h x hx).1 with q|⟨m,ks,q⟩
    ·exact q.ks
    ·have e:=q.eq;subst e;simp at hh
   refine ZZs hV hR hx (by rw [hks];decide) s hm (fun _ s=>s) (Nat.le_refl _) (fun i=>?_) (fun k hk=>by rw [hks] at hk;simp at hk) hst (by rw [hks];exact hst')
   rw [hks,List.take_nil,List.foldl_nil,lL,List.length_singleton]
   simp at hb;omega
 | succ n ih =>
  intro h x s hx hh hb more st st' hst hst'
  by_cases hm:h∈s
  ·rw [bel,if_pos hm,<- hst] at hst'
   rw [Zof hst'];exact ZZt hV s hm hst
  ·rw [bel,if_neg hm,QY hx] at hst'
   have hk4:=(hN h x hx).1.len;have hkids:=(hN h x hx).2
   have hp:4 ^ (n+1+1)=4*4 ^ (n+1):=by rw [Nat.pow_succ];omega
   have h1:4<=4 ^ (n+1):=by rw [Nat.pow_succ];have:0<4 ^ n:=Nat.pow_pos (by decide);omega
   refine ZZs hV hR hx hk4 s hm (fun k s=>bel N n k.at_ s) (B:=900000000-4 ^ (n+1)) (by omega) (fun i=>?_) (fun k hk s' more' L hl=>?_) hst hst'
   ·have:=ZiK (ZrC hN n) (x.ks.take i) (s++[h]) (fun k hk=>by obtain ⟨_,y,y1,y2,_⟩:=hkids k (List.mem_of_mem_take hk);exact ⟨y,y1,by omega⟩)
    rw [lL,List.length_singleton] at this
    have hti:(x.ks.take i).length<=4:=by rw [List.length_take];omega
    have h4:(x.ks.take i).length*4 ^ (n+1)<=4*4 ^ (n+1):=Nat.mul_le_mul_right _ hti
    generalize (x.ks.take i).length*4 ^ (n+1)=P2 at *
    generalize 4 ^ (n+1)=P at *
    omega
   ·obtain ⟨_,y,y1,y2,_⟩:=hkids k hk
    exact ih k.at_ y s' y1 (by omega) (by omega) (more:=more'++[(false,L)]) (List.append_assoc ..) (List.append_assoc ..)
theorem ZiL:∀ l:List Tr,(∀ t∈l,4*(t.siz:Int)+4<=t.bytes)->4*(Tr.sizL l:Int)+4*l.length<=Tr.bytesL l
 | [],_=>by simp [Tr.sizL,Tr.bytesL]
 | t::l,h=>by
  have h1:=h t (by simp)
  have h2:=ZiL l fun u hu=>h u (by simp [hu])
  simp only [Tr.sizL,Tr.bytesL,List.length_cons];omega
theorem Zog {N:ZO} (hN:GoodN N) {t:Tr} (hv:Val N t):(t.siz:Int)<=t.bytes+1/\(Big t->4*(t.siz:Int)+4<=t.bytes):=by
 have hsz:=hv.size hN;have hps:=hv.pos.2
 induction hv with
 | @kept o h m k x h0 hx hok hh hm hk =>
  have ec:(Tr.mk o h m [] k).siz=1:=by rw [Tr.siz,Tr.sizO_getD,hk];rfl
  have hl:h<=16:=by
   rcases hok with q|⟨n,ks,q⟩
   ·rw [<- hh,q.h];omega
   ·have:=q.n15;have e:=q.eq;subst e;simp only at hh;omega
  rw [ec]
  refine ⟨by omega,fun q=>?_⟩
  have h1:=hsz q;have h2:=(ZEI hl).1;simp only [Tr.h] at h1;omega
 | @leaf s k h1 h2 hk =>
  have ec:(Tr.mk 0 0 .zero s k).siz=1:=by rw [Tr.siz,Tr.sizO_getD,hk];rfl
  rw [ec]
  refine ⟨by omega,fun q=>?_⟩
  have:=q rfl
  omega
 | @inner h l hh h2 h4 hl hb hv ih =>
  have ec:(Tr.mk 0 (h+1) .zero [] (some l)).siz=Tr.sizL l+1:=by rw [Tr.siz,Tr.sizO];omega
  have eb:(Tr.mk 0 (h+1) .zero [] (some l)).bytes=Tr.bytesL l:=by rw [Tr.bytes,Tr.bytesO];simp [Mea.zero]
  have:=ZiL l fun u hu=>(ih u hu ((hv u hu).size hN) (hv u hu).pos.2).2 (fun q=>hb u hu (by rw [<- hl u hu];exact q))
  rw [ec,eb]
  exact ⟨by omega,fun _=>by omega⟩
theorem Zoh {N:ZO} {t:Tr} (hv:Val N t):∀ out:List Nat,(∀ h∈out,∃ x,lk N h=some x)->∀ h∈t.kwT out,∃ x,lk N h=some x:=by
 induction hv with
 | @kept o h m k x h0 hx hok hh hm hk =>
  intro out ho a ha;rw [Tr.kwT,Tr.kwO_getD,hk,Tr.kwL] at ha
  split at ha
  ·rcases List.mem_append.1 ha with q|q
   ·exact ho a q
   ·rw [List.mem_singleton.1 q];exact ⟨x,hx⟩
  ·exact ho a ha
 | @leaf s k h1 h2 hk =>
  intro out ho a ha
  rw [Tr.kwT,Tr.kwO_getD,hk,Tr.kwL,if_neg (by simp)] at ha
  exact ho a ha
 | @inner h l hh h2 h4 hl hb hv ih =>
  intro out ho a ha
  rw [Tr.kwT,Tr.kwO,if_neg (by simp)] at ha
  have key:∀ (l:List Tr) (out:List Nat),(∀ t∈l,∀ out:List Nat,(∀ h∈out,∃ x,lk N h=some x)->∀ h∈t.kwT out,∃ x,lk N h=some x)->(∀ h∈out,∃ x,lk N h=some x)->∀ a∈Tr.kwL l out,∃ x,lk N a=some x:=by
   intro l
   induction l with
   | nil=>intro out _ ho a ha;exact ho a ha
   | cons t l ihl =>
    intro out hi ho a ha;rw [Tr.kwL] at ha
    exact ihl (t.kwT out) (fun u hu=>hi u (List.mem_cons_of_mem _ hu)) (hi t (by simp) out ho) a ha
  exact key l out ih ho a ha
theorem Zst (h:Nat) (st:St):S Tb YH [.int .u64 h] st=some (.tup [],st):=by
 refine QI rfl (fun A hA=>?_)
 repeat' (first|refine ZI ?_|refine ZJ ?_)
 refine Ze hA (by first|exact .inl rfl|exact .inr rfl) rfl rfl rfl rfl ?_
 rfl
def dr1 (A:List (Bool × List Blk)) (b4 b5 b8:Blk) (u:List Nat):St:=⟨A,false,[b4,b5,b8,.map (YK u),.arr 1 0 [.map A.length 3]]⟩
def dr2 (A:List (Bool × List Blk)) (b4 b5 b8:Blk) (has u o:List Nat):St:=⟨A,false,[b4,b5,b8,.map (YK has),.arr 1 0 [.map A.length 3],.arr 1 o.length (o.map Z9),.arr 1 0 [.ref A.length 5 o.length 0 o.length],.map (YK u)]⟩
theorem ZsM (A:List (Bool × List Blk)) (b4 b5 b8:Blk):Visit (fun u _=>dr1 A b4 b5 b8 u) A.length 3 YH [] where
 len _ _ _ _:=by simp [dr1]
 wr _ _:=by simp [St.wr,dr1]
 get _ _:=St.get_cur ..
 upd _ _ _:=by simp [St.upd,dr1]
 call u w h more L _:=⟨_,Zst h _⟩
 wk _:=rfl
 wk2 _ _ _:=rfl
theorem ZsN (A:List (Bool × List Blk)) (b4 b5 b8:Blk) (has u o:List Nat):Cl (dr2 A b4 b5 b8 has u o) [(A.length,5),(A.length,6)] [.arr 1 o.length (o.map Z9),.arr 1 0 [.ref A.length 5 o.length 0 o.length]]:=by
 refine ⟨by simp,rfl,fun k hk=>?_,fun j lv ix b h1 h2=>?_⟩
 ·simp only [List.mem_cons,List.not_mem_nil,or_false] at hk
  rcases hk with rfl|rfl<;>simp [St.wr,dr2]
 ·match j,h1,h2 with
  | 0,h1,h2=>obtain ⟨rfl,rfl⟩:=Prod.mk.inj (Option.some.inj h1);obtain rfl:=Option.some.inj h2;exact St.get_cur ..
  | 1,h1,h2=>obtain ⟨rfl,rfl⟩:=Prod.mk.inj (Option.some.inj h1);obtain rfl:=Option.some.inj h2;exact St.get_cur ..
  | n+2,h1,h2=>simp at h1
theorem ZrD (A:List (Bool × List Blk)) (b4 b5 b8:Blk) (has u o o':List Nat):JW (dr2 A b4 b5 b8 has u o) [(A.length,5),(A.length,6)] [.arr 1 o'.length (o'.map Z9),.arr 1 0 [.ref A.length 5 o'.length 0 o'.length]]=dr2 A b4 b5 b8 has u o':=by
 simp [JW,St.upd,dr2]
theorem Zsu (A:List (Bool × List Blk)) (b4 b5 b8:Blk) (has u o:List Nat) (h:Nat) (more:List (Bool × List Blk)) (L:List Blk) (hl:o.length<1000000000) :
 S Tb YI [.int .u64 h,.ptr A.length 4 0 0 0,.ptr A.length 6 0 0 0] ⟨(dr2 A b4 b5 b8 has u o).ps++more,false,L⟩=some (.tup [],⟨(dr2 A b4 b5 b8 has u (if h∈has then o else o++[h])).ps++more,false,L⟩):=by
 have H:=(ZsN A b4 b5 b8 has u o).more more false L;have hm4:St.get ⟨(dr2 A b4 b5 b8 has u o).ps++more,false,L⟩ A.length 4=some (.arr 1 0 [.map A.length 3]):=ZAf (s:=dr2 A b4 b5 b8 has u o) (St.get_cur ..) more false L;have hm3:St.get ⟨(dr2 A b4 b5 b8 has u o).ps++more,false,L⟩ A.length 3=some (.map (YK has)):=ZAf (s:=dr2 A b4 b5 b8 has u o) (St.get_cur ..) more false L
 by_cases hm:h∈has
 ·rw [if_pos hm]
  refine QI rfl (fun A1 hA=>?_)
  have g4:=fun L'=>ZX hA (ro:=false) (L:=L') hm4
  have hlk:=fun L'=>ZIv (ZX hA (ro:=false) (L:=L') hm3) h
  simp only [decide_eq_true hm] at hlk
  repeat' (first|refine ZE ?_|refine ZD ?_|refine ZG rfl ?_|refine ZB rfl ?_|refine ZC ?_|refine ZH rfl ?_|refine JO rfl rfl ?_|refine QA rfl (g4 _) rfl rfl ?_|refine ZAl rfl rfl (hlk _) ?_|refine ZI ?_|refine ZJ ?_)
  all_goals try contradiction
  refine Ze hA (by first|exact .inl rfl|exact .inr rfl) rfl rfl rfl rfl ?_
  rfl
 ·rw [if_neg hm]
  have e:JW ⟨(dr2 A b4 b5 b8 has u o).ps++more,false,L⟩ [(A.length,5),(A.length,6)] [.arr 1 (o++[h]).length ((o++[h]).map Z9),.arr 1 0 [.ref A.length 5 (o++[h]).length 0 (o++[h]).length]]=⟨(dr2 A b4 b5 b8 has u (o++[h])).ps++more,false,L⟩:=by
   rw [ZEP (fun k hk=>by simp only [List.mem_cons,List.not_mem_nil,or_false] at hk;rcases hk with rfl|rfl<;>exact Nat.le_refl _),ZrD]
  rw [<- e]
  refine ZBg rfl (fun A1 hA=>?_)
  have hA':A1=(JW ⟨(dr2 A b4 b5 b8 has u o).ps++more,false,L⟩ [(A.length,5),(A.length,6)] [.arr 1 o.length (o.map Z9),.arr 1 0 [.ref A.length 5 o.length 0 o.length]]).ps:=by rw [H.same];exact hA
  have g4:=fun L'=>ZX hA (ro:=false) (L:=L') hm4
  have hlk:=fun L'=>ZIv (ZX hA (ro:=false) (L:=L') hm3) h
  simp only [decide_eq_false hm] at hlk
  have g6:=fun L'=>H.old hA' rfl rfl (ro:=false) (L:=L') (j:=1) rfl rfl
  repeat' (first|refine ZE ?_|refine ZD ?_|refine ZG rfl ?_|refine ZB rfl ?_|refine ZC ?_|refine ZU rfl ?_|refine JO rfl rfl ?_|refine QZ rfl rfl rfl rfl ?_|refine QA rfl (g4 _) rfl rfl ?_|refine ZAl rfl rfl (hlk _) ?_|refine QA rfl (g6 _) rfl rfl ?_)
  all_goals try contradiction
  refine ZUv (es:=o.map Z9) (ys:=[.int .u64 h]) H hA' rfl rfl (j:=0) rfl rfl (by rw [List.length_map];rfl) rfl rfl rfl rfl (by rw [List.length_map,List.length_singleton];omega) (by decide) (fun A2 hA2 _=>?_)
  skip
  refine ZQh H hA2 rfl rfl (j:=1) rfl rfl rfl rfl rfl (Q8 _ (Nat.lt_succ_self _)) rfl (fun A3 hA3 _=>?_)
  repeat' (first|refine ZB rfl ?_|refine ZJ ?_)
  have e3:((([Blk.arr 1 o.length (o.map Z9),Blk.arr 1 0 [.ref A.length 5 o.length 0 o.length]].set 0 (.arr 1 (o.length+1) (o.map Z9++[.int .u64 h]))).set 1 (.arr 1 0 ([AV.ref A.length 5 o.length 0 o.length].set 0 (.ref A.length 5 (o.length+1) 0 ((o.map Z9).length+[AV.int .u64 (h:Int)].length))))))=[.arr 1 (o++[h]).length ((o++[h]).map Z9),.arr 1 0 [.ref A.length 5 (o++[h]).length 0 (o++[h]).length]]:=by
   simp [Z9]
  replace hA3:A3=(JW ⟨(dr2 A b4 b5 b8 has u o).ps++more,false,L⟩ [(A.length,5),(A.length,6)] [.arr 1 (o++[h]).length ((o++[h]).map Z9),.arr 1 0 [.ref A.length 5 (o++[h]).length 0 (o++[h]).length]]).ps:=by rw [<- e3];exact hA3
  refine Ze hA3 (.inl rfl) rfl rfl rfl rfl ?_;rfl
theorem ZsO (A:List (Bool × List Blk)) (b4 b5 b8:Blk) (has:List Nat):Visit (fun u w=>dr2 A b4 b5 b8 has u (w.filter fun h=>decide (h∉has))) A.length 7 YI [.ptr A.length 4 0 0 0,.ptr A.length 6 0 0 0] where
 len _ _ _ _:=by simp [dr2]
 wr _ _:=by simp [St.wr,dr2]
 get _ _:=St.get_cur ..
 upd _ _ _:=by simp [St.upd,dr2]
 call u w h more L hl:=by
  refine ⟨.tup [],(Zsu A b4 b5 b8 has u (w.filter fun h=>decide (h∉has)) h more L (Nat.lt_of_le_of_lt (List.length_filter_le ..) hl)).trans ?_⟩
  rw [List.filter_append]
  by_cases hm:h∈has
  ·rw [if_pos hm,show ([h].filter fun h=>decide (h∉has))=[] by simp [hm],lN]
  ·rw [if_neg hm,show ([h].filter fun h=>decide (h∉has))=[h] by simp [hm]]
 wk _:=rfl
 wk2 _ _ _:=rfl
def ZJW (N:ZO) (l:List Nat):List Nat:=l.foldl (fun s h=>bel N (ZAe N h).h h s) []
def ZDP (N:ZO) (r:Ro) (t:Tr):List Nat:=if r.at_=0 then [] else (bel N r.h r.at_ []).filter fun h=>decide (h∉ZJW N (t.kwT []))
theorem ZsP {N:ZO} (hN:GoodN N) {h:Nat} {x:Nd} (h0:h≠0) (hx:lk N h=some x):x.h<=13 :=
 RtOk.h13 hN (r:=⟨h,x.h,x.mea⟩) (.inr ⟨h0,x,hx,(hN h x hx).1,rfl,rfl⟩)
def Lv (N:ZO) (l:List Nat):Prop:=l.Nodup/\∀ o∈l,∃ x,lk N o=some x
theorem Lv.snoc {N:ZO} {l:List Nat} (h:Lv N l) {o:Nat} (ho:∃ x,lk N o=some x) (hn:o∉l):Lv N (l++[o]):=by
 refine ⟨?_,fun a ha=>?_⟩
 ·rw [List.nodup_append]
  refine ⟨h.1,by simp,fun x hx y hy=>?_⟩
  rw [List.mem_singleton] at hy;intro e;rw [e,hy] at hx;exact hn hx
 ·rcases List.mem_append.1 ha with q|q
  ·exact h.2 a q
  ·rw [List.mem_singleton.1 q];exact ho
theorem ZsQ {N:ZO} (hN:GoodN N):∀ (n h:Nat) (s:List Nat) (x:Nd),lk N h=some x->x.h=n->Lv N s->Lv N (bel N n h s):=by
 intro n
 induction n with
 | zero =>
  intro h s x hx hh hs;rw [bel]
  split
  ·exact hs
  ·rename_i q;exact hs.snoc ⟨x,hx⟩ q
 | succ n ih =>
  intro h s x hx hh hs;rw [bel,QY hx]
  split
  ·exact hs
  ·rename_i q
   have key:∀ (ks:List Kid) (s:List Nat),(∀ k∈ks,∃ y,lk N k.at_=some y/\y.h=n)->Lv N s->Lv N (ks.foldl (fun s k=>bel N n k.at_ s) s):=by
    intro ks
    induction ks with
    | nil=>intro s _ h;exact h
    | cons k l ihl =>
     intro s hk h
     obtain ⟨y,y1,y2⟩:=hk k (by simp)
     exact ihl _ (fun z hz=>hk z (List.mem_cons_of_mem _ hz)) (ih k.at_ s y y1 y2 h)
   exact key x.ks _ (fun k hk=>by obtain ⟨_,y,y1,y2,_⟩:=(hN h x hx).2 k hk;exact ⟨y,y1,by omega⟩) (hs.snoc ⟨x,hx⟩ q)
theorem ZrE {N:ZO} (hN:GoodN N) {l:List Nat} (hl:∀ h∈l,∃ x,lk N h=some x):Lv N (ZJW N l):=by
 have key:∀ (l s:List Nat),(∀ h∈l,∃ x,lk N h=some x)->Lv N s->Lv N (l.foldl (fun s h=>bel N (ZAe N h).h h s) s):=by
  intro l
  induction l with
  | nil=>intro s _ h;exact h
  | cons a l ih =>
   intro s hl h
   obtain ⟨x,hx⟩:=hl a (by simp)
   refine ih _ (fun z hz=>hl z (List.mem_cons_of_mem _ hz)) ?_
   show Lv N (bel N (ZAe N a).h a s)
   rw [QY hx];exact ZsQ hN _ a s x hx rfl h
 exact key l [] hl ⟨by simp,by simp⟩
theorem Zoi {N:ZO} (hN:∀ o x,lk N o=some x->o≠0) {t:Tr} (hv:VE N t):∀ h∈t.kwT [],h≠0/\∃ x,lk N h=some x:=by
 intro h hh
 rcases hv with q|q
 ·obtain ⟨o,th,m,s,k⟩:=t
  have e1:=q.old;have e2:=q.ks;simp only [Tr.old,Tr.ks] at e1 e2;rw [Tr.kwT,Tr.kwO_getD,e2,Tr.kwL,e1] at hh
  simp at hh
 ·obtain ⟨x,hx⟩:=Zoh q [] (by simp) h hh
  exact ⟨hN h x hx,x,hx⟩
theorem Zoj {N:ZO} (hN:GoodN N) {t:Tr} (hv:VE N t) (hb:t.bytes<=65536):t.siz<4294967296:=by
 rcases hv with q|q
 ·obtain ⟨o,th,m,s,k⟩:=t
  have e2:=q.ks;simp only [Tr.ks] at e2;rw [Tr.siz,Tr.sizO_getD,e2,Tr.sizL];omega
 ·have:=(Zog hN q).1;omega
theorem Zda {st:St} {la b:Nat} {N:ZO} (hN:GoodN N) (hK:∀ l,Lv N l->l.length<=16384) (hz:∀ o x,lk N o=some x->o≠0) (hR:Rd st la (b+5) N) {r:Ro} (hr:RtOk N r) {t:Tr} (hv:VE N t) (hb:t.bytes<=65536) :
 S Tb ZCT [.ptr la (b+5) 0 0 0,r.av,t.av] st=some (.tup [.lit ((ZDP N r t).map Z9),.int .i64 0],st):=by
 refine QI rfl (fun A hA=>?_)
 have hRA:=fun L=>hR.push hA (ro:=false) (L:=L)
 have hKp:=fun L=>ZIw (hRA L) hr
 have hCk:=fun L=>ZNo (hRA L) hv hb
 have hKt:=fun st=>Zr8 hv.pos.1 (Zoj hN hv hb) st
 have hkw:=Zoi hz hv;have hkl:=Tr.kwT_len t [];have hsz:=Zoj hN hv hb;unfold ZDP
 generalize t.kwT []=kl at *
 simp only [List.length_nil] at hkl
 have hP13:∀ n,n<=13->4 ^ (n+1)<=268435456:=fun n hn=>by
  have:4 ^ (n+1)<=4 ^ 14:=Nat.pow_le_pow_right (by decide) (by omega)
  exact this
 have hB1:∀ (i h:Nat),kl[i]?=some h->S Tb JU [.ptr la (b+5) 0 0 0,.int .u64 h,.map A.length 3,.func (.func YH) [] []] (dr1 A (.arr 5 0 [r.av]) (.arr 7 0 [t.av]) (.arr 7 0 [(JE r).av]) (ZJW N (kl.take i)))=some (.int .i64 0,dr1 A (.arr 5 0 [r.av]) (.arr 7 0 [t.av]) (.arr 7 0 [(JE r).av]) (ZJW N (kl.take (i+1)))):=by
  intro i h hi;obtain ⟨h0,x,hx⟩:=hkw h (jM hi)
  have hlv:=ZrE hN (l:=kl.take i) (fun z hz=>(hkw z (List.mem_of_mem_take hz)).2)
  have:=hK _ hlv
  have:=hP13 _ (ZsP hN h0 hx)
  have e:ZJW N (kl.take (i+1))=bel N x.h h (ZJW N (kl.take i)):=by
   rw [Zc hi];unfold ZJW;rw [List.foldl_append,List.foldl_cons,List.foldl_nil,QY hx]
  rw [e]
  exact Zkq (ZsM A _ _ _) hN (fun _ _=>hRA _) x.h h x _ hx rfl (by omega) (more:=[]) (lN _).symm (lN _).symm
 have hB2:r.at_≠0->S Tb JU [.ptr la (b+5) 0 0 0,.int .u64 r.at_,.map A.length 7,.func (.func YI) [] [.ptr A.length 4 0 0 0,.ptr A.length 6 0 0 0]] (dr2 A (.arr 5 0 [r.av]) (.arr 7 0 [t.av]) (.arr 7 0 [(JE r).av]) (ZJW N kl) [] [])=some (.int .i64 0,dr2 A (.arr 5 0 [r.av]) (.arr 7 0 [t.av]) (.arr 7 0 [(JE r).av]) (ZJW N kl) (bel N r.h r.at_ []) ((bel N r.h r.at_ []).filter fun h=>decide (h∉ZJW N kl))):=by
  intro h0
  obtain ⟨x,x1,x2,x3,x4⟩:∃ x,lk N r.at_=some x/\NdOk x/\x.h=r.h/\x.mea=r.m:=by
   rcases hr with rfl|w
   ·exact absurd rfl h0
   ·exact w.2
  have:=hP13 _ (hr.h13 hN)
  exact Zkq (ZsO A (.arr 5 0 [r.av]) (.arr 7 0 [t.av]) (.arr 7 0 [(JE r).av]) (ZJW N kl)) hN (fun _ _=>hRA _) r.h r.at_ x [] x1 x3 (by simp only [List.length_nil];omega) (more:=[]) (lN _).symm (lN _).symm
 have hkll:kl.length<1000000000:=by
  have:kl.length<=t.siz:=by omega
  have h2:(t.siz:Int)<=65537:=by
   rcases hv with q|q
   ·obtain ⟨o,th,m,s,k⟩:=t
    have e2:=q.ks;simp only [Tr.ks] at e2;rw [Tr.siz,Tr.sizO_getD,e2,Tr.sizL];decide
   ·have:=(Zog hN q).1;omega
  omega
 unfold dr1 at hB1;unfold dr2 at hB2;obtain ⟨ra,rh,rm⟩:=r
 unfold Ro.av at *
 generalize JE ⟨ra,rh,rm⟩=kt at *
 repeat' (first|refine ZE ?_|refine ZD ?_|refine ZG rfl ?_|refine ZS rfl rfl rfl rfl ?_|refine Zy rfl rfl ?_|refine ZB rfl ?_|refine ZC ?_|(refine Zj rfl rfl (fun _=>?_) (fun _=>?_)<;>try (exfalso;omega))|refine ZH rfl ?_|refine Zh rfl rfl rfl ?_|refine ZG6 rfl ?_|refine ZA rfl rfl (by first|rfl|(simp only [lE,lN,lC,Za,ZV,ZW];first|done|rfl)) (hKp _) ?_|refine ZA rfl rfl (by first|rfl|(simp only [lE,lN,lC,Za,ZV,ZW];first|done|rfl)) (hCk _) ?_|refine ZS rfl rfl rfl (Zm _) ?_|refine Zw rfl rfl rfl (QN _ _ _) (Qo _ _) rfl ?_|refine Zt rfl (Z3 _) (QD _) ?_|refine ZI ?_)
 all_goals try contradiction
 refine Zw rfl rfl rfl (by simp only [ZY,QG,if_pos (Nat.lt_succ_self _)]) rfl rfl ?_
 repeat' (first|refine ZS rfl rfl rfl (Zm _) ?_|refine XL rfl ?_|refine ZE ?_|refine ZD ?_|refine ZG rfl ?_|refine ZB rfl ?_|refine ZC ?_|refine ZA rfl rfl (by first|rfl|(simp only [lE,lN,lC,Za,ZV,ZW];first|done|rfl)) (hKt _) ?_|refine ZL ?_)
 refine Zx (α:=Nat) (fun i=>[(0,.ptr la (b+5) 0 0 0),(4,.ptr A.length 0 0 0 0),(11,.ptr A.length 4 0 0 0),(34,.lit (kl.map Z9)),(35,.int .i64 kl.length),(36,.int .i64 i)])
  (fun i=>⟨A,false,[.arr 5 0 [Ro.av ⟨ra,rh,rm⟩],.arr 7 0 [t.av],.arr 7 0 [kt.av],.map (YK (ZJW N (kl.take i))),.arr 1 0 [.map A.length 3]]⟩) (fun i=>i<=kl.length) (fun i=>kl.length-i) 0 rfl rfl (Nat.zero_le _) ?_
 intro i hi;replace hi:i<=kl.length:=hi;unfold Ro.av
 rcases Nat.lt_or_ge i kl.length with hlt|hge
 ·obtain ⟨h,hh⟩:∃ x,kl[i]?=some x:=⟨kl[i]'hlt,jE _⟩
  have q:0<=((i:Nat):Int)/\kl[((i:Nat):Int).toNat]?=some h:=⟨by omega,by rw [show ((i:Nat):Int).toNat=i by omega];exact hh⟩
  have hB:=hB1 i h hh
  repeat' (first|refine Jl (f:=Z9) rfl rfl q (fun _=>rfl) ?_|refine ZA rfl rfl rfl hB ?_|refine ZE ?_|refine ZD ?_|refine ZG rfl ?_|refine ZS rfl rfl rfl rfl ?_|refine ZB rfl ?_|refine ZC ?_|refine QQ rfl rfl ?_|(refine Zi rfl rfl (fun _=>?_) (fun _=>?_)<;>try (exfalso;omega))|(refine Zj rfl rfl (fun _=>?_) (fun _=>?_)<;>try (exfalso;omega))|refine ZU rfl ?_|refine ZH rfl ?_|refine Zl rfl rfl (by omega) ?_|refine ZI ?_|refine ZL ?_|refine Z1 ?_|refine QB ?_)
  all_goals try contradiction
  all_goals try (exfalso;omega)
  exact ⟨i+1,⟨rfl,rfl⟩,by omega,by omega⟩
 ·obtain rfl:i=kl.length:=by omega
  rw [List.take_length]
  by_cases h0:ra=0
  ·subst h0
   repeat' (first|refine ZLA ?_|refine ZE ?_|refine ZD ?_|refine ZG rfl ?_|refine ZQ rfl rfl ?_|refine ZS rfl rfl rfl rfl ?_|refine ZB rfl ?_|refine ZC ?_|(refine Zi rfl rfl (fun _=>?_) (fun _=>?_)<;>try (exfalso;omega))|(refine Zn rfl rfl (fun _=>?_) (fun _=>?_)<;>try (exfalso;omega))|refine ZU rfl ?_|refine ZH rfl ?_|refine Xu rfl rfl ?_|refine ZG6 rfl ?_|refine ZI ?_|refine ZP ?_|refine Zv ?_|refine ZJ ?_|refine ZZ ?_|refine Zf ?_|refine Zd rfl ?_|refine Zo ?_)
   all_goals try contradiction
   all_goals try (exfalso;omega)
   refine Ze hA (by first|exact .inl rfl|exact .inr rfl) rfl rfl rfl rfl ?_
   rfl
  ·have hB:=hB2 h0
   have h0i:((ra:Nat):Int)≠0:=by omega
   simp only [if_neg h0]
   generalize (bel N rh ra []).filter (fun h=>decide (h∉ZJW N kl))=out at *
   repeat' (first|refine ZLA ?_|refine ZA rfl rfl rfl hB ?_|refine ZE ?_|refine ZD ?_|refine ZG rfl ?_|refine ZQ rfl rfl ?_|refine ZS rfl rfl rfl rfl ?_|refine ZB rfl ?_|refine ZC ?_|(refine Zi rfl rfl (fun _=>?_) (fun _=>?_)<;>try (exfalso;omega))|(refine Zn rfl rfl (fun _=>?_) (fun _=>?_)<;>try (exfalso;omega))|(refine Zj rfl rfl (fun _=>?_) (fun _=>?_)<;>try (exfalso;omega))|refine ZH rfl ?_|refine Xu rfl rfl ?_|refine ZG6 rfl ?_|refine ZI ?_|refine ZP ?_|refine Zv ?_|refine ZJ ?_|refine Zf ?_|refine Zd rfl ?_|refine Zo ?_)
   all_goals try contradiction
   all_goals try (exfalso;omega)
   exact ZCP hA (.inr rfl) rfl rfl (by simp) (fun v hv=>by obtain ⟨x,_,rfl⟩:=List.mem_map.1 hv;rfl) rfl rfl
theorem ZrF {O:Orc} {k:List Fr} {Q:Jw} {e:Env} {st:St} {keep:List Nat} {is:List QAbs.PI} {d:Nat} {x y:Opd} {kd:IntKind} {a b:Int} (hx:Zb e x=some (.int kd a)) (hy:Zb e y=some (.int kd b)) (h:Is O is keep k Q ((d,.int kd (min a b))::e) st):Is O (⟨some d,none,false,.mnx false x y⟩::is) keep k Q e st :=
 ZVm hx hy h
theorem ZiM {O:Orc} {k:List Fr} {Q:Jw} {e:Env} {st:St} {keep:List Nat} {is:List QAbs.PI} {d:Nat} {x y z:Opd} {s t:List UInt8} {n m:Int} (hx:Zb e x=some (.str s)) (hy:Zb e y=some (.int .i64 n)) (hz:Zb e z=some (.int .i64 m)) (hn:0<=n/\n<=m/\m<=s.length) (ht:(s.drop n.toNat).take (m-n).toNat=t)
 (h:Is O is keep k Q ((d,.str t)::e) st):Is O (⟨some d,none,false,.slcS x (some y) (some z)⟩::is) keep k Q e st :=
 Zi7 hx hy hz hn (by rw [ht];exact h)
theorem ZgB {N:ZO} (hN:GoodN N) {r:Ro} {s:List UInt8} (h:Rt N r s) {a n:Nat} (hn:0<n) (ha:a+n<=s.length):1<=(((J7 N r (a:Int)).1.1.drop (J7 N r (a:Int)).1.2.toNat).take n).length/\(((J7 N r (a:Int)).1.1.drop (J7 N r (a:Int)).1.2.toNat).take n).length<=n:=by
 obtain ⟨k1,k2,k3,k4⟩:=ZLC hN h (a:=a) (by omega)
 rw [List.length_take,List.length_drop];omega
theorem Zok {N:ZO} (hN:GoodN N) {r:Ro} {s:List UInt8} (h:Rt N r s):∀ (f a n:Nat),n<=f->a+n<=s.length->pcs N r f a n=pcs N r n a n:=by
 intro f
 induction f using Nat.strongRecOn with
 | ind f ih =>
  intro a n hf ha
  cases f with
  | zero =>
   obtain rfl:n=0:=by omega
   rfl
  | succ f =>
   cases n with
   | zero=>simp [pcs]
   | succ n =>
    have hl:=ZgB hN h (a:=a) (n:=n+1) (by omega) ha
    rw [pcs,pcs,if_neg (by omega),if_neg (by omega)]
    simp only
    generalize ((J7 N r (a:Int)).1.1.drop (J7 N r (a:Int)).1.2.toNat).take (n+1)=p at *
    rw [ih f (by omega) (a+p.length) (n+1-p.length) (by omega) (by omega),ih n (by omega) (a+p.length) (n+1-p.length) (by omega) (by omega)]
theorem Zol {N:ZO} (hN:GoodN N) {r:Ro} {s:List UInt8} (h:Rt N r s) {a n:Nat} (hn:0<n) (ha:a+n<=s.length) {p:List UInt8} (hp:((J7 N r (a:Int)).1.1.drop (J7 N r (a:Int)).1.2.toNat).take n=p) :
 pcs N r n a n=p::pcs N r (n-p.length) (a+p.length) (n-p.length):=by
 have hl:=ZgB hN h hn ha
 cases n with
 | zero=>omega
 | succ n =>
  rw [pcs,if_neg (by omega)]
  simp only
  rw [hp] at hl ⊢
  rw [Zok hN h n (a+p.length) (n+1-p.length) (by omega) (by omega)]
section
variable {A:List (Bool × List Blk)} {la b:Nat} {r:Ro} {N:ZO} {s:List UInt8}
theorem ZQw {es:List AV} {a n i w ver:Nat} {xs:List AV} (hc:(pcL A la b r es a n)[i]?=some (.arr w ver xs)) (L:List Blk):St.get ⟨(pcF A la b r es a n).ps++[(false,[])],false,L⟩ A.length i=some (.arr w ver xs) :=
 ZAf (by unfold pcF;rw [St.get_cur,hc];rfl) [(false,[])] false L
theorem Zsv {TY:Tab} (hTY:TLe Tb TY) {lv:Nat} {caps:List AV} (hcw:Za caps=caps) (hy:∀ (es:List AV) (a n:Nat) (p:List UInt8) (more:List (Bool × List Blk)) (ro:Bool) (L:List Blk),es.length<4000000000->S TY (yB+lv) (.str p::.int .i64 0::caps) ⟨(pcF A la b r es a n).ps++more,ro,L⟩=some (.bool true,⟨(pcF A la b r (es++[.str p]) a n).ps++more,ro,L⟩))
 (hN:GoodN N) (h:Rt N r s) (hR:∀ es a n,Rd (pcF A la b r es a n) la (b+5) N) (hs:s.length<=100000) (a0 n0:Nat) (ha:a0+n0<=s.length) :
 S TY J1 [.func (.yield lv) [] caps,.ptr A.length 7 0 0 0,.ptr A.length 4 0 0 0,.ptr A.length 5 0 0 0,.ptr A.length 6 0 0 0] ⟨(pcF A la b r [] a0 n0).ps,false,[]⟩=some (.tup [],⟨(pcF A la b r ((pcs N r n0 a0 n0).map .str) (a0+n0) 0).ps,false,[]⟩):=by
 refine ZBg (hTY _ _ rfl) (fun A' hA'=>?_)
 have hA0:A'=(pcF A la b r [] a0 n0).ps++[(false,[])]:=hA'
 repeat' (refine ZL ?_)
 refine Zx (α:=List (List UInt8) × Nat × Nat × List (Bool × List Blk)) (fun q=>[(0,.func (.yield lv) [] caps),(1,.ptr A.length 7 0 0 0),(2,.ptr A.length 4 0 0 0),(3,.ptr A.length 5 0 0 0),(4,.ptr A.length 6 0 0 0)]) (fun q=>⟨q.2.2.2,false,[]⟩)
  (fun q=>q.2.2.2=(pcF A la b r (q.1.map .str) q.2.1 q.2.2.1).ps++[(false,[])]/\q.1++pcs N r q.2.2.1 q.2.1 q.2.2.1=pcs N r n0 a0 n0/\q.2.1+q.2.2.1=a0+n0/\q.1.length+q.2.2.1<=n0) (fun q=>q.2.2.1) ([],a0,n0,A') rfl rfl ⟨hA0,rfl,rfl,by simp⟩ ?_
 clear hA' hA0
 rintro ⟨ps,a,n,A'⟩ ⟨hA',hp,han,hpl⟩
 simp only at hA' hp han hpl ⊢
 have g7:=ZQw (A:=A) (la:=la) (b:=b) (r:=r) (es:=ps.map .str) (a:=a) (n:=n) (i:=7) rfl;have g4:=ZQw (A:=A) (la:=la) (b:=b) (r:=r) (es:=ps.map .str) (a:=a) (n:=n) (i:=4) rfl;have g5:=ZQw (A:=A) (la:=la) (b:=b) (r:=r) (es:=ps.map .str) (a:=a) (n:=n) (i:=5) rfl;have g6:=ZQw (A:=A) (la:=la) (b:=b) (r:=r) (es:=ps.map .str) (a:=a) (n:=n) (i:=6) rfl;rw [<- hA'] at g7 g4 g5 g6
 rcases Nat.eq_zero_or_pos n with hz|hpos
 ·subst hz
  have hps:ps=pcs N r n0 a0 n0:=by rw [<- hp];simp [pcs]
  repeat' (first|refine QA rfl (g7 _) rfl rfl ?_|refine ZE ?_|refine ZD ?_|refine ZB rfl ?_|refine ZC ?_|(refine Qd rfl rfl (fun _=>?_) (fun _=>?_)<;>try (exfalso;omega))|refine ZH rfl ?_|refine Zv ?_|refine ZJ ?_|refine Zf ?_|refine Zd rfl ?_|refine Zo ?_)
  all_goals try (exfalso;omega)
  rw [<- hps,<- han,Nat.add_zero];exact Ze (st:=⟨(pcF A la b r (ps.map .str) a 0).ps,false,[]⟩) hA' (.inl rfl) rfl rfl rfl rfl rfl
 ·have hmb:r.m.b=s.length:=(h.b hN).2
  obtain ⟨k1,k2,k3,k4⟩:=ZLC hN h (a:=a) (by omega)
  have hlen:=ZgB hN h (a:=a) hpos (by omega)
  have hLf:=Zh3 hTY _ _ _ _ (ZsI (b:=b) hN ((hR (ps.map .str) a n).more [(false,[])] false []) h.rt (a:Int) (by omega) (by omega) (by omega))
  rw [<- hA'] at hLf
  have hstep:=fun p hp=>Zol hN h (a:=a) hpos (by omega) (p:=p) hp
  generalize (J7 N r (a:Int)).1.1=lf at *
  generalize (J7 N r (a:Int)).1.2=rs at *
  obtain ⟨p,hpe⟩:∃ p,(lf.drop rs.toNat).take n=p:=⟨_,rfl⟩;have hst:=hstep p hpe;rw [hpe] at hlen
  have hslc:(lf.drop rs.toNat).take (min (lf.length:Int) (rs+(n:Int))-rs).toNat=p:=by
   rw [<- hpe,List.take_eq_take_iff,List.length_drop];omega
  have hyc:=hy (ps.map .str) a n p [(false,[])] false [] (by rw [List.length_map];omega)
  rw [<- hA'] at hyc
  have e1:ps.map AV.str++[.str p]=(ps++[p]).map .str:=by simp
  rw [e1] at hyc;obtain ⟨A2,hA2⟩:∃ A2,A2=(pcF A la b r ((ps++[p]).map .str) a n).ps++[(false,[])]:=⟨_,rfl⟩;rw [<- hA2] at hyc;have q6:=ZQw (A:=A) (la:=la) (b:=b) (r:=r) (es:=(ps++[p]).map .str) (a:=a) (n:=n) (i:=6) rfl;have q7:=ZQw (A:=A) (la:=la) (b:=b) (r:=r) (es:=(ps++[p]).map .str) (a:=a) (n:=n) (i:=7) rfl;rw [<- hA2] at q6 q7
  have hne:¬ (A.length=A.length/\6=7):=by omega
  have hnz:¬ (lf.length:Int)<=rs:=by omega
  have hwk:Za ([.str p,.int .i64 0]++caps)=.str p::.int .i64 0::caps:=by
   show weak (.str p)::weak (.int .i64 0)::Za caps=_
   rw [hcw];rfl
  unfold Ro.av at g5 hLf
  repeat' (first|refine QA rfl (g7 _) rfl rfl ?_|refine QA rfl (g4 _) rfl rfl ?_|refine QA rfl (g5 _) rfl rfl ?_|refine QA rfl (g6 _) rfl rfl ?_|refine ZrF rfl rfl ?_|refine ZiM rfl rfl rfl (by omega) hslc ?_|refine Zh5 rfl rfl hwk hyc ?_|refine QA rfl (q6 _) rfl rfl ?_|refine ZoV rfl rfl (by omega) (q7 _) rfl rfl ?_|refine ZiI rfl rfl rfl rfl ?_|refine ZE ?_|refine ZD ?_|refine ZG rfl ?_|refine QM rfl ?_|refine Zs rfl rfl rfl rfl ?_|refine Zy rfl rfl ?_|refine ZB rfl ?_|refine ZC ?_|refine Jj rfl ?_|(refine Qd rfl rfl (fun _=>?_) (fun _=>?_)<;>try (exfalso;omega))|(refine Xt rfl rfl (fun _=>?_) (fun _=>?_)<;>try (exfalso;omega))|(refine Zn rfl rfl (fun _=>?_) (fun _=>?_)<;>try (exfalso;omega))|(refine Zj rfl rfl (fun _=>?_) (fun _=>?_)<;>try (exfalso;omega))|refine ZU rfl ?_|refine ZH rfl ?_|refine JO rfl rfl ?_|refine Zl rfl rfl (by omega) ?_|refine Ja rfl rfl (by omega) ?_|refine ZA rfl rfl rfl (hLf) ?_|refine ZI ?_|refine ZL ?_)
  all_goals try contradiction
  all_goals try (exfalso;omega)
  have H:=(ZrY (A:=A) (la:=la) (b:=b) (r:=r) ((ps++[p]).map .str) a n).push (A:=(pcF A la b r ((ps++[p]).map .str) a n).ps) (ro:=false) (L:=[]) rfl
  have hA3:A2=(JW ⟨(pcF A la b r ((ps++[p]).map .str) a n).ps,false,[]⟩ (pcK A) (pcB A ((ps++[p]).map .str) a n)).ps:=by rw [H.same];exact hA2
  refine ZQh (j:=2) H hA3 rfl rfl rfl rfl rfl rfl rfl rfl rfl (fun A4 hA4 e4=>?_)
  skip
  refine ZQh (j:=3) H hA4 rfl rfl rfl rfl rfl rfl rfl rfl rfl (fun A5 hA5 e5=>?_)
  repeat' (first|refine ZB rfl ?_|refine Z1 ?_|refine QB ?_)
  have e6:(a:Int)+p.length=((a+p.length:Nat):Int):=by omega
  have e7:(n:Int)-p.length=((n-p.length:Nat):Int):=by omega
  have hA6:A5=(pcF A la b r ((ps++[p]).map .str) (a+p.length) (n-p.length)).ps++[(false,[])]:=by
   rw [hA5,<- ZoW (A:=A) (la:=la) (b:=b) (r:=r) ((ps++[p]).map .str) ((ps++[p]).map .str) a n (a+p.length) (n-p.length)]
   rw [ZQg (st:=pcF A la b r ((ps++[p]).map .str) a n) (ks:=pcK A) rfl (fun k hk=>ZrZ k hk),e6,e7]
   rfl
  refine ⟨(ps++[p],a+p.length,n-p.length,A5),⟨rfl,rfl⟩,⟨hA6,?_,by simp only;omega,by simp only [lL,List.length_singleton];omega⟩,by simp only;omega⟩
  simp only
  rw [List.append_assoc,List.singleton_append,<- hst,hp]
end
noncomputable def tS:List (FuncId × Ent):=(ZCQ,.base (rfO Tb p_slice_Pieces))::(Qs,.base ZQv)::t3
noncomputable def TS:Tab:=Xs tS
theorem le3S:TLe T3 TS:=fun g y hg=>ZFe (l:=(Qs,.base ZQv)::t3) (by decide +kernel) g y (ZFe (l:=t3) (by decide +kernel) g y hg)
theorem leS:TLe Tb TS:=fun g y hg=>le3S g y (le3 g y hg)
theorem upS {f:FuncId} {args:List AV} {st:St} {r:AV × St} (h:S Tb f args st=some r):S TS f args st=some r:=Zh3 leS _ _ _ _ h
theorem ZrG {f:FuncId} {args:List AV} {st:St} {r:AV × St} (h:S T3 f args st=some r):S TS f args st=some r:=Zh3 le3S _ _ _ _ h
section
variable {st:St} {la b:Nat} {r:Ro} {N:ZO} {s:List UInt8}
theorem ZIy (hN:GoodN N) (hR:Rd st la (b+5) N) (h:Rt N r s) (hs:s.length<=100000) {a n:Int} (h0:0<=a) (h1:0<=n) (h2:a+n<=s.length):S Tb XI [.ptr la (b+5) 0 0 0,r.av,.int .i64 a,.int .i64 n] st=some (.int .i64 0,st):=by
 refine QI rfl (fun A hA=>?_)
 have hmb:r.m.b=s.length:=(h.b hN).2
 have hK:=fun L=>ZIw (hR.push hA (ro:=false) (L:=L)) h.rt
 unfold Ro.av at *
 repeat' (first|refine ZE ?_|refine ZD ?_|refine ZG rfl ?_|refine ZQ rfl rfl ?_|refine ZS rfl rfl rfl rfl ?_|refine QM rfl ?_|refine Zs rfl rfl rfl rfl ?_|refine Zy rfl rfl ?_|refine ZB rfl ?_|refine ZC ?_|(refine Zi rfl rfl (fun _=>?_) (fun _=>?_)<;>try (exfalso;omega))|(refine Qd rfl rfl (fun _=>?_) (fun _=>?_)<;>try (exfalso;omega))|(refine Zj rfl rfl (fun _=>?_) (fun _=>?_)<;>try (exfalso;omega))|refine ZH rfl ?_|refine Ja rfl rfl (by omega) ?_|refine Zh rfl rfl rfl ?_|refine Zw rfl rfl rfl (QN _ _ _) (Qo _ _) rfl ?_|refine ZA rfl rfl (by first|rfl|(simp only [lE,lN,lC,Za,ZV,ZW];first|done|rfl)) (hK _) ?_|refine ZI ?_|refine ZP ?_|refine ZJ ?_)
 all_goals try contradiction
 all_goals try (exfalso;omega)
 all_goals refine Ze hA (by first|exact .inl rfl|exact .inr rfl) rfl rfl rfl rfl ?_
 all_goals rfl
theorem ZmA (A:List (Bool × List Blk)) (L:List Blk) (a n:Int):S Tb ZDU [.ptr la (b+5) 0 0 0,r.av,.int .i64 a,.int .i64 n] ⟨A,false,L⟩=some (.func (.func J1) [] [.ptr A.length (L.length+3) 0 0 0,.ptr A.length L.length 0 0 0,.ptr A.length (L.length+1) 0 0 0,.ptr A.length (L.length+2) 0 0 0],⟨A,false,L++[.arr 1 0 [.ptr la (b+5) 0 0 0],.arr 5 0 [r.av],.arr 1 0 [.int .i64 a],.arr 1 0 [.int .i64 n]]⟩):=by
 refine Xw rfl ?_;unfold Ro.av
 repeat' (first|refine ZE ?_|refine ZD ?_|refine ZG rfl ?_|refine ZB rfl ?_|refine ZC ?_|refine Xu rfl rfl ?_|refine Zt rfl rfl rfl ?_|refine ZP ?_|refine ZJ ?_)
 refine (YE (.inr rfl) rfl rfl rfl rfl).trans ?_
 simp
theorem Zom (hN:GoodN N) (hR:Rd st la (b+5) N) (h:Rt N r s) (hs:s.length<=100000) {a n:Nat} (h2:a+n<=s.length):S TS ZCQ [.ptr la (b+5) 0 0 0,r.av,.int .i64 a,.int .i64 n] st=some (.tup [.lit ((pcs N r n a n).map .str),.int .i64 0],st):=by
 refine Zq2 (rf:=p_slice_Pieces) rfl (fun A hA=>?_)
 have hK:=fun L=>ZIy hN (hR.push hA (ro:=false) (L:=L)) h hs (a:=a) (n:=n) (by omega) (by omega) (by omega)
 have hM:=fun L=>ZmA (la:=la) (b:=b) (r:=r) A L a n
 have hS:=fun (caps:List AV) (hcw:Za caps=caps) hcr=>Zsv (TY:=ZLb Tb (A.length+1) (Yu (S Tb) itS p_slice_Pieces.nt p_slice_Pieces.rng)) (fun g y hg=>ZU0 Zh7 _ _ g y hg) (lv:=A.length+1) (A:=A) (la:=la) (b:=b) (caps:=caps) hcw (fun es a n p more ro L hl=>ZU1 _ _ _ _ _ (ZoX hcr es a n hl p more ro L)) hN h (fun es a n=>hR.push hA) hs a n h2
 have hS1:=hS (ZFh 39 [(11,.ptr A.length 2 0 0 0),(12,.ptr A.length 3 0 0 0),(27,.func (.func J1) [] [.ptr A.length 7 0 0 0,.ptr A.length 4 0 0 0,.ptr A.length 5 0 0 0,.ptr A.length 6 0 0 0]),(28,.any),(29,.any)]) rfl ⟨_,rfl,rfl⟩;have hlen:(pcs N r n a n).length<=n:=(Zjp hN h n a n (Nat.le_refl _) h2).2.2
 unfold Ro.av at *
 repeat' (first|refine ZE ?_|refine ZD ?_|refine ZG rfl ?_|refine ZS rfl rfl rfl rfl ?_|refine ZB rfl ?_|refine ZC ?_|(refine Zj rfl rfl (fun _=>?_) (fun _=>?_)<;>try (exfalso;omega))|refine ZH rfl ?_|refine Zh rfl rfl rfl ?_|refine Zw rfl rfl rfl rfl rfl rfl ?_|refine ZAW rfl ?_|refine ZA rfl rfl rfl (hK _) ?_|refine ZA rfl rfl rfl (hM _) ?_|refine ZI ?_|refine ZJ ?_)
 all_goals try contradiction
 unfold pcF pcL Ro.av at hS1
 have hal:((pcs N r n a n).map AV.str).length=(pcs N r n a n).length:=List.length_map ..
 refine .inr ⟨rfl,_,Zf5 (g:=J1) rfl (by decide) hS1,?_⟩
 repeat' (first|refine ZE ?_|refine ZD ?_|refine ZG rfl ?_|refine ZS rfl rfl rfl rfl ?_|refine ZB rfl ?_|refine ZC ?_|refine ZI ?_|refine ZP ?_|refine ZJ ?_)
 exact ZCP hA (.inr rfl) rfl rfl rfl (fun v hv=>by obtain ⟨x,_,rfl⟩:=List.mem_map.1 hv;rfl) rfl rfl
end
section
variable {st:St} {la b:Nat} {r:Ro} {N:ZO} {s:List UInt8}
theorem ZiN (hN:GoodN N) (hR:Rd st la (b+5) N) (h:Rt N r s) (hs:s.length<=65536) {a n:Nat} (h2:a+n<=s.length):S TS ZBn [.ptr la (b+5) 0 0 0,r.av,.int .i64 a,.int .i64 n] st=some (.tup [.str ((s.drop a).take n),.int .i64 0],st):=by
 refine QI (T:=TS) rfl (fun A hA=>?_)
 obtain ⟨p1,p2,p3⟩:=Zjp hN h n a n (Nat.le_refl _) h2
 have hP:=fun L=>Zom hN (hR.push hA (ro:=false) (L:=L)) h (by omega) (a:=a) (n:=n) h2
 have hJ:=fun st=>upS (ZsG (pcs N r n a n) (by omega) (by rw [p1,List.length_take,List.length_drop];omega) st)
 rw [p1] at hJ
 generalize (pcs N r n a n).map AV.str=l at *
 unfold Ro.av at *
 repeat' (first|refine ZE ?_|refine ZD ?_|refine ZG rfl ?_|refine ZS rfl rfl rfl rfl ?_|refine Zy rfl rfl ?_|refine ZB rfl ?_|refine ZC ?_|refine Zh rfl rfl rfl ?_|refine ZA rfl rfl rfl (hP _) ?_|refine ZA rfl rfl rfl (hJ _) ?_|refine ZP ?_|refine ZJ ?_)
 all_goals try contradiction
 all_goals refine Ze hA (by first|exact .inl rfl|exact .inr rfl) rfl rfl rfl rfl ?_
 all_goals rfl
theorem Zjs (s t:List UInt8) (hs:s.length<=65536) (st:St):S TS ZA7 [.str s,.str t] st=some (.int .i64 (Lib.index s t),st):=by
 refine QI (T:=TS) rfl (fun A hA=>?_)
 have hI:∀ st,S TS Qs [.str s,.str t] st=some (.int .i64 (Lib.index s t),st):=fun st=>ZVG (o:=ZQv) rfl (by
  unfold ZQv ZRX
  simp only
  rw [if_pos (by omega)];rfl)
 repeat' (first|refine ZE ?_|refine ZD ?_|refine ZG rfl ?_|refine ZB rfl ?_|refine ZC ?_|refine ZA rfl rfl rfl (hI _) ?_|refine ZP ?_|refine ZJ ?_)
 refine Ze hA (by first|exact .inl rfl|exact .inr rfl) rfl rfl rfl rfl ?_
 rfl
theorem Zon (hN:GoodN N) (hR:Rd st la (b+5) N) (h:Rt N r s) (hs:s.length<=65536) (t:List UInt8) {a:Nat} (h2:a<=s.length) :
 S TS ZEj [.ptr la (b+5) 0 0 0,r.av,.str t,.int .i64 a] st=some (if Lib.index (s.drop a) t<0 then .tup [.int .i64 0,.bool false,.int .i64 0] else .tup [.int .i64 (a+Lib.index (s.drop a) t),.bool true,.int .i64 0],st):=by
 refine QI (T:=TS) rfl (fun A hA=>?_)
 have hmb:r.m.b=s.length:=(h.b hN).2
 have hC:=fun L=>upS (ZIy hN (hR.push hA (ro:=false) (L:=L)) h (by omega) (a:=(a:Int)) (n:=0) (by omega) (by omega) (by omega))
 have hRe:=fun L=>ZiN hN (hR.push hA (ro:=false) (L:=L)) h hs (a:=a) (n:=s.length-a) (by omega)
 rw [show ((s.length-a:Nat):Int)=r.m.b-(a:Int) by omega,List.take_of_length_le (by rw [List.length_drop];exact Nat.le_refl _)] at hRe
 have hI:=fun st=>Zjs (s.drop a) t (by rw [List.length_drop];omega) st
 have hle:Lib.index (s.drop a) t<=100000000/\-1<=Lib.index (s.drop a) t:=by
  refine ⟨?_,Lib.index_ge _ _⟩
  have key:∀ (l t:List UInt8),Lib.index l t<=l.length:=by
   intro l t
   induction l with
   | nil=>unfold Lib.index;split<;>simp
   | cons c l ih =>
    rw [Lib.index];simp only [List.length_cons]
    split
    ·omega
    ·split<;>omega
  have:=key (s.drop a) t
  rw [List.length_drop] at this;omega
 generalize Lib.index (s.drop a) t=z at *
 generalize s.drop a=sd at *
 unfold Ro.av at *
 repeat' (first|refine ZE ?_|refine ZD ?_|refine ZG rfl ?_|refine ZQ rfl rfl ?_|refine ZS rfl rfl rfl rfl ?_|refine Zy rfl rfl ?_|refine ZB rfl ?_|refine ZC ?_|(refine Zi rfl rfl (fun _=>?_) (fun _=>?_)<;>try (exfalso;omega))|(refine Zj rfl rfl (fun _=>?_) (fun _=>?_)<;>try (exfalso;omega))|refine ZU rfl ?_|refine ZH rfl ?_|refine Zl rfl rfl (by omega) ?_|refine Ja rfl rfl (by omega) ?_|refine Zh rfl rfl rfl ?_|refine ZA rfl rfl rfl (hC _) ?_|refine ZA rfl rfl rfl (hRe _) ?_|refine ZA rfl rfl rfl (hI _) ?_|refine ZI ?_|refine ZP ?_|refine ZJ ?_|refine ZZ ?_)
 all_goals try contradiction
 all_goals try (exfalso;omega)
 all_goals refine Ze hA (by first|exact .inl rfl|exact .inr rfl) rfl rfl rfl rfl ?_
 ·rw [if_pos (by assumption)]
 ·rw [if_neg (by omega)]
end
theorem ZmB (A:List (Bool × List Blk)):S Tb XF [] ⟨A,false,[]⟩=some (.tup [.ptr A.length 6 0 0 0,exRo.av,.bool true],⟨A,false,[.arr 5 0 [exRo.av]]++(arB A.length 1 exR++[.arr 5 0 [exRo.av]])⟩):=by
 have hN:=Zke 8 4 (by omega) (by omega) A [.arr 5 0 [Ro.zero.av]]
 have h1:=Zko (XV A [.arr 5 0 [Ro.zero.av]] [] (JD 8 4)) (ZZn 8 4 (by omega) (by omega)) ZNt exS (by decide) (by rw [ZrX];decide)
 rw [ZZm,ZrW] at h1
 change S Tb ZCS [.ptr A.length 6 0 0 0,.str exS] ⟨A,false,_⟩=some (_,⟨A,false,[.arr 5 0 [Ro.zero.av]]++(arB A.length 1 exR++[])⟩) at h1
 refine Xw rfl ?_
 repeat' (first|refine ZE ?_|refine ZD ?_|refine ZG rfl ?_|refine QM rfl ?_|refine Zs rfl rfl rfl rfl ?_|refine Zy rfl rfl ?_|refine ZB rfl ?_|refine ZC ?_|(refine Zj rfl rfl (fun _=>?_) (fun _=>?_)<;>try (exfalso;omega))|refine ZH rfl ?_|refine JN rfl rfl rfl rfl ?_|refine Zh rfl rfl rfl ?_|refine ZA rfl rfl rfl (hN) ?_|refine ZI ?_)
 all_goals try contradiction
 all_goals try (exfalso;omega)
 unfold exS at h1;refine ZA rfl rfl rfl h1 ?_
 change Is _ _ _ _ _ _ ⟨A,false,[.arr 5 0 [Ro.zero.av],exR.b0,exR.b1,exR.b2,exR.b3 A.length 1,exR.b4,exR.b5 A.length 1]⟩
 generalize hb0:exR.b0=b0 at *
 generalize hb1:exR.b1=b1 at *
 generalize hb2:exR.b2=b2 at *
 generalize hb3:exR.b3 A.length 1=b3 at *
 generalize hb4:exR.b4=b4 at *
 generalize hb5:exR.b5 A.length 1=b5 at *
 repeat' (first|refine ZEL rfl rfl rfl rfl rfl rfl ?_|refine ZFY rfl rfl rfl rfl rfl rfl rfl ?_|refine ZE ?_|refine ZD ?_|refine ZG rfl ?_|refine ZQ rfl rfl ?_|refine ZS rfl rfl rfl rfl ?_|refine QM rfl ?_|refine Zs rfl rfl rfl rfl ?_|refine Zy rfl rfl ?_|refine ZB rfl ?_|refine ZC ?_|(refine Zn rfl rfl (fun _=>?_) (fun _=>?_)<;>try (exfalso;omega))|refine Zh rfl rfl rfl ?_|refine Zw rfl rfl rfl rfl rfl rfl ?_|refine ZP ?_|refine ZJ ?_)
 all_goals first|exact absurd rfl ‹_›|(refine (Zrr (.inr rfl) rfl rfl rfl rfl rfl).trans ?_;subst hb0 hb1 hb2 hb3 hb4 hb5;rfl)
theorem ZmC (st:St):S TS Q9 [] st=some (.bool true,st):=by
 refine QI (T:=TS) rfl (fun A hA=>?_)
 obtain ⟨o1,o2,o3⟩:=Zsr;have hS:=upS (ZmB A);generalize hX0:[Blk.arr 5 0 [exRo.av]]++(arB A.length 1 exR++[.arr 5 0 [exRo.av]])=X0 at hS
 have hHas:∀ T,Has ⟨A,false,X0++T⟩ A.length 1 exR:=fun T=>by
  rw [<- hX0]
  have:=XV A [.arr 5 0 [exRo.av]] ([.arr 5 0 [exRo.av]]++T) exR
  simpa [List.append_assoc] using this
 have hRe:=fun T=>ZiN (a:=7) (n:=4) o2 (hHas T).r.rd o3 (by decide) (by decide)
 have hFi:=fun T=>Zon (a:=0) o2 (hHas T).r.rd o3 (by decide) [105,106] (by decide)
 have e1:(exS.drop 7).take 4=[104,105,106,107]:=rfl
 have e2:Lib.index (exS.drop 0) [105,106]=8:=by decide
 rw [e1] at hRe;rw [e2] at hFi
 simp only [show ¬ ((8:Int)<0) by decide,if_false] at hFi
 repeat' (first|refine ZE ?_|refine ZD ?_|refine ZG rfl ?_|refine QM rfl ?_|refine Zs rfl rfl rfl rfl ?_|refine Zy rfl rfl ?_|refine ZB rfl ?_|refine ZC ?_|refine Qe rfl rfl rfl ?_|(refine Zn rfl rfl (fun _=>?_) (fun _=>?_)<;>try (exfalso;omega))|(refine Y3 rfl rfl (fun _=>?_) (fun _=>?_)<;>try contradiction)|refine ZH rfl ?_|refine JO rfl rfl ?_|refine Zt rfl rfl rfl ?_|refine JV rfl rfl rfl rfl rfl rfl ?_|refine ZA rfl rfl rfl (hS) ?_|refine ZA rfl rfl rfl (hRe _) ?_|refine ZA rfl rfl rfl (hFi _) ?_|refine ZI ?_|refine ZP ?_|refine ZJ ?_)
 all_goals try contradiction
 all_goals try (exfalso;omega)
 refine Ze hA (by first|exact .inl rfl|exact .inr rfl) rfl rfl rfl rfl ?_
 rfl
def Zjt (ro:Ro) (fresh:List Nat) (d:AV):AV:=.agg [.int .u64 ro.at_,.int .i64 ro.h,.int .i64 ro.m.b,.int .i64 ro.m.r,.int .i64 ro.m.l,.lit (fresh.map Z9),d]
def chZ:AV:=.agg [.int .u64 0,.int .i64 0,.int .i64 0,.int .i64 0,.int .i64 0,.nils,.nils]
theorem Zoo {e:Env} {A:List (Bool × List Blk)} {st:St} {L L':List Blk} {x:Ex} {c4 c5 j4 w4 v4:Nat} {v w:AV} {cs:List AV} {z:Int} (hA:A=st.A++[(st.ro,st.L)]) (hx:x=.norm\/x=.ret) (h4:Jm e c4=some (.ptr A.length j4 v4 0 0)) (hg4:L[j4]?=some (.arr w4 v4 [v])) (hv:v=.agg cs) (hc:cs.length=7) (h5:Jm e c5=some (.int .i64 z))
 (hs:ZY QG A.length ⟨A,false,L⟩ (.tup [v,.int .i64 z])=some (.tup [w,.int .i64 z],⟨A,false,L'⟩)):Jd false [.c c4 true 7,.s c5] (x,e,⟨A,false,L⟩)=some (.tup [w,.int .i64 z],st):=by
 refine ZCO (v:=.tup [v,.int .i64 z]) hA hx ?_ hs rfl
 have h1:ZAK ⟨A,false,L⟩ e (.c c4 true 7)=some v:=by
  subst hv;simp only [ZAK,QF h4,loadP,St.get_cur,hg4,vis,ZCC,if_true,List.getElem?_cons_zero,oS,JG,AV.cells,List.drop_zero]
  rw [List.take_of_length_le (by omega)]
  simp [hc]
  rfl
 simp only [QU,ZCz,h1,oS];simp only [ZAK,QF h5,oS,Option.map_some,ZDg]
def Zkr (N:ZO) (rs:List Ro) (t:Tr):List Nat:=(rs.flatMap fun r=>ZDP N r t).foldl Q7 []
theorem AROk.lv {r:AR} (h:AROk r):∀ l,Lv r.nodes l->l.length<=16384:=fun l hl=>h.few hl.1 hl.2
theorem AROk.nz {r:AR} (h:AROk r):∀ o x,lk r.nodes o=some x->o≠0:=fun o x hx=>(h.hnd hx).2
theorem ZZu (w:List Nat) (hl:w.length<9223372036854775808) (st:St):S Tb YC [.lit (w.map Z9),.lit (w.map Z9)] st=some (.bool true,st):=by
 refine QI rfl (fun A hA=>?_)
 repeat' (first|refine XL rfl ?_|refine ZE ?_|refine ZD ?_|refine ZG rfl ?_|refine ZB rfl ?_|refine ZC ?_|(refine Zj rfl rfl (fun _=>?_) (fun _=>?_)<;>try (exfalso;omega))|refine ZH rfl ?_|refine ZI ?_|refine ZL ?_)
 all_goals try contradiction
 refine Zx (α:=Nat) (fun i=>[(0,.lit (w.map Z9)),(1,.lit (w.map Z9)),(5,.int .i64 i)]) (fun i=>⟨A,false,[]⟩) (fun i=>i<=w.length) (fun i=>w.length-i) 0 rfl rfl (Nat.zero_le _) ?_
 intro i hi;replace hi:i<=w.length:=hi
 rcases Nat.lt_or_ge i w.length with hlt|hge
 ·obtain ⟨k,hk⟩:∃ k,w[i]?=some k:=⟨w[i]'hlt,jE _⟩
  have q:0<=((i:Nat):Int)/\w[((i:Nat):Int).toNat]?=some k:=⟨by omega,by rw [show ((i:Nat):Int).toNat=i by omega];exact hk⟩
  repeat' (first|refine XL rfl ?_|refine Jl (f:=Z9) rfl rfl q (fun _=>rfl) ?_|refine ZE ?_|refine ZD ?_|refine ZG rfl ?_|refine ZB rfl ?_|refine ZC ?_|refine QQ rfl rfl ?_|(refine Zi rfl rfl (fun _=>?_) (fun _=>?_)<;>try (exfalso;omega))|(refine Zj rfl rfl (fun _=>?_) (fun _=>?_)<;>try (exfalso;omega))|refine ZU rfl ?_|refine ZH rfl ?_|refine Zl rfl rfl (by omega) ?_|refine ZI ?_|refine ZL ?_|refine Z1 ?_|refine QB ?_)
  all_goals try contradiction
  all_goals try (exfalso;omega)
  all_goals first|exact absurd rfl ‹_›|exact ⟨i+1,⟨rfl,rfl⟩,by omega,by omega⟩
 ·obtain rfl:i=w.length:=by omega
  repeat' (first|refine XL rfl ?_|refine ZE ?_|refine ZD ?_|refine ZG rfl ?_|refine ZB rfl ?_|refine ZC ?_|(refine Zi rfl rfl (fun _=>?_) (fun _=>?_)<;>try (exfalso;omega))|refine ZH rfl ?_|refine ZP ?_|refine Zv ?_|refine ZJ ?_|refine Zf ?_|refine Zd rfl ?_|refine Zo ?_)
  all_goals try (exfalso;omega)
  refine Ze hA (by first|exact .inl rfl|exact .inr rfl) rfl rfl rfl rfl ?_
  rfl
structure Op where
 at_:Int
 num:Int
 text:List UInt8
def Zsw (l:List Op):Prop:=∃ s∈l,300<s.text.length
noncomputable instance (l:List Op):Decidable (Zsw l):=Classical.propDecidable _
def ZDQ (texts:List (List UInt8)) (ys:List Ed):Prop:=ZRW texts\/ZZq ys\/12<ys.length
noncomputable instance (texts:List (List UInt8)) (ys:List Ed):Decidable (ZDQ texts ys):=Classical.propDecidable _
theorem Zop (texts:List (List UInt8)) (ys:List Ed) (hb:texts.length<9223372036854775808) (hbs:∀ s∈texts,s.length<9223372036854775808) (hy:ys.length<9223372036854775808) (hys:∀ y∈ys,y.text.length<9223372036854775808) (st:St) :
 S Tb Yv [.lit (texts.map .str),.lit (ys.map Ed.av)] st=some (.bool (decide (ZDQ texts ys)),st):=by
 refine QI rfl (fun A hA=>?_)
 have hLg:=fun st=>ZsF texts hb hbs st
 have hMn:=fun st=>ZoK ys hy hys st
 by_cases hl:ZRW texts
 ·rw [decide_eq_true (show ZDQ texts ys from .inl hl)]
  simp only [decide_eq_true hl] at hLg
  repeat' (first|refine ZE ?_|refine ZD ?_|refine ZG rfl ?_|refine J3 rfl rfl ?_|refine Zs rfl rfl rfl rfl ?_|refine ZB rfl ?_|refine ZC ?_|refine ZA rfl rfl rfl (hLg _) ?_|refine ZP ?_|refine ZJ ?_)
  all_goals try contradiction
  all_goals refine Ze hA (by first|exact .inl rfl|exact .inr rfl) rfl rfl rfl rfl ?_
  all_goals rfl
 simp only [decide_eq_false hl] at hLg
 by_cases hm:ZZq ys
 ·rw [decide_eq_true (show ZDQ texts ys from .inr (.inl hm))]
  simp only [decide_eq_true hm] at hMn
  repeat' (first|refine ZE ?_|refine ZD ?_|refine ZG rfl ?_|refine QM rfl ?_|refine J3 rfl rfl ?_|refine Zs rfl rfl rfl rfl ?_|refine ZB rfl ?_|refine ZC ?_|refine ZA rfl rfl rfl (hLg _) ?_|refine ZA rfl rfl rfl (hMn _) ?_|refine ZP ?_|refine ZJ ?_)
  all_goals try contradiction
  all_goals refine Ze hA (by first|exact .inl rfl|exact .inr rfl) rfl rfl rfl rfl ?_
  all_goals rfl
 simp only [decide_eq_false hm] at hMn
 by_cases h12:12<ys.length
 ·rw [decide_eq_true (show ZDQ texts ys from .inr (.inr h12))]
  repeat' (first|refine XL rfl ?_|refine ZE ?_|refine ZD ?_|refine ZG rfl ?_|refine QM rfl ?_|refine Zs rfl rfl rfl rfl ?_|refine ZB rfl ?_|refine ZC ?_|(refine Qd rfl rfl (fun _=>?_) (fun _=>?_)<;>try (exfalso;omega))|refine ZA rfl rfl rfl (hLg _) ?_|refine ZA rfl rfl rfl (hMn _) ?_|refine ZP ?_|refine ZJ ?_)
  all_goals try contradiction
  all_goals try (exfalso;omega)
  all_goals refine Ze hA (by first|exact .inl rfl|exact .inr rfl) rfl rfl rfl rfl ?_
  all_goals rfl
 ·rw [decide_eq_false (show ¬ ZDQ texts ys from fun q=>q.elim hl fun q=>q.elim hm h12)]
  repeat' (first|refine XL rfl ?_|refine ZE ?_|refine ZD ?_|refine ZG rfl ?_|refine QM rfl ?_|refine Zs rfl rfl rfl rfl ?_|refine ZB rfl ?_|refine ZC ?_|(refine Qd rfl rfl (fun _=>?_) (fun _=>?_)<;>try (exfalso;omega))|refine ZA rfl rfl rfl (hLg _) ?_|refine ZA rfl rfl rfl (hMn _) ?_|refine ZP ?_|refine ZJ ?_)
  all_goals try contradiction
  all_goals try (exfalso;omega)
  all_goals refine Ze hA (by first|exact .inl rfl|exact .inr rfl) rfl rfl rfl rfl ?_
  all_goals rfl
theorem Zju (x n:Int) (h0:0<=n) (h1:n<4611686018427387904) (st:St):S Tb Jv [.int .i64 x,.int .i64 n] st=some (.int .i64 (JK x n),st):=by
 refine QI rfl (fun A hA=>?_)
 have hP:=fun st=>Zf9 x n h0 h1 st
 repeat' (first|refine ZE ?_|refine ZD ?_|refine ZG rfl ?_|refine ZB rfl ?_|refine ZC ?_|refine ZA rfl rfl rfl (hP _) ?_|refine ZP ?_|refine ZJ ?_)
 refine Ze hA (by first|exact .inl rfl|exact .inr rfl) rfl rfl rfl rfl ?_
 rfl
section
variable {O:Orc} {k:List Fr} {Q:Jw} {e:Env} {A:List (Bool × List Blk)} {L:List Blk} {keep:List Nat} {is:List QAbs.PI} {d:Nat} {st:St}
theorem Zdb {w:Nat} {x i b:Opd} {ix ver s m v2 s2 m2:Nat} {n:Int} {es:List AV} (hx:Zb e x=some (.ref A.length ix ver s m)) (hb:Zb e b=some (.ref A.length ix v2 s2 m2)) (hi:Zb e i=some (.int .i64 n)) (hn:0<=n/\n<m) (hg:L[ix]?=some (Blk.arr w ver es))
 (h:Is O is keep k Q ((d,.ptr A.length ix ver (s+n.toNat) 0)::e) ⟨A,false,L⟩):Is O (⟨some d,none,false,.w (.only b) (.ixS w x i)⟩::is) keep k Q e ⟨A,false,L⟩:=by
 refine Z4 (v:=.ptr A.length ix ver (s+n.toNat) 0) (st':=⟨A,false,L⟩) ?_ h
 have hgt:(St.hide (fun lv ix=>!Yo lv ix (b.get e)) ⟨A,false,L⟩).get A.length ix=some (Blk.arr w ver es):=by
  rw [Ys,St.get_cur,hg,ZF hb]
  simp [Yo,vis]
 have hio:Yi m (.int .i64 n)=some n.toNat:=by simp only [Yi,if_pos hn]
 simp only [Zg,Z7,PO.reads,if_true,evalPO,ZF hx,ZF hi,ixSV,hio,hgt,wIs,oS,QW,QL]
 simp [QW,QL]
theorem ZZv {a b:Opd} {agg:Bool} {n ix ver i o w v2 s2 m2:Nat} {es:List AV} {x v:AV} (ha:Zb e a=some (.ptr A.length ix ver i o)) (hb:Zb e b=some (.ref A.length ix v2 s2 m2))
 (hg:L[ix]?=some (Blk.arr w ver es)) (hx:es[i]?=some x) (hv:JG x agg o n=some v) (h:Is O is keep k Q ((d,v)::e) ⟨A,false,L⟩):Is O (⟨some d,none,false,.w (.only b) (.ld agg n a)⟩::is) keep k Q e ⟨A,false,L⟩:=by
 refine Z4 (v:=v) (st':=⟨A,false,L⟩) ?_ h
 have hgt:(St.hide (fun lv ix=>!Yo lv ix (b.get e)) ⟨A,false,L⟩).get A.length ix=some (Blk.arr w ver es):=by
  rw [Ys,St.get_cur,hg,ZF hb]
  simp [Yo,vis]
 simp only [Zg,Z7,PO.reads,if_true,evalPO,ZF ha,loadP,hgt,ZCC,hx,hv,oS,QW,QL]
theorem Zoq {a x b:Opd} {n lv ix ver i o lv2 ix2 v2 s2 m2:Nat} {vx:AV} (ha:Zb e a=some (.ptr lv ix ver i o)) (hb:Zb e b=some (.ref lv2 ix2 v2 s2 m2)) (hx:Zb e x=some vx) (hne:¬ (lv=lv2/\ix=ix2)) (hh:ZAL 6 (lv+1) vx=true)
 (h:Is O (⟨none,none,false,.st n a x⟩::is) keep k Q e st):Is O (⟨none,none,false,.w (.off b) (.st n a x)⟩::is) keep k Q e st:=by
 refine Zf0 ?_ h
 have hs:ZgP (.ref lv2 ix2 v2 s2 m2) (.ptr lv ix ver i o) vx=true:=by
  unfold ZgP;simp only [Yo,hh,Bool.and_true,Bool.not_eq_true',Bool.and_eq_false_iff,beq_eq_false_iff_ne,ne_eq]
  by_cases q:lv=lv2
  ·exact .inr fun z=>hne ⟨q,z⟩
  ·exact .inl q
 simp only [Zg,Z7,Zky,ZF ha,ZF hb,ZF hx,hs,if_true]
end
section
variable {n:Nat} {r:AR} {v w:Nat} {ros:List Ro} {ss:List (List UInt8)} {G0 G1 G2:List Blk}
theorem Zor:(ltL n r v ros G0 w ss G1).length=8+G0.length+G1.length:=by
 simp [ltL];omega
end
theorem ZN6 {N M:ZO} (hN:GoodN N) (hs:Ext N M):∀ n o x,lk N o=some x->x.h=n->Qg M n o=Qg N n o:=by
 intro n
 induction n with
 | zero=>intro o x hx hh;rfl
 | succ n ih =>
  intro o x hx hh;obtain ⟨hok,hk⟩:=hN o x hx;rw [ZN2 hx hok hh,ZN2 (hs _ _ hx) hok hh]
  have key:∀ l:List Kid,(∀ k∈l,k∈x.ks)->(l.flatMap fun k=>Qg M n k.at_)=l.flatMap fun k=>Qg N n k.at_:=by
   intro l
   induction l with
   | nil=>intro _;rfl
   | cons k l ih2 =>
    intro h
    obtain ⟨_,y,y1,y2,_⟩:=hk k (h k (by simp))
    rw [List.flatMap_cons,List.flatMap_cons,ih k.at_ y y1 (by omega),ih2 (fun q hq=>h q (by simp [hq]))]
  rw [show n+1-1=n by omega,key x.ks fun _ h=>h]
theorem ZZw {N M:ZO} (hN:GoodN N) (hE:Ext N M) {r:Ro} (h:RtOk N r):Zu M r=Zu N r:=by
 unfold Zu
 split
 ·rfl
 ·rename_i q
  rcases h with e|⟨_,x,h1,_,h2,_⟩
  ·rw [e] at q;exact absurd rfl q
  ·exact ZN6 hN hE _ _ x h1 h2
set_option maxHeartbeats 32000000
theorem Zos {texts:List (List UInt8)} {ys:List Ed} (h:¬ ZDQ texts ys):(texts.flatten.length<=900/\texts.length<=4)/\ys.length<=12/\∀ y∈ys,y.text.length<=200:=by
 have h1:¬ ZRW texts:=fun q=>h (.inl q)
 have h2:¬ ZZq ys:=fun q=>h (.inr (.inl q))
 have h3:¬ 12<ys.length:=fun q=>h (.inr (.inr q))
 obtain ⟨a,b,c⟩:=ZsK h1 h2
 exact ⟨a,by omega,c⟩
end Go.Q15
namespace Go.QAbs
open Go.ChangeShapes Go.WideShapes Go.RowKit Go.Deep
variable {P:Program}
def rho0:Rho:=⟨fun _ _=>⟨0,0,0⟩,fun _=>(0,[])⟩
theorem ZmD (lv ix:Nat):St.empty.get lv ix=none:=by
 unfold St.empty St.get
 split<;>simp [vis]
theorem Zot {W:World} {b o:Nat} {v:Value} (h:W.cell? ⟨b,o,none⟩=some v):(cx .empty rho0 W 0).im b o v :=
 ⟨h,fun ⟨lv,ix,w,ver,es,hg,_⟩=>by rw [ZmD] at hg;simp at hg⟩
theorem walk_in (hm:P.follows .mixedOrders=true) {T:Tab} (hT:TabOk P T) {f:FuncId} {args:List AV} (h:∃ st',S T f args .empty=some (.bool true,st')) {W:World} {xs:List Value} (hg:KG P W (.of W)) (hx:RL (cx .empty rho0 W 0) args xs) :
 Calls P f xs.toArray W fun e W'=>e=.returned (.bool true)/\Below W.heap.size W W':=by
 obtain ⟨st',h⟩:=h
 refine (ZqC hm hT h hg (ZlN W) hx).mono fun e' W' ⟨x,_,he,g,hv⟩=>?_
 subst he
 exact ⟨by rw [YO hv],g.rel.below.b⟩
theorem Zks {W:World} {b off len cap w:Nat} (es:List AV) (g:Nat->Value) (hlen:es.length=len) (hc:len<=cap) (he:∀ (i:Nat) (e:AV),es[i]?=some e->R (cx .empty rho0 W 0).pure e (g i))
 (hg:∀ i,i<len->(g i).cells.size=w/\∀ (j:Nat) (v:Value),(g i).cells[j]?=some v->W.cell? ⟨b,off+i*w+j,none⟩=some v):R (cx .empty rho0 W 0) (.lit es) (.slice (some ⟨b,off,none⟩) len cap):=by
 subst hlen
 exact .lit (w:=w) g he (fun i hi=>⟨(hg i hi).1,fun j v hv=>Zot ((hg i hi).2 j v hv)⟩) hc
section
variable {H:Type} {enc:TypeId × Value->H}
theorem open_strs_arg {W:World} {base:Nat} {t e:TypeId} {v:Value} {d:DataW H} {ps:List MemPlace} (ht:P.underlying t=some (.slice e)) (he:P.underlying e=some .string) (hc:P.cellsOf e=1)
 (hval:Value.okWide P W .any base t v) (h:DataW.Trod enc P W 0 (fun _=>true) true t v d ps) :
 ∃ ss:List (List UInt8),(∀ s∈ss,s.length<=maxLen)/\ss.length<=maxLen/\R (cx .empty rho0 W 0) (.lit (ss.map .str)) v:=by
 obtain ⟨a0,len,cap,rfl⟩:=okWide_slice ht hval;obtain ⟨fuel,hf⟩:=h
 rcases open_strings ht he hc hf with ⟨hcs,hx⟩|⟨a,len',cap',ss,hcs,_,hl,hm,hz,hx,hcell,hsz⟩
 ·refine ⟨[],by simp,by simp,?_⟩
  have:(Value.slice a0 len cap)=.slice none 0 0:=by simpa [Value.cells] using hcs
  rw [this];exact .lit0 _ _
 ·have hv:(Value.slice a0 len cap)=.slice (some a) len' cap':=by simpa [Value.cells] using hcs
  rw [hv];simp only [if_true] at hz
  refine ⟨(ss.take len').map (fun s=>s.data.toList),?_,?_,?_⟩
  ·intro s hs
   obtain ⟨s',hs',rfl⟩:=List.mem_map.1 hs;rw [Array.length_toList];exact hsz s' (List.mem_of_mem_take hs')
  ·rw [List.length_map,List.length_take];omega
  ·cases len' with
   | zero=>exact .lit0 _ _
   | succ n =>
    obtain ⟨b,off,spot⟩:=a
    have hspot:spot=none:=by simpa [Addr.add] using World.cell?_spot (hcell 0 (by omega))
    subst hspot
    refine Zks (w:=1) _ (fun i=>.string (ss.getD i ByteArray.empty)) (by simp;omega) hl (fun i e he=>?_) (fun i hi=>⟨rfl,fun j v hv=>?_⟩)
    ·rw [jG,jG,List.getElem?_take] at he
     by_cases hi:i<n+1
     ·rw [if_pos hi] at he
      have hs:ss[i]?=some (ss.getD i ByteArray.empty):=by
       have:i<ss.length:=by omega
       simp [List.getD,this]
      rw [hs] at he;simp only [Option.map_some,oJ] at he;subst he;rw [ZnM (ss.getD i ByteArray.empty)];exact .str _
     ·rw [if_neg hi] at he;simp at he
    ·have hj : j = 0 := by
      have:j<(Value.string (ss.getD i ByteArray.empty)).cells.size:=(Array.getElem?_eq_some_iff.1 hv).1
      simp [Value.cells] at this;omega
     subst hj
     have hv':Value.string (ss.getD i ByteArray.empty)=v:=by simpa [Value.cells] using hv
     rw [<- hv']
     have:=hcell i (by omega)
     simpa [Addr.add_lit] using this
theorem open_ops_arg {W:World} {base:Nat} {t e t0 t1 t2 t3 t4:TypeId} {f0 f1 f2 f3 f4:Field} {v:Value} {d:DataW H} {ps:List MemPlace} (ht:P.underlying t=some (.slice e)) (he:P.underlying e=some (.struct #[f0,f1,f2,f3,f4])) (hc:P.cellsOf e=5)
 (hf0:f0.type=t0/\f0.offset=0/\P.underlying t0=some (.int .u8)/\P.cellsOf t0=1) (hf1:f1.type=t1/\f1.offset=1/\P.underlying t1=some (.int .i64)/\P.cellsOf t1=1) (hf2:f2.type=t2/\f2.offset=2/\P.underlying t2=some (.int .i64)/\P.cellsOf t2=1)
 (hf3:f3.type=t3/\f3.offset=3/\P.underlying t3=some (.int .i64)/\P.cellsOf t3=1) (hf4:f4.type=t4/\f4.offset=4/\P.underlying t4=some .string/\P.cellsOf t4=1) (hval:Value.okWide P W .any base t v) (h:DataW.Trod enc P W 0 (fun _=>true) true t v d ps) :
 ∃ l:List (Nat × Int × Int × Int × List UInt8),(∀ s∈l,s.2.2.2.2.length<=maxLen)/\l.length<=maxLen/\R (cx .empty rho0 W 0) (.lit (l.map fun q=>.agg [.int .u8 q.1,.int .i64 q.2.1,.int .i64 q.2.2.1,.int .i64 q.2.2.2.1,.str q.2.2.2.2])) v:=by
 obtain ⟨a0,len,cap,rfl⟩:=okWide_slice ht hval;obtain ⟨fuel,hf⟩:=h
 rcases open_slice ht hf with ⟨hcs,hx⟩|⟨a,len',cap',m,n,D,Pl,hcs,_,hl,hm,hmm,hx,hall⟩
 ·refine ⟨[],by simp,by simp,?_⟩
  have:(Value.slice a0 len cap)=.slice none 0 0:=by simpa [Value.cells] using hcs
  rw [this];exact .lit0 _ _
 ·have hv:(Value.slice a0 len cap)=.slice (some a) len' cap':=by simpa [Value.cells] using hcs
  rw [hv];simp only [if_true] at hmm;subst hmm;rw [hc] at hall
  have each:∀ i,i<len'->∃ q:Nat × Int × Int × Int × List UInt8,q.2.2.2.2.length<=maxLen/\W.cell? (a.add (i*5))=some (.int .u8 q.1)/\W.cell? (a.add (i*5+1))=some (.int .i64 q.2.1)/\W.cell? (a.add (i*5+2))=some (.int .i64 q.2.2.1)/\W.cell? (a.add (i*5+3))=some (.int .i64 q.2.2.2.1)/\W.cell? (a.add (i*5+4))=some (.string ⟨q.2.2.2.2.toArray⟩):=by
   intro i hi
   obtain ⟨cs',h1,h2⟩:=hall i (by omega)
   obtain ⟨_,hlen,hcell⟩:=World.cells?_some h1;obtain ⟨xs,k,_,_,_,hxl,hfs⟩:=DataW.trod_struct he h2;have g0:=hfs 0 f0 rfl;have g1:=hfs 1 f1 rfl;have g2:=hfs 2 f2 rfl;have g3:=hfs 3 f3 rfl;have g4:=hfs 4 f4 rfl
   match cs',hlen,xs,hxl with
   | [c0,c1,c2,c3,c4],_,[y0,y1,y2,y3,y4],_ =>
    simp only [hf0.1,hf0.2.1,hf0.2.2.2,hf1.1,hf1.2.1,hf1.2.2.2,hf2.1,hf2.2.1,hf2.2.2.2,hf3.1,hf3.2.1,hf3.2.2.2,hf4.1,hf4.2.1,hf4.2.2.2,List.drop,List.take,List.getElem?_cons_zero,List.getElem?_cons_succ] at g0 g1 g2 g3 g4;obtain ⟨n0,e0,_,w0⟩:=DataW.trod_int hf0.2.2.1 g0;obtain ⟨n1,e1,_,_⟩:=DataW.trod_int hf1.2.2.1 g1;obtain ⟨n2,e2,_,_⟩:=DataW.trod_int hf2.2.2.1 g2;obtain ⟨n3,e3,_,_⟩:=DataW.trod_int hf3.2.2.1 g3;obtain ⟨s,e4,_,hs⟩:=DataW.trod_string hf4.2.2.1 g4;simp only [List.cons.injEq,and_true] at e0 e1 e2 e3 e4;subst e0;subst e1;subst e2;subst e3;subst e4
    have hn0:0<=n0:=by
     simp only [Lit.wf,Bool.and_eq_true,decide_eq_true_eq] at w0;exact w0.1
    refine ⟨(n0.toNat,n1,n2,n3,s.data.toList),by simp only [Array.length_toList];exact hs,?_,?_,?_,?_,?_⟩
    ·have:=hcell 0 (by omega)
     simp only [add_add,Nat.add_zero,List.getElem?_cons_zero] at this;rw [this];simp only [Int.toNat_of_nonneg hn0]
    ·have:=hcell 1 (by omega)
     simpa only [add_add,List.getElem?_cons_succ,List.getElem?_cons_zero] using this
    ·have:=hcell 2 (by omega)
     simpa only [add_add,List.getElem?_cons_succ,List.getElem?_cons_zero] using this
    ·have:=hcell 3 (by omega)
     simpa only [add_add,List.getElem?_cons_succ,List.getElem?_cons_zero] using this
    ·have:=hcell 4 (by omega)
     simp only [add_add,List.getElem?_cons_succ,List.getElem?_cons_zero] at this;rw [this,ZnM s]
  obtain ⟨q,hq⟩:=choose_lt each
  refine ⟨(List.range len').map q,?_,by simp;omega,?_⟩
  ·intro s hs
   obtain ⟨i,hi,rfl⟩:=List.mem_map.1 hs;exact (hq i (List.mem_range.1 hi)).1
  ·cases len' with
   | zero=>exact .lit0 _ _
   | succ len' =>
    obtain ⟨b,off,spot⟩:=a
    have hspot:spot=none:=by simpa [Addr.add] using World.cell?_spot (hq 0 (by omega)).2.1
    subst hspot
    refine Zks (w:=5) _ (fun i=>.agg #[.int .u8 (q i).1,.int .i64 (q i).2.1,.int .i64 (q i).2.2.1,.int .i64 (q i).2.2.2.1,.string ⟨(q i).2.2.2.2.toArray⟩]) (by simp) hl (fun i e he=>?_) (fun i hi=>⟨by simp [Value.cells],fun j v hv=>?_⟩)
    ·rw [jG,jG] at he
     by_cases hi:i<len'+1
     ·rw [List.getElem?_range hi] at he
      simp only [Option.map_some,oJ] at he;subst he;have hr:=RL.cons (C:=(cx .empty rho0 W 0).pure) (.int .u8 ((q i).1:Int)) (.cons (.int .i64 (q i).2.1) (.cons (.int .i64 (q i).2.2.1) (.cons (.int .i64 (q i).2.2.2.1) (.cons (.str (q i).2.2.2.2) (.nil _)))));exact .agg (xs:=[_,_,_,_,_]) hr.1 hr.2
     ·have:(List.range (len'+1))[i]?=none:=by simp;omega
      rw [this] at he;simp at he
    ·obtain ⟨_,k0,k1,k2,k3,k4⟩:=hq i hi
     have hj:j<5:=by
      have:=(Array.getElem?_eq_some_iff.1 hv).1
      simpa [Value.cells] using this
     simp only [Addr.add_lit] at k0 k1 k2 k3 k4
     match j,hj with
     | 0,_ =>
      have:v=.int .u8 (q i).1:=by simpa [Value.cells] using hv.symm
      subst this;simpa using k0
     | 1,_ =>
      have:v=.int .i64 (q i).2.1:=by simpa [Value.cells] using hv.symm
      subst this;simpa [Nat.add_assoc] using k1
     | 2,_ =>
      have:v=.int .i64 (q i).2.2.1:=by simpa [Value.cells] using hv.symm
      subst this;simpa [Nat.add_assoc] using k2
     | 3,_ =>
      have:v=.int .i64 (q i).2.2.2.1:=by simpa [Value.cells] using hv.symm
      subst this;simpa [Nat.add_assoc] using k3
     | 4,_ =>
      have:v=.string ⟨(q i).2.2.2.2.toArray⟩:=by simpa [Value.cells] using hv.symm
      subst this;simpa [Nat.add_assoc] using k4
end
end Go.QAbs
namespace Go.Proofs
open Go.Shelf
def Tryz.lays156_ren:Go.Shelf.Ren:=⟨fun|156=>21|165=>79|166=>80|169=>81|240=>147|241=>148|276=>209|277=>210|n=>n,fun|31=>22|9=>9|3=>3|4=>4|0=>0|20=>20|72=>134|76=>138|70=>131|37=>132|75=>137|127=>238|164=>296|5=>5|80=>140|n=>n,fun|n=>n⟩
theorem Tryz.lays156:Go.Proofs.Lays.n156 Tryz.prog Tryz.lays156_ren:={
 mixed:=by kernel_rfl
 f156:=Tryz.func21.trans (congrArg some (by kernel_rfl))
 f165:=Tryz.func79.trans (congrArg some (by kernel_rfl))
 f166:=Tryz.func80.trans (congrArg some (by kernel_rfl))
 f169:=Tryz.func81.trans (congrArg some (by kernel_rfl))
 f240:=Tryz.func147.trans (congrArg some (by kernel_rfl))
 f241:=Tryz.func148.trans (congrArg some (by kernel_rfl))
 f276:=Tryz.func209.trans (congrArg some (by kernel_rfl))
 f277:=Tryz.func210.trans (congrArg some (by kernel_rfl))
 t0:=Tryz.underlying0
 a0:=Tryz.isAgg0
 z0:=Tryz.sizeOf0
 v0:=Tryz.zeroValue0
 t3:=Tryz.underlying3
 a3:=Tryz.isAgg3
 z3:=Tryz.sizeOf3
 v3:=Tryz.zeroValue3
 t4:=Tryz.underlying4
 a4:=Tryz.isAgg4
 z4:=Tryz.sizeOf4
 v4:=Tryz.zeroValue4
 t9:=Tryz.underlying9
 a9:=Tryz.isAgg9
 z9:=Tryz.sizeOf9
 v9:=Tryz.zeroValue9
 t20:=Tryz.underlying20
 a20:=Tryz.isAgg20
 z20:=Tryz.sizeOf20
 v20:=Tryz.zeroValue20
 t31:=Tryz.underlying22
 a31:=Tryz.isAgg22
 z31:=Tryz.sizeOf22
 v31:=Tryz.zeroValue22
 t37:=Tryz.underlying132
 a37:=Tryz.isAgg132
 z37:=Tryz.sizeOf132
 v37:=Tryz.zeroValue132
 t70:=Tryz.underlying131
 a70:=Tryz.isAgg131
 z70:=Tryz.sizeOf131
 v70:=Tryz.zeroValue131
 t72:=Tryz.underlying134
 a72:=Tryz.isAgg134
 z72:=Tryz.sizeOf134
 v72:=Tryz.zeroValue134
 t75:=Tryz.underlying137
 a75:=Tryz.isAgg137
 z75:=Tryz.sizeOf137
 v75:=Tryz.zeroValue137
 t76:=Tryz.underlying138
 a76:=Tryz.isAgg138
 z76:=Tryz.sizeOf138
 v76:=Tryz.zeroValue138
 t127:=Tryz.underlying238
 a127:=Tryz.isAgg238
 z127:=Tryz.sizeOf238
 v127:=Tryz.zeroValue238
 t164:=Tryz.underlying296
 a164:=Tryz.isAgg296
 z164:=Tryz.sizeOf296
 v164:=Tryz.zeroValue296 }
theorem Tryz.Builder_Extra_156:Builder.Extra Tryz.prog Tryz.lays156_ren:={
 sizeBuilder:=by kernel_rfl
 liesBuilder:=by kernel_rfl
 t5:=Tryz.underlying5
 a5:=Tryz.isAgg5
 z5:=Tryz.sizeOf5
 v5:=Tryz.zeroValue5
 infoByte:=by kernel_rfl
 cellsByte:=by kernel_rfl
 sizeByte:=by kernel_rfl
 neB5:=by decide }
open Go.RowKit in
theorem Tryz.strings_Join_none (a:Option Addr) (c:Nat) (sep:ByteArray) (w:World) :
 Calls Tryz.prog 21 #[.slice a 0 c,.string sep] w fun e w'=>e=.returned (.string ⟨#[]⟩)/\w'=w:=Any.strings_Join_none Tryz.lays156 Tryz.Builder_Extra_156 a c sep w
open Go.RowKit in
theorem Tryz.strings_Join (bk o c:Nat) (xs:List ByteArray) (sep:ByteArray) (w:World) (hcells:∀ (j:Nat) x,xs[j]?=some x->w.cell? ⟨bk,o+j,none⟩=some (.string x)) (hbk:bk<w.heap.size) (hN:xs.length<=140737488355328) (hcap:xs.length<=c) (hlen:(Lib.join (xs.map (·.data.toList)) sep.data.toList).length<=140737488355328) :
 Calls Tryz.prog 21 #[.slice (some ⟨bk,o,none⟩) xs.length c,.string sep] w fun e w'=>e=.returned (.string ⟨(Lib.join (xs.map (·.data.toList)) sep.data.toList).toArray⟩)/\Below w.heap.size w w':=Any.strings_Join Tryz.lays156 Tryz.Builder_Extra_156 bk o c xs sep w hcells hbk hN hcap hlen
end Go.Proofs
namespace Go.Q15
open Go Go.QAbs
set_option maxRecDepth 100000
open Go.Shelf in
def Zou:Ren:=⟨fun|41=>179|n=>n,fun|22=>185|23=>191|n=>n,fun n=>n⟩
theorem Zov:Go.Proofs.SlLaysE0.n41 Proofs.Tryz.prog Zou:={
 mixed:=by kernel_rfl
 f41 := ⟨"slices.Clone[[]quarto/api.Kid,quarto/api.Kid]", by decide, Proofs.Tryz.func179.trans (congrArg some (by kernel_rfl))⟩
 t4:=Proofs.Tryz.underlying4
 a4:=Proofs.Tryz.isAgg4
 z4:=Proofs.Tryz.sizeOf4
 v4:=Proofs.Tryz.zeroValue4
 t22:=Proofs.Tryz.underlying185
 a22:=Proofs.Tryz.isAgg185
 z22:=Proofs.Tryz.sizeOf185
 v22:=Proofs.Tryz.zeroValue185 }
theorem Zow:∃ i z,Proofs.Tryz.prog.info? 191=some i/\i.zero=some z/\i.size=4/\i.bytes=32/\z.cells.size=4:=⟨_,_,rfl,rfl,rfl,rfl,rfl⟩
theorem Zjv:ZQ9 Proofs.Tryz.prog Z6 (.base (ZJ5 4)):=by
 obtain ⟨i,z,h1,h2,h3,h4,h5⟩:=Zow
 refine ZnP (T:=191) (fun n c W=>Go.Proofs.AnyE.slices_Clone_nil Zov n c W) fun ad n c news W hl hn hc ho=>?_
 exact ZlR Zov i z 4 32 h1 h2 h3 h4 h5 (by decide) Proofs.Tryz.sizeOf191 ad n c news W hl (by unfold maxLen;omega) (by omega) hc ho
theorem ZgC:Proofs.Tryz.prog.follows .mixedOrders=true:=by kernel_rfl
theorem Zox:ZRA Proofs.Tryz.prog tl:=⟨⟨Proofs.Tryz.call179,Zjv⟩,⟨Proofs.Tryz.call21,ZqJ Proofs.Tryz.strings_Join_none Proofs.Tryz.strings_Join⟩,ZqT⟩
theorem Zrb:TabOk Proofs.Tryz.prog Tb:=ZVh Zox
def mkEd (q:Nat × Int × Int × Int × List UInt8):Ed:=⟨q.1,q.2.1,q.2.2.1,q.2.2.2.1,q.2.2.2.2⟩
end Go.Q15
namespace Go.Proofs
open Go.Shelf
open Go.RowKit in
def Tryz.lays219_ren:Go.Shelf.Ren:=⟨fun|219=>84|217=>151|225=>152|224=>153|267=>154|266=>211|314=>212|n=>n,fun|9=>9|3=>3|4=>4|5=>5|46=>234|146=>300|51=>299|n=>n,fun|1=>0|n=>n⟩
theorem Tryz.lays219:Go.Proofs.Lays.n219 Tryz.prog Tryz.lays219_ren:={
 mixed:=by kernel_rfl
 f217:=Tryz.func151.trans (congrArg some (by kernel_rfl))
 f219:=Tryz.func84.trans (congrArg some (by kernel_rfl))
 f224:=Tryz.func153.trans (congrArg some (by kernel_rfl))
 f225:=Tryz.func152.trans (congrArg some (by kernel_rfl))
 f266:=Tryz.func211.trans (congrArg some (by kernel_rfl))
 f267:=Tryz.func154.trans (congrArg some (by kernel_rfl))
 f314:=Tryz.func212.trans (congrArg some (by kernel_rfl))
 t3:=Tryz.underlying3
 a3:=Tryz.isAgg3
 z3:=Tryz.sizeOf3
 v3:=Tryz.zeroValue3
 t4:=Tryz.underlying4
 a4:=Tryz.isAgg4
 z4:=Tryz.sizeOf4
 v4:=Tryz.zeroValue4
 t5:=Tryz.underlying5
 a5:=Tryz.isAgg5
 z5:=Tryz.sizeOf5
 v5:=Tryz.zeroValue5
 t9:=Tryz.underlying9
 a9:=Tryz.isAgg9
 z9:=Tryz.sizeOf9
 v9:=Tryz.zeroValue9
 t46:=Tryz.underlying234
 a46:=Tryz.isAgg234
 z46:=Tryz.sizeOf234
 v46:=Tryz.zeroValue234
 t51:=Tryz.underlying299
 a51:=Tryz.isAgg299
 z51:=Tryz.sizeOf299
 v51:=Tryz.zeroValue299
 t146:=Tryz.underlying300
 a146:=Tryz.isAgg300
 z146:=Tryz.sizeOf300
 v146:=Tryz.zeroValue300
 g1:=by kernel_rfl }
open Go.RowKit Go.Lib in
open Go.RowKit Go.Lib in
theorem Tryz.stringslite_Index (s sub:ByteArray) (m:Int) (w:World) (hs:s.size<4294967281) (hm:w.cell? ⟨0,0,none⟩=some (.int .i64 m)) :
 Calls Tryz.prog 84 #[.string s,.string sub] w fun e w'=>e=.returned (.int .i64 (Lib.index s.data.toList sub.data.toList))/\w'=w:=Any.stringslite_Index Tryz.lays219 s sub m w hs hm
end Go.Proofs
namespace Go.Q15
open Go Go.QAbs
set_option maxRecDepth 100000
theorem Zoy:ZRA Proofs.Tryz.prog t1:=⟨⟨Proofs.Tryz.call85,ZkK ZgC Zrb Proofs.Tryz.func85 ZeY⟩,Zox⟩
theorem Zrc:TabOk Proofs.Tryz.prog T1:=ZVh Zoy
theorem ZsR:ZRA Proofs.Tryz.prog t3:=⟨⟨Proofs.Tryz.call89,ZkK ZgC Zrc Proofs.Tryz.func89 Zav⟩,⟨Proofs.Tryz.call27,ZkK ZgC Zrc Proofs.Tryz.func27 ZeK⟩,Zoy⟩
theorem max0 : Proofs.Tryz.prog.globalNamed "internal/bytealg.MaxLen" = some 0 := by kernel_rfl
theorem ZsS:ZRA Proofs.Tryz.prog tS:=⟨⟨Proofs.Tryz.call19,ZkK ZgC Zrb Proofs.Tryz.func19 ZVv⟩,⟨Proofs.Tryz.call84,ZoY max0 Proofs.Tryz.stringslite_Index⟩,ZsR⟩
theorem TS_ok:TabOk Proofs.Tryz.prog TS:=ZVh ZsS
set_option maxHeartbeats 4000000
theorem XM:∀ (v w:List Nat) (x:Nat),x∈v.foldl Q7 w↔x∈w\/x∈v
 | [],w,x=>by simp
 | a::v,w,x=>by
  rw [List.foldl_cons,XM v (Q7 w a) x,ZdW,List.mem_cons]
  constructor
  ·rintro ((h|h)|h)<;>simp [h]
  ·rintro (h|h|h)<;>simp [h]
theorem ZJu:∀ (v w:List Nat),(∀ x∈v,x∈w)->v.foldl Q7 w=w
 | [],w,_=>rfl
 | a::v,w,h=>by
  rw [List.foldl_cons,show Q7 w a=w by unfold Q7;rw [if_pos (h a (by simp))]]
  exact ZJu v w (fun x hx=>h x (by simp [hx]))
theorem ZRY (p:Nat->Bool):∀ (v w:List Nat),(v.filter p).foldl Q7 (w.filter p)=(v.foldl Q7 w).filter p
 | [],w=>rfl
 | a::v,w=>by
  rw [List.foldl_cons,<- ZRY p v (Q7 w a)]
  have e:(Q7 w a).filter p=if p a=true then Q7 (w.filter p) a else w.filter p:=by
   unfold Q7
   by_cases q:a∈w
   ·rw [if_pos q]
    split
    ·rename_i hp;rw [if_pos (List.mem_filter.2 ⟨q,hp⟩)]
    ·rfl
   ·rw [if_neg q,List.filter_append]
    split
    ·rename_i hp
     rw [if_neg (fun h=>q (List.mem_filter.1 h).1)]
     simp [List.filter_cons,hp]
    ·rename_i hp
     simp [List.filter_cons,hp]
  rw [e,List.filter_cons]
  split
  ·rw [List.foldl_cons]
  ·rfl
theorem ZN7 (p:Nat->Bool) (v:List Nat):QE (v.filter p)=(QE v).filter p:=ZRY p v []
theorem ZU3 {N:ZO} (hN:GoodN N):∀ (n h:Nat) (x:Nd),lk N h=some x->x.h=n->∀ o∈Qg N n h,∃ y,lk N o=some y/\y.h<=n/\∀ z∈Qg N y.h o,z∈Qg N n h:=by
 intro n
 induction n with
 | zero =>
  intro h x hx hh o ho;rw [Qg,List.mem_singleton] at ho;subst ho
  exact ⟨x,hx,by omega,fun z hz=>by rw [hh] at hz;exact hz⟩
 | succ n ih =>
  intro h x hx hh o ho;have hg:=(hN h x hx).2;rw [Qg,QY hx,List.mem_cons] at ho
  rcases ho with rfl|ho
  ·exact ⟨x,hx,by omega,fun z hz=>by rw [hh] at hz;exact hz⟩
  ·obtain ⟨k,hk,ho⟩:=List.mem_flatMap.1 ho
   obtain ⟨_,y,y1,y2,_⟩:=hg k hk
   obtain ⟨w,w1,w2,w3⟩:=ih k.at_ y y1 (by omega) o ho
   refine ⟨w,w1,by omega,fun z hz=>?_⟩
   rw [Qg,QY hx,List.mem_cons];exact .inr (List.mem_flatMap.2 ⟨k,hk,w3 z hz⟩)
def ClN (N:ZO) (n:Nat) (s:List Nat):Prop:=∀ o∈s,∀ y,lk N o=some y->y.h<=n->∀ z∈Qg N y.h o,z∈s
theorem Zkt {N:ZO} (hN:GoodN N):∀ (n h:Nat) (x:Nd) (s:List Nat),lk N h=some x->x.h=n->ClN N n s->bel N n h s=(Qg N n h).foldl Q7 s/\ClN N n (bel N n h s):=by
 intro n
 induction n with
 | zero =>
  intro h x s hx hh hs
  have e:bel N 0 h s=(Qg N 0 h).foldl Q7 s:=by rw [bel,Qg];rfl
  refine ⟨e,?_⟩;rw [e];intro o ho y hy hy0 z hz;rw [XM] at ho ⊢
  rcases ho with ho|ho
  ·exact .inl (hs o ho y hy hy0 z hz)
  ·obtain ⟨w,w1,w2,w3⟩:=ZU3 hN 0 h x hx hh o ho
   rw [hy] at w1;obtain rfl:=Option.some.inj w1;exact .inr (w3 z hz)
 | succ n ih =>
  intro h x s hx hh hs;have hg:=(hN h x hx).2;rw [bel]
  by_cases hm:h∈s
  ·rw [if_pos hm]
   refine ⟨(ZJu _ _ (fun z hz=>hs h hm x hx (by omega) z (by rw [hh];exact hz))).symm,hs⟩
  ·rw [if_neg hm]
   have key:∀ (ks:List Kid) (s:List Nat),(∀ k∈ks,k∈x.ks)->ClN N n s->ks.foldl (fun s k=>bel N n k.at_ s) s=(ks.flatMap fun k=>Qg N n k.at_).foldl Q7 s/\ClN N n (ks.foldl (fun s k=>bel N n k.at_ s) s):=by
    intro ks
    induction ks with
    | nil=>intro s _ hc;exact ⟨rfl,hc⟩
    | cons k ks ihk =>
     intro s hk hc
     obtain ⟨_,y,y1,y2,_⟩:=hg k (hk k (by simp))
     obtain ⟨b1,b2⟩:=ih k.at_ y s y1 (by omega) hc
     rw [List.foldl_cons,List.flatMap_cons,List.foldl_append,<- b1]
     exact ihk _ (fun z hz=>hk z (by simp [hz])) b2
   have hc:ClN N n (s++[h]):=by
    intro o ho y hy hyn z hz
    rcases List.mem_append.1 ho with ho|ho
    ·exact List.mem_append.2 (.inl (hs o ho y hy (by omega) z hz))
    ·rw [List.mem_singleton] at ho
     subst ho;rw [hx] at hy;obtain rfl:=Option.some.inj hy;omega
   rw [QY hx]
   obtain ⟨k1,k2⟩:=key x.ks (s++[h]) (fun k hk=>hk) hc
   have e:x.ks.foldl (fun s k=>bel N n k.at_ s) (s++[h])=(Qg N (n+1) h).foldl Q7 s:=by
    rw [k1,Qg,QY hx,List.foldl_cons,show Q7 s h=s++[h] by unfold Q7;rw [if_neg hm]]
   refine ⟨e,?_⟩;rw [e];intro o ho y hy hyn z hz;rw [XM] at ho ⊢
   rcases ho with ho|ho
   ·exact .inl (hs o ho y hy hyn z hz)
   ·obtain ⟨w,w1,w2,w3⟩:=ZU3 hN (n+1) h x hx hh o ho
    rw [hy] at w1;obtain rfl:=Option.some.inj w1;exact .inr (w3 z hz)
theorem Zoz {N:ZO} (hN:GoodN N) {h:Nat} {x:Nd} (hx:lk N h=some x):bel N x.h h []=QE (Qg N x.h h) :=
 (Zkt hN x.h h x [] hx rfl (fun o ho=>by simp at ho)).1
theorem Zo0 {N:ZO} (hN:GoodN N) (l:List Nat) (hl:∀ h∈l,∃ x,lk N h=some x) (o:Nat):o∈ZJW N l↔∃ k∈l,o∈Qg N (ZAe N k).h k:=by
 have key:∀ (l:List Nat) (s:List Nat),(∀ h∈l,∃ x,lk N h=some x)->(∀ n,ClN N n s)->(∀ n,ClN N n (l.foldl (fun s h=>bel N (ZAe N h).h h s) s))/\∀ o,o∈l.foldl (fun s h=>bel N (ZAe N h).h h s) s↔o∈s\/∃ k∈l,o∈Qg N (ZAe N k).h k:=by
  intro l
  induction l with
  | nil=>intro s _ hc;exact ⟨hc,fun o=>by simp⟩
  | cons a l ih =>
   intro s hl hc
   obtain ⟨x,hx⟩:=hl a (by simp)
   rw [List.foldl_cons,QY hx];obtain ⟨b1,b2⟩:=Zkt hN x.h a x s hx rfl (hc _)
   have hc2:∀ n,ClN N n (bel N x.h a s):=by
    intro n o ho y hy hyn z hz;rw [b1,XM] at ho ⊢
    rcases ho with ho|ho
    ·exact .inl (hc n o ho y hy hyn z hz)
    ·obtain ⟨w,w1,w2,w3⟩:=ZU3 hN x.h a x hx rfl o ho
     rw [hy] at w1;obtain rfl:=Option.some.inj w1;exact .inr (w3 z hz)
   obtain ⟨i1,i2⟩:=ih _ (fun h hh=>hl h (by simp [hh])) hc2
   refine ⟨i1,fun o=>?_⟩
   rw [i2,b1,XM]
   constructor
   ·rintro ((h|h)|⟨k,hk,h⟩)
    ·exact .inl h
    ·exact .inr ⟨a,by simp,by rw [QY hx];exact h⟩
    ·exact .inr ⟨k,by simp [hk],h⟩
   ·rintro (h|⟨k,hk,h⟩)
    ·exact .inl (.inl h)
    ·rcases List.mem_cons.1 hk with rfl|hk
     ·rw [QY hx] at h;exact .inl (.inr h)
     ·exact .inr ⟨k,hk,h⟩
 have:=(key l [] hl (fun n o ho=>by simp at ho)).2 o
 unfold ZJW;rw [this];simp
namespace Tr
mutual
def und (N:ZO):Tr->List Nat
 | .mk o _ _ _ k=>if o=0 then undO N k else Qg N (ZAe N o).h o
def undO (N:ZO):Option (List Tr)->List Nat
 | none=>[]
 | some l=>undL N l
def undL (N:ZO):List Tr->List Nat
 | []=>[]
 | t::l=>t.und N++undL N l
end
theorem undO_getD (N:ZO) (k:Option (List Tr)):undO N k=undL N (k.getD []):=by cases k<;>rfl
end Tr
theorem ZsT {N:ZO} {t:Tr} (hv:Val N t):∀ (out:List Nat) (o:Nat),(∃ k∈t.kwT out,o∈Qg N (ZAe N k).h k)↔(∃ k∈out,o∈Qg N (ZAe N k).h k)\/o∈t.und N:=by
 induction hv with
 | @kept a h m k x h0 hx hok hh hm hk =>
  intro out o;rw [Tr.kwT,Tr.kwO_getD,hk,Tr.kwL,Tr.und,if_neg h0]
  by_cases q:a∈out
  ·rw [if_neg (fun w=>w.2 q)]
   constructor
   ·exact .inl
   ·rintro (h|h)
    ·exact h
    ·exact ⟨a,q,h⟩
  ·rw [if_pos ⟨h0,q⟩]
   constructor
   ·rintro ⟨k,hk,h⟩
    rcases List.mem_append.1 hk with hk|hk
    ·exact .inl ⟨k,hk,h⟩
    ·rw [List.mem_singleton] at hk;subst hk;exact .inr h
   ·rintro (⟨k,hk,h⟩|h)
    ·exact ⟨k,by simp [hk],h⟩
    ·exact ⟨a,by simp,h⟩
 | @leaf s k h1 h2 hk =>
  intro out o
  rw [Tr.kwT,Tr.kwO_getD,hk,Tr.kwL,Tr.und,if_pos rfl,Tr.undO_getD,hk,Tr.undL,if_neg (by simp)]
  simp
 | @inner h l hh h2 h4 hl hb hv ih =>
  intro out o
  rw [Tr.kwT,Tr.kwO,Tr.und,if_pos rfl,Tr.undO,if_neg (by simp)]
  have key:∀ (l:List Tr),(∀ t∈l,∀ (out:List Nat) (o:Nat),(∃ k∈t.kwT out,o∈Qg N (ZAe N k).h k)↔(∃ k∈out,o∈Qg N (ZAe N k).h k)\/o∈t.und N)->∀ (out:List Nat),(∃ k∈Tr.kwL l out,o∈Qg N (ZAe N k).h k)↔(∃ k∈out,o∈Qg N (ZAe N k).h k)\/o∈Tr.undL N l:=by
   intro l
   induction l with
   | nil=>intro _ out;rw [Tr.kwL,Tr.undL];simp
   | cons a l ihl =>
    intro hl out
    rw [Tr.kwL,Tr.undL,ihl (fun t ht=>hl t (by simp [ht])),hl a (by simp),List.mem_append,or_assoc]
  exact key l ih out
theorem ZrH {N:ZO} (hN:GoodN N) (hz:∀ o x,lk N o=some x->o≠0) {t:Tr} (hv:VE N t) (o:Nat):o∈ZJW N (t.kwT [])↔o∈t.und N:=by
 rw [Zo0 hN _ (fun h hh=>(Zoi hz hv h hh).2)]
 rcases hv with h|h
 ·obtain ⟨a,h',m,s,k⟩:=t
  obtain ⟨h1,h2,h3,h4,h5⟩:=h
  simp only [Tr.old,Tr.h,Tr.m,Tr.text,Tr.ks] at *
  subst h1
  rw [Tr.kwT,Tr.kwO_getD,h5,Tr.kwL,Tr.und,if_pos rfl,Tr.undO_getD,h5,Tr.undL,if_neg (by simp)]
  simp
 ·rw [ZsT h];simp
theorem ZiO {N:ZO} (hN:GoodN N) (hz:∀ o x,lk N o=some x->o≠0) {r:Ro} (hr:RtOk N r) {t:Tr} (hv:VE N t):ZDP N r t=QE ((Zu N r).filter fun o=>decide (o∉t.und N)):=by
 unfold ZDP Zu
 split
 ·rfl
 ·rename_i h0
  obtain ⟨x,x1,x2,x3,x4⟩:∃ x,lk N r.at_=some x/\NdOk x/\x.h=r.h/\x.mea=r.m:=by
   rcases hr with rfl|w
   ·exact absurd rfl h0
   ·exact w.2
  rw [ZN7,<- x3,Zoz hN x1]
  refine List.filter_congr fun o _=>?_
  rw [decide_eq_decide,ZrH hN hz hv]
end Go.Q15
namespace Go.Q15
open Go Go.QAbs
set_option maxRecDepth 100000
set_option maxHeartbeats 4000000
def InP (N:ZO) (P:Nat->Prop) (t:Tr):Prop:=∀ o∈t.und N,P o
def InL (N:ZO) (P:Nat->Prop) (l:List Tr):Prop:=∀ t∈l,InP N P t
theorem undL_mem {N:ZO} {o:Nat}:∀ {l:List Tr},o∈Tr.undL N l↔∃ t∈l,o∈t.und N
 | []=>by simp [Tr.undL]
 | t::l=>by rw [Tr.undL,List.mem_append,undL_mem (l:=l)];simp
section
variable {N:ZO} {P:Nat->Prop}
theorem Zdc {t:Tr} (h:IsEmpty t):t.und N=[]:=by
 obtain ⟨o,h',m,s,k⟩:=t;obtain ⟨h1,h2,h3,h4,h5⟩:=h
 simp only [Tr.old,Tr.h,Tr.m,Tr.text,Tr.ks] at *
 subst h1;rw [Tr.und,if_pos rfl,Tr.undO_getD,h5,Tr.undL]
theorem Zo1 {t:Tr} (h:IsEmpty t):InP N P t:=fun o ho=>by rw [Zdc h] at ho;simp at ho
theorem ZN8:InP N P .zero:=Zo1 zero_empty
theorem ZgD (s:List UInt8):InP N P (Jo s):=fun o ho=>by
 rw [Jo,Tr.und,if_pos rfl,Tr.undO] at ho;simp at ho
theorem ZER (hN:GoodN N) {t:Tr} (hv:Val N t) (hg:1<=t.h) (h:InP N P t):InL N P (Z0 N t):=by
 cases hv with
 | kept h0 hx hok hh hm hk =>
  rename_i o h' m k x
  intro u hu q hq;simp only [Z0,if_neg h0,hx] at hu;obtain ⟨kd,hkd,rfl⟩:=List.mem_map.1 hu;obtain ⟨k0,y,y1,y2,y3⟩:=(hN o x hx).2 kd hkd;rw [XU,Tr.und,if_neg k0,QY y1] at hq;refine h q ?_;rw [Tr.und,if_neg h0,QY hx,ZN2 hx hok rfl,List.mem_cons]
  exact .inr (List.mem_flatMap.2 ⟨kd,hkd,by rw [show x.h-1=y.h by omega];exact hq⟩)
 | leaf h1 h2 hk=>simp [Tr.h] at hg
 | inner hh h2 h4 hl hb hv =>
  rename_i h' l
  intro u hu q hq;refine h q ?_;rw [Tr.und,if_pos rfl,Tr.undO];exact undL_mem.2 ⟨u,hu,hq⟩
theorem ZFf {l:List Tr} (h:InL N P l):InP N P (grp l):=by
 match l,h with
 | [],_=>exact ZN8
 | [t],h=>exact h t (by simp)
 | t::u::r,h =>
  intro q hq
  rw [ZIm (by simp),Tr.und,if_pos rfl,Tr.undO] at hq
  obtain ⟨w,hw,hq⟩:=undL_mem.1 hq;exact h w hw q hq
theorem InL.app {l m:List Tr} (h:InL N P l) (g:InL N P m):InL N P (l++m):=fun t ht=>by
 rcases List.mem_append.1 ht with q|q
 ·exact h t q
 ·exact g t q
theorem InL.tk {l:List Tr} (h:InL N P l) (n:Nat):InL N P (l.take n):=fun t ht=>h t (List.mem_of_mem_take ht)
theorem InL.dr {l:List Tr} (h:InL N P l) (n:Nat):InL N P (l.drop n):=fun t ht=>h t (List.mem_of_mem_drop ht)
theorem Zku {l:List Tr} (h:InL N P l):InL N P (ZCv l):=by
 unfold ZCv
 split
 ·intro t ht;rw [List.mem_singleton] at ht;rw [ht];exact ZFf h
 ·intro t ht
  simp only [List.mem_cons,List.not_mem_nil,or_false] at ht
  rcases ht with rfl|rfl
  ·exact ZFf (h.tk _)
  ·exact ZFf (h.dr _)
theorem Zo2 {x y:Tr} (hx:InP N P x) (hy:InP N P y):InL N P [x,y]:=fun t ht=>by
 simp only [List.mem_cons,List.not_mem_nil,or_false] at ht
 rcases ht with rfl|rfl<;>assumption
theorem ZZx (hN:GoodN N):∀ n x y,Val N x->Val N y->n=x.h+y.h->InP N P x->InP N P y->InL N P (JX N n x y)
 | 0,x,y,hx,hy,hn,ix,iy=>by
  rw [JX];unfold ZDN
  split
  ·exact Zo2 ix iy
  ·intro t ht
   obtain ⟨s,_,rfl⟩:=List.mem_map.1 ht;exact ZgD s
 | n+1,x,y,hx,hy,hn,ix,iy=>by
  rw [JX]
  split
  ·have cx:=ZER hN hx (by omega) ix
   have cy:=ZER hN hy (by omega) iy
   split
   ·intro t ht;rw [List.mem_singleton] at ht;rw [ht];exact ZFf (cx.app cy)
   ·exact Zo2 ix iy
  ·split
   ·have cx:=ZER hN hx (by omega) ix
    obtain ⟨c1,c2,c3,c4⟩:=JA hN hx (by omega)
    have hum:(Z0 N x)[(Z0 N x).length-1]?.getD Tr.zero∈Z0 N x:=by rw [jE (by omega)];simp
    obtain ⟨u1,u2,u3⟩:=c1 _ hum
    exact Zku ((cx.tk _).app (ZZx hN n _ y u1 hy (by omega) (cx _ hum) iy))
   ·have cy:=ZER hN hy (by omega) iy
    obtain ⟨c1,c2,c3,c4⟩:=JA hN hy (by omega)
    have hum:(Z0 N y)[0]?.getD Tr.zero∈Z0 N y:=by rw [jE (by omega)];simp
    obtain ⟨u1,u2,u3⟩:=c1 _ hum
    exact Zku ((ZZx hN n x _ hx u1 (by omega) ix (cy _ hum)).app (cy.dr _))
theorem Zkv (hN:GoodN N) {x y:Tr} (hx:VE N x) (hy:VE N y) (ix:InP N P x) (iy:InP N P y):InP N P (Xo N x y):=by
 unfold Xo
 split
 ·exact iy
 ·rename_i h
  split
  ·exact ix
  ·rename_i h2
   exact ZFf (ZZx hN _ x y (hx.val h) (hy.val h2) rfl ix iy)
theorem Zo3 (hN:GoodN N):∀ n t a,VE N t->t.h=n->0<=a->a<=t.bytes->t.bytes<=65536->InP N P t->InP N P (J6 N n t a).1/\InP N P (J6 N n t a).2:=by
 intro n
 induction n with
 | zero =>
  intro t a ht hh h0 h1 hb it;rw [J6]
  split
  ·exact ⟨ZN8,it⟩
  ·split
   ·exact ⟨it,ZN8⟩
   ·exact ⟨ZgD _,ZgD _⟩
 | succ n ih =>
  intro t a ht hh h0 h1 hb it;rw [J6]
  split
  ·exact ⟨ZN8,it⟩
  ·split
   ·exact ⟨it,ZN8⟩
   ·rename_i q1 q2
    have vt:=ht.val (by omega)
    have h16:=vt.h16
    have ic:=ZER hN vt (by omega) it
    obtain ⟨c1,c2,c3,c4⟩:=JA hN vt (by omega)
    generalize Z0 N t=l at *
    obtain ⟨s1,s2,s3,s4⟩:=ZNm l a (by omega) (fun u hu=>by have:=(c1 u hu).1.pos.2;omega) h0 (by omega)
    generalize hk:(JC l a).1=k at *
    generalize hb2:(JC l a).2=b at *
    have hl:∀ u∈l,Val N u/\u.h=n/\Big u:=fun u hu=>⟨(c1 u hu).1,by have:=(c1 u hu).2.1;omega,(c1 u hu).2.2⟩
    split
    ·exact ⟨ZFf (ic.tk _),ZFf (ic.dr _)⟩
    ·obtain ⟨u,hu⟩:∃ u,l[k]?=some u:=⟨l[k],by simp [s1]⟩
     have hum:=jM hu;have hbu:=s4 u hu;have iu:=ic u hum;rw [hu];simp only [Option.getD_some];obtain ⟨u1,u2,u3⟩:=hl u hum
     have hub:u.bytes<=Tr.bytesL l:=by
      have hsum:Tr.bytesL l=Tr.bytesL (l.take k)+Tr.bytesL (l.drop k):=by rw [<- Tr.bytesL_append,List.take_append_drop]
      have hd:l.drop k=u::l.drop (k+1):=by
       obtain ⟨w1,w2⟩:=List.getElem?_eq_some_iff.1 hu;rw [List.drop_eq_getElem_cons w1,w2]
      rw [hd,Tr.bytesL] at hsum
      have n1:=Tr.bytesL_nonneg (l:=l.take k) (fun w hw=>(hl w (List.mem_of_mem_take hw)).1.pos.1.nonneg)
      have n2:=Tr.bytesL_nonneg (l:=l.drop (k+1)) (fun w hw=>(hl w (List.mem_of_mem_drop hw)).1.pos.1.nonneg)
      omega
     have hc:=ZB5 hN n u b (.inr u1) u2 s2 (by omega) (by omega)
     obtain ⟨i1,i2⟩:=ih u b (.inr u1) u2 s2 (by omega) (by omega) iu
     have g1:=(ZFX (l:=l.take k) (h:=n) (by rw [List.length_take];omega) (by omega) (fun w hw=>hl w (List.mem_of_mem_take hw))).1
     have g2:=(ZFX (l:=l.drop (k+1)) (h:=n) (by rw [List.length_drop];omega) (by omega) (fun w hw=>hl w (List.mem_of_mem_drop hw))).1
     exact ⟨Zkv hN g1 hc.l (ZFf (ic.tk _)) i1,Zkv hN hc.r g2 i2 (ZFf (ic.dr _))⟩
theorem Zkw (t:Tr):t.own.und N=t.und N:=by
 induction t using Tr.ind with
 | step o h m s k ih =>
  rw [Tr.own,Tr.und,Tr.und]
  split
  ·rw [Tr.undO_getD,Tr.undO_getD,Xq]
   generalize k.getD []=l at ih
   induction l with
   | nil=>rfl
   | cons a l ih2=>rw [jC,Tr.undL,Tr.undL,ih a (by simp),ih2 (fun t ht=>ih t (by simp [ht]))]
  ·rfl
end
theorem Zo4 {N:ZO} {r:Ro} (h:RtOk N r):(JE r).und N=Zu N r:=by
 unfold JE Zu
 split
 ·rfl
 ·rename_i h0
  obtain ⟨x,x1,x2,x3,x4⟩:∃ x,lk N r.at_=some x/\NdOk x/\x.h=r.h/\x.mea=r.m:=by
   rcases h with rfl|w
   ·exact absurd rfl h0
   ·exact w.2
  rw [Tr.keep,Tr.und,if_neg h0,QY x1,x3]
def WU (N:ZO) (t:Tr):Prop:=∀ r:AR,AROk r->GoodN r.nodes->Ext N r.nodes->t.cnt<=r.n->∀ o,o∈Qg (t.wr r).1.nodes t.h (t.wr r).2.1.at_↔o∈(t.wr r).2.2\/o∈t.und N
theorem ZsU {N:ZO} {t:Tr} (hv:Val N t) (hb:t.bytes<=65536) {r:AR} (ho:AROk r) (hg:GoodN r.nodes) (hE:Ext N r.nodes) (hc:t.cnt<=r.n) :
 WrB r t.cnt (t.wr r).1 (t.wr r).2.2/\∃ y,lk (t.wr r).1.nodes (t.wr r).2.1.at_=some y/\y.h=t.h:=by
 have hv2:=hv.ext hE
 obtain ⟨h1,h2⟩:=ZoH (XV [] [] [] r) ho hg (.inr hv2) hb (by rw [ZFd hv2];exact hc)
 rw [ZUz hv2,ZFd hv2] at *
 refine ⟨h1,?_⟩
 rcases h2 with ⟨he,_⟩|⟨_,h2⟩
 ·exact absurd he hv.not_empty
 ·obtain ⟨y,y1,y2,y3,y4⟩:=h2.live
  exact ⟨y,y1,y3⟩
structure WLs (N:ZO) (l:List Tr) (h:Nat) (r:AR):Prop where
 ok:AROk (Tr.wrL l r).1
 good:GoodN (Tr.wrL l r).1.nodes
 ext:Ext r.nodes (Tr.wrL l r).1.nodes
 n:(Tr.wrL l r).1.n+Tr.cntL l=r.n
 live:∀ k∈(Tr.wrL l r).2.1,∃ y,lk (Tr.wrL l r).1.nodes k.at_=some y/\y.h=h
 und:∀ o,(∃ k∈(Tr.wrL l r).2.1,o∈Qg (Tr.wrL l r).1.nodes h k.at_)↔o∈(Tr.wrL l r).2.2\/o∈Tr.undL N l
theorem ZrI {N:ZO} {h:Nat}:∀ (l:List Tr),(∀ u∈l,Val N u/\u.h=h/\u.bytes<=65536/\WU N u)->∀ r,AROk r->GoodN r.nodes->Ext N r.nodes->Tr.cntL l<=r.n->WLs N l h r:=by
 intro l
 induction l with
 | nil =>
  intro _ r ho hg hE hc
  exact ⟨ho,hg,.refl _,by simp [Tr.wrL,Tr.cntL],fun k hk=>by simp [Tr.wrL] at hk,fun o=>by simp [Tr.wrL,Tr.undL]⟩
 | cons t l ih =>
  intro hl r ho hg hE hc;rw [Tr.cntL] at hc
  obtain ⟨v1,v2,v3,v4⟩:=hl t (by simp)
  obtain ⟨b,y,y1,y2⟩:=ZsU v1 v3 ho hg hE (by omega)
  have hn:=b.n
  have w:=ih (fun u hu=>hl u (by simp [hu])) (t.wr r).1 b.ok b.good (hE.trans b.ext) (by omega)
  have hu:=v4 r ho hg hE (by omega)
  have hka:((t.wr r).2.1.kid).at_=(t.wr r).2.1.at_:=rfl
  have he:Qg (Tr.wrL l (t.wr r).1).1.nodes h (t.wr r).2.1.at_=Qg (t.wr r).1.nodes t.h (t.wr r).2.1.at_:=by
   rw [<- v2];exact ZN6 b.good w.ext t.h _ y y1 y2
  refine ⟨w.ok,w.good,b.ext.trans w.ext,?_,?_,?_⟩
  ·show (Tr.wrL l (t.wr r).1).1.n+_=_
   rw [Tr.cntL];have:=w.n;omega
  ·intro k hk
   rcases List.mem_cons.1 hk with rfl|q
   ·exact ⟨y,w.ext _ _ y1,by rw [y2,v2]⟩
   ·exact w.live k q
  ·intro o
   have hw:=w.und o;have ho2:=hu o
   show (∃ k∈(t.wr r).2.1.kid::(Tr.wrL l (t.wr r).1).2.1,o∈Qg (Tr.wrL l (t.wr r).1).1.nodes h k.at_)↔o∈(t.wr r).2.2++(Tr.wrL l (t.wr r).1).2.2\/_
   rw [Tr.undL,List.mem_append,List.mem_append]
   constructor
   ·rintro ⟨k,hk,q⟩
    rcases List.mem_cons.1 hk with rfl|hk
    ·rw [hka,he] at q
     rcases ho2.1 q with q|q
     ·exact .inl (.inl q)
     ·exact .inr (.inl q)
    ·rcases hw.1 ⟨k,hk,q⟩ with q|q
     ·exact .inl (.inr q)
     ·exact .inr (.inr q)
   ·rintro ((q|q)|(q|q))
    ·exact ⟨_,List.mem_cons_self ..,by rw [hka,he];exact ho2.2 (.inl q)⟩
    ·obtain ⟨k,hk,q⟩:=hw.2 (.inl q);exact ⟨k,List.mem_cons_of_mem _ hk,q⟩
    ·exact ⟨_,List.mem_cons_self ..,by rw [hka,he];exact ho2.2 (.inr q)⟩
    ·obtain ⟨k,hk,q⟩:=hw.2 (.inr q);exact ⟨k,List.mem_cons_of_mem _ hk,q⟩
theorem ZsV {N:ZO} (hN:GoodN N) {t:Tr} (hv:Val N t):t.bytes<=65536->WU N t:=by
 induction hv with
 | @kept o h m k x h0 hx hok hh hm hk =>
  intro _ r ho hg hE hc q
  have e:(Tr.mk o h m [] k).wr r=(r,⟨o,h,m⟩,[]):=by rw [Tr.wr,if_pos h0]
  rw [e]
  show q∈Qg r.nodes h o↔_
  rw [ZN6 hN hE h o x hx hh,Tr.und,if_neg h0,QY hx,hh]
  simp
 | @leaf s k h1 h2 hk =>
  intro _ r ho hg hE hc q
  have e:(Tr.mk 0 0 .zero s k).wr r=(r.add ⟨0,s,none⟩,⟨r.next,0,JY s⟩,[r.next]):=by rw [Tr.wr];simp
  rw [e]
  show q∈Qg (r.add _).nodes 0 r.next↔_
  rw [Qg,Tr.und,if_pos rfl,Tr.undO_getD,hk,Tr.undL]
  simp
 | @inner h l hh h2 h4 hl hb hv ih =>
  intro hb2 r ho hg hE hc q
  have eb:(Tr.mk 0 (h+1) .zero [] (some l)).bytes=Tr.bytesL l:=by rw [Tr.bytes,Tr.bytesO];simp [Mea.zero]
  have hbs:∀ u∈l,u.bytes<=65536:=fun u hu=>by
   obtain ⟨i,hi,rfl⟩:=List.getElem_of_mem hu
   have h3:Tr.bytesL l=Tr.bytesL (l.take i)+(l[i].bytes+Tr.bytesL (l.drop (i+1))):=by
    conv=>lhs;rw [<- List.take_append_drop (i+1) l,Zc (jE hi),Tr.bytesL_append,Tr.bytesL_append]
    simp [Tr.bytesL];omega
   have n1:=Tr.bytesL_nonneg (l:=l.take i) (fun t ht=>by have:=(hv t (List.mem_of_mem_take ht)).pos.2;omega)
   have n2:=Tr.bytesL_nonneg (l:=l.drop (i+1)) (fun t ht=>by have:=(hv t (List.mem_of_mem_drop ht)).pos.2;omega)
   omega
  have ec:(Tr.mk 0 (h+1) .zero [] (some l)).cnt=Tr.cntL l+1:=by rw [Tr.cnt,Tr.cntO];simp;omega
  rw [ec] at hc
  have w:=ZrI (N:=N) (h:=h) l (fun u hu=>⟨hv u hu,hl u hu,hbs u hu,ih u hu (hbs u hu)⟩) r ho hg hE (by omega)
  have e:(Tr.mk 0 (h+1) .zero [] (some l)).wr r=((Tr.wrL l r).1.add ⟨h+1,[],some (Tr.wrL l r).2.1⟩,⟨(Tr.wrL l r).1.next,h+1,QJ ((Tr.wrL l r).2.1.map Kid.m)⟩,(Tr.wrL l r).2.2++[(Tr.wrL l r).1.next]):=by
   rw [Tr.wr];simp [Tr.wrO]
  rw [e];have hwn:=w.n;have hwg:=w.good;have hwl:=w.live;have hwo:=w.ok;have hwu:=w.und q
  show q∈Qg ((Tr.wrL l r).1.add _).nodes (h+1) (Tr.wrL l r).1.next↔q∈(Tr.wrL l r).2.2++[(Tr.wrL l r).1.next]\/_
  generalize (Tr.wrL l r).2.1=ks at *
  generalize (Tr.wrL l r).2.2=hs at *
  generalize (Tr.wrL l r).1=r1 at *
  have hn:0<r1.n:=by omega
  have hlk:lk (r1.add ⟨h+1,[],some ks⟩).nodes r1.next=some (⟨h+1,[],some ks⟩:Nd).copy:=by rw [ZFa hwo hn,if_pos rfl]
  have hkc:(⟨h+1,[],some ks⟩:Nd).copy.ks=ks:=rfl;rw [Qg,QY hlk,hkc,Tr.und,if_pos rfl,Tr.undO,List.mem_cons,List.mem_append,List.mem_singleton,List.mem_flatMap]
  have hp:∀ k∈ks,Qg (r1.add ⟨h+1,[],some ks⟩).nodes h k.at_=Qg r1.nodes h k.at_:=fun k hk=>by
   obtain ⟨y,y1,y2⟩:=hwl k hk;exact ZN6 hwg (ZUx hwo hn _) h k.at_ y y1 y2
  constructor
  ·rintro (z|⟨k,hk,z⟩)
   ·exact .inl (.inr z)
   ·rw [hp k hk] at z
    rcases hwu.1 ⟨k,hk,z⟩ with z|z
    ·exact .inl (.inl z)
    ·exact .inr z
  ·rintro ((z|z)|z)
   ·obtain ⟨k,hk,z⟩:=hwu.2 (.inl z);exact .inr ⟨k,hk,by rw [hp k hk];exact z⟩
   ·exact .inl z
   ·obtain ⟨k,hk,z⟩:=hwu.2 (.inr z);exact .inr ⟨k,hk,by rw [hp k hk];exact z⟩
theorem ZrJ {r:AR} (ho:AROk r) (hg:GoodN r.nodes) {t:Tr} (hv:VE r.nodes t) (hb:t.bytes<=65536) (hn:nw t<=r.n) (o:Nat) :
 o∈Zu (wrV t r).1.nodes (wrV t r).2.1↔o∈(wrV t r).2.2\/o∈t.und r.nodes:=by
 rcases hv with hv|hv
 ·rw [ZQs hv,Zdc hv]
  simp [Zu,Ro.zero]
 ·obtain ⟨h1,h2⟩:=ZoH (XV [] [] [] r) ho hg (.inr hv) hb hn
  rw [ZFd hv] at hn;have hu:=ZsV hg hv hb r ho hg (.refl _) hn o
  rcases h2 with ⟨he,_⟩|⟨_,h2⟩
  ·exact absurd he hv.not_empty
  ·obtain ⟨y,y1,y2,y3,y4⟩:=h2.live
   have h0:=(h1.ok.hnd y1).2
   rw [ZUz hv] at *
   unfold Zu;rw [if_neg h0,h2.rh];exact hu
set_option maxHeartbeats 16000000
theorem ZU4 {N:ZO} (hN:GoodN N) {st:St} {lv ix:Nat} (hr:Rd st lv ix N) {t:Tr} (ht:VE N t) (a:Int) (h0:0<=a) (h1:a<=t.bytes) (hb:t.bytes<=65536) :
 S Tb ZAY [.ptr lv ix 0 0 0,t.av,.int .i64 a] st=some (.tup [(J6 N t.h t a).1.own.av,(J6 N t.h t a).2.own.av,.int .i64 0],st):=by
 refine QI rfl (fun A hA=>?_)
 have hrp:=fun L=>hr.push hA (ro:=false) (L:=L)
 have hC:=fun L=>ZNo (hrp L) ht hb
 have hB:=fun st=>ZAp t ht.pos.1 (by omega) st
 have hK:=fun L=>Znx hN t.h (hrp L) ht rfl a h0 h1 hb
 have hok:=ZB5 hN t.h t a ht rfl h0 h1 hb
 have hO1:=fun st=>ZkX _ hok.l.pos.1 st
 have hO2:=fun st=>ZkX _ hok.r.pos.1 st
 generalize J6 N t.h t a=r at *
 obtain ⟨r1,r2⟩:=r
 simp only at *
 generalize r1.own=o1 at *
 generalize r2.own=o2 at *
 repeat' (first|refine ZE ?_|refine ZD ?_|refine ZG rfl ?_|refine QM rfl ?_|refine Zs rfl rfl rfl rfl ?_|refine Zy rfl rfl ?_|refine ZB rfl ?_|refine ZC ?_|(refine Zi rfl rfl (fun _=>?_) (fun _=>?_)<;>try (exfalso;omega))|(refine Qd rfl rfl (fun _=>?_) (fun _=>?_)<;>try (exfalso;omega))|(refine Zj rfl rfl (fun _=>?_) (fun _=>?_)<;>try (exfalso;omega))|refine ZH rfl ?_|refine Zh rfl rfl rfl ?_|refine ZS rfl rfl rfl (Zm _) ?_|refine Zw rfl rfl rfl (QN _ _ _) (Qo _ _) rfl ?_|refine Zt rfl (Z3 _) (QD _) ?_|refine ZA rfl rfl (by first|rfl|(simp only [lE,lN,lC,Za,ZV,ZW];first|done|rfl)) (hC _) ?_|refine ZA rfl rfl (by first|rfl|(simp only [lE,lN,lC,Za,ZV,ZW];first|done|rfl)) (hB _) ?_|refine ZA rfl rfl (by first|rfl|(simp only [lE,lN,lC,Za,ZV,ZW];first|done|rfl)) (hK _) ?_|refine YD rfl rfl (wk1 _) (hO1 _) ?_|refine ZA rfl rfl (by first|rfl|(simp only [lE,lN,lC,Za,ZV,ZW];first|done|rfl)) (hO2 _) ?_|refine ZI ?_|refine ZP ?_|refine ZJ ?_)
 all_goals try (exfalso;omega)
 exact ZDO hA (.inr rfl) rfl rfl rfl rfl rfl rfl
noncomputable def cpM (N:ZO) (ro:Ro) (a:Int):Tr:=(J6 N (JE ro).h (JE ro) a).2.own
noncomputable def cpV (N:ZO) (ro:Ro) (a n:Int):Tr:=(J6 N (cpM N ro a).h (cpM N ro a) n).1.own
theorem Zjw {N:ZO} (hN:GoodN N) {ro:Ro} {s:List UInt8} (h:Rt N ro s) (hs:s.length<=65536) {a:Nat} (ha:a<=s.length) :
 VE N (cpM N ro a)/\(cpM N ro a).bytes=((s.length-a:Nat):Int)/\(cpM N ro a).txt N=s.drop a/\∀ o∈(cpM N ro a).und N,o∈Zu N ro:=by
 obtain ⟨hk,htx⟩:=h.keep;have hb:=(h.b hN).1
 have c1:=ZB5 hN (JE ro).h (JE ro) (a:Int) hk rfl (by omega) (by omega) (by omega)
 have i1:=Zo3 (P:=fun o=>o∈Zu N ro) hN (JE ro).h (JE ro) (a:Int) hk rfl (by omega) (by omega) (by omega) (fun o ho=>by rw [Zo4 h.rt] at ho;exact ho)
 refine ⟨Zf8 c1.r,?_,?_,fun o ho=>?_⟩
 ·show (Tr.own _).bytes=_;rw [ZAg,c1.rb,hb];omega
 ·show (Tr.own _).txt N=_;rw [Zf7,c1.rt,htx,show ((a:Nat):Int).toNat=a by omega]
 ·unfold cpM at ho;rw [Zkw] at ho;exact i1.2 o ho
theorem ZgE {N:ZO} (hN:GoodN N) {ro:Ro} {s:List UInt8} (h:Rt N ro s) (hs:s.length<=65536) {a n:Nat} (ha:a+n<=s.length) :
 VE N (cpV N ro a n)/\(cpV N ro a n).bytes=n/\(cpV N ro a n).txt N=(s.drop a).take n/\∀ o∈(cpV N ro a n).und N,o∈Zu N ro:=by
 obtain ⟨m1,m2,m3,m4⟩:=Zjw hN h hs (a:=a) (by omega)
 have c2:=ZB5 hN (cpM N ro a).h (cpM N ro a) (n:Int) m1 rfl (by omega) (by omega) (by omega)
 have i2:=Zo3 (P:=fun o=>o∈Zu N ro) hN (cpM N ro a).h (cpM N ro a) (n:Int) m1 rfl (by omega) (by omega) (by omega) m4
 refine ⟨Zf8 c2.l,?_,?_,fun o ho=>?_⟩
 ·show (Tr.own _).bytes=_;rw [ZAg,c2.lb]
 ·show (Tr.own _).txt N=_;rw [Zf7,c2.lt,m3,show ((n:Nat):Int).toNat=n by omega]
 ·unfold cpV at ho;rw [Zkw] at ho;exact i2.1 o ho
section
variable {st:St} {la b:Nat} {r:AR} {ro:Ro} {s:List UInt8}
theorem ZiP (hA:Has st la b r) (ho:AROk r) (hg:GoodN r.nodes) (h:Rt r.nodes ro s) (hs:s.length<=65536) {a n:Nat} (h2:a+n<=s.length) (hn:r.n<nw (cpV r.nodes ro a n)) :
 S Tb Xy [.ptr la (b+5) 0 0 0,ro.av,.int .i64 a,.int .i64 n] st=some (.tup [chZ,.int .i64 6],st):=by
 refine QI rfl (fun A hA'=>?_)
 have hle:=hA.le
 have hRA:=fun L=>(hA.push hA' (ro:=false) (L:=L)).r.rd
 obtain ⟨hk,htx⟩:=h.keep;have hb:=(h.b hg).1
 obtain ⟨m1,m2,m3,m4⟩:=Zjw hg h hs (a:=a) (by omega)
 obtain ⟨v1,v2,v3,v4⟩:=ZgE hg h hs h2
 have hC:=fun L=>ZIy hg (hRA L) h (by omega) (a:=(a:Int)) (n:=(n:Int)) (by omega) (by omega) (by omega)
 have hKp:=fun L=>ZIw (hRA L) h.rt
 have hC1:=fun L=>ZU4 hg (hRA L) hk (a:Int) (by omega) (by omega) (by omega)
 have hC2:=fun L=>ZU4 hg (hRA L) m1 (n:Int) (by omega) (by omega) (by omega)
 have hDr:=fun L=>Zda hg ho.lv ho.nz (hRA L) h.rt v1 (by omega)
 have hWr:=fun L=>ZZk (hA.push hA' (ro:=false) (L:=L)) ho hg v1 (by omega) hn
 clear hn m3 m4 v3 v4 v1 v2 m1 m2 htx hb hk;unfold cpV at hDr hWr
 change ∀ L,S Tb ZAY _ ⟨A,false,L⟩=some (.tup [_,(cpM r.nodes ro a).av,_],⟨A,false,L⟩) at hC1
 generalize cpM r.nodes ro a=m at *
 generalize (J6 r.nodes m.h m n).1.own=t at *
 generalize (J6 r.nodes m.h m n).2.own=t' at *
 generalize (J6 r.nodes (JE ro).h (JE ro) a).1.own=l at *
 generalize JE ro=kt at *
 generalize ZDP r.nodes ro t=dd at *
 unfold chZ;obtain ⟨ra,rh,rm⟩:=ro
 unfold Ro.av at *
 repeat' (first|refine ZE ?_|refine ZD ?_|refine ZG rfl ?_|refine ZS rfl rfl rfl rfl ?_|refine Zy rfl rfl ?_|refine ZB rfl ?_|refine ZC ?_|(refine Zj rfl rfl (fun _=>?_) (fun _=>?_)<;>try (exfalso;omega))|refine ZU rfl ?_|refine ZH rfl ?_|refine Zq rfl rfl rfl ?_|refine Zh rfl rfl rfl ?_|refine Zw rfl rfl rfl rfl rfl rfl ?_|refine ZS rfl rfl rfl (Zm _) ?_|refine Zw rfl rfl rfl (QN _ _ _) (Qo _ _) rfl ?_|refine ZA rfl rfl (by first|rfl|(simp only [lE,lN,lC,Za,ZV,ZW];first|done|rfl)) (hC _) ?_|refine ZA rfl rfl (by first|rfl|(simp only [lE,lN,lC,Za,ZV,ZW];first|done|rfl)) (hKp _) ?_|refine ZA rfl rfl (by first|rfl|(simp only [lE,lN,lC,Za,ZV,ZW];first|done|rfl)) (hC1 _) ?_|refine ZA rfl rfl (by first|rfl|(simp only [lE,lN,lC,Za,ZV,ZW];first|done|rfl)) (hC2 _) ?_|refine ZA rfl rfl (by first|rfl|(simp only [lE,lN,lC,Za,ZV,ZW];first|done|rfl)) (hDr _) ?_|refine ZA rfl rfl (by first|rfl|(simp only [lE,lN,lC,Za,ZV,ZW];first|done|rfl)) (hWr _) ?_|refine ZI ?_|refine ZP ?_|refine ZJ ?_|refine ZZ ?_)
 all_goals try contradiction
 all_goals try (exfalso;omega)
 exact Zoo (w:=chZ) hA' (.inr rfl) rfl rfl rfl rfl rfl rfl
theorem ZiQ (hA:Has st la b r) (ho:AROk r) (hg:GoodN r.nodes) (h:Rt r.nodes ro s) (hs:s.length<=65536) {a n:Nat} (h2:a+n<=s.length) (hn:nw (cpV r.nodes ro a n)<=r.n) :
 S Tb Xy [.ptr la (b+5) 0 0 0,ro.av,.int .i64 a,.int .i64 n] st=some (.tup [Zjt (wrV (cpV r.nodes ro a n) r).2.1 (wrV (cpV r.nodes ro a n) r).2.2 (.lit ((ZDP r.nodes ro (cpV r.nodes ro a n)).map Z9)),.int .i64 0],Qk st la b (wrV (cpV r.nodes ro a n) r).1):=by
 refine ZBg rfl (fun A hA'=>?_)
 have hle:=hA.le
 have hRA:=fun L=>(hA.push hA' (ro:=false) (L:=L)).r.rd
 obtain ⟨hk,htx⟩:=h.keep;have hb:=(h.b hg).1
 obtain ⟨m1,m2,m3,m4⟩:=Zjw hg h hs (a:=a) (by omega)
 obtain ⟨v1,v2,v3,v4⟩:=ZgE hg h hs h2
 have hC:=fun L=>ZIy hg (hRA L) h (by omega) (a:=(a:Int)) (n:=(n:Int)) (by omega) (by omega) (by omega)
 have hKp:=fun L=>ZIw (hRA L) h.rt
 have hC1:=fun L=>ZU4 hg (hRA L) hk (a:Int) (by omega) (by omega) (by omega)
 have hC2:=fun L=>ZU4 hg (hRA L) m1 (n:Int) (by omega) (by omega) (by omega)
 have hDr:=fun L=>Zda hg ho.lv ho.nz (hRA L) h.rt v1 (by omega)
 have hWr:=fun L=>Zf4 (hA.push hA' (ro:=false) (L:=L)) ho hg v1 (by omega) hn
 simp only [ZEN hA' hle] at hWr
 have hAl:A.length=((Qk st la b (wrV (cpV r.nodes ro a n) r).1).ps).length:=by rw [hA'];simp [ZK9]
 generalize (wrV (cpV r.nodes ro a n) r).2.1=ro2 at *
 generalize (wrV (cpV r.nodes ro a n) r).2.2=fr at *
 generalize ZDP r.nodes ro (cpV r.nodes ro a n)=dd at *
 obtain ⟨A2,hA2⟩:∃ A2,A2=(Qk st la b (wrV (cpV r.nodes ro a n) r).1).ps:=⟨_,rfl⟩;rw [<- hA2] at hWr hAl
 generalize Qk st la b (wrV (cpV r.nodes ro a n) r).1=st2 at *
 clear hn m3 m4 v3 v4 v1 v2 m1 m2 htx hb hk;unfold cpV at hDr hWr
 change ∀ L,S Tb ZAY _ ⟨A,false,L⟩=some (.tup [_,(cpM r.nodes ro a).av,_],⟨A,false,L⟩) at hC1
 generalize cpM r.nodes ro a=m at *
 generalize (J6 r.nodes m.h m n).1.own=t at *
 generalize (J6 r.nodes m.h m n).2.own=t' at *
 generalize (J6 r.nodes (JE ro).h (JE ro) a).1.own=l at *
 generalize JE ro=kt at *
 obtain ⟨ra,rh,rm⟩:=ro;obtain ⟨x1,x2,x3⟩:=ro2
 unfold Ro.av at *
 repeat' (first|refine ZE ?_|refine ZD ?_|refine ZG rfl ?_|refine ZS rfl rfl rfl rfl ?_|refine Zy rfl rfl ?_|refine ZB rfl ?_|refine ZC ?_|(refine Zj rfl rfl (fun _=>?_) (fun _=>?_)<;>try (exfalso;omega))|refine ZH rfl ?_|refine Zq rfl rfl rfl ?_|refine Zh rfl rfl rfl ?_|refine Zw rfl rfl rfl rfl rfl rfl ?_|refine ZS rfl rfl rfl (Zm _) ?_|refine Zw rfl rfl rfl (QN _ _ _) (Qo _ _) rfl ?_|refine ZA rfl rfl (by first|rfl|(simp only [lE,lN,lC,Za,ZV,ZW];first|done|rfl)) (hC _) ?_|refine ZA rfl rfl (by first|rfl|(simp only [lE,lN,lC,Za,ZV,ZW];first|done|rfl)) (hKp _) ?_|refine ZA rfl rfl (by first|rfl|(simp only [lE,lN,lC,Za,ZV,ZW];first|done|rfl)) (hC1 _) ?_|refine ZA rfl rfl (by first|rfl|(simp only [lE,lN,lC,Za,ZV,ZW];first|done|rfl)) (hC2 _) ?_|refine ZA rfl rfl (by first|rfl|(simp only [lE,lN,lC,Za,ZV,ZW];first|done|rfl)) (hDr _) ?_|refine ZA rfl rfl (by first|rfl|(simp only [lE,lN,lC,Za,ZV,ZW];first|done|rfl)) (hWr _) ?_|refine ZI ?_)
 all_goals try contradiction
 all_goals try (exfalso;omega)
 rw [hAl]
 repeat' (first|refine ZG rfl ?_|refine ZB rfl ?_|refine ZC ?_|refine Zw rfl rfl rfl rfl rfl rfl ?_|refine ZP ?_|refine ZJ ?_)
 all_goals try contradiction
 exact Zoo (w:=Zjt ⟨x1,x2,x3⟩ fr (.lit (dd.map Z9))) hA2 (.inr rfl) rfl rfl rfl rfl rfl rfl
end
theorem Zo5 {st:St} {lv ix ver n:Nat} {l:List Nat} (hn:n=l.length) (hg:st.get lv ix=some (.arr 1 ver (l.map Z9))) (hb:l.length<1000000000) :
 S Tb Xd [.ref lv ix ver 0 n] st=some (.lit ((QE l).map Z9),st):=by
 subst hn
 refine QI rfl (fun A hA=>?_)
 have g0:=fun L=>ZX hA (ro:=false) (L:=L) hg
 have hwi:∀ L,wIs 1 ver (St.get ⟨A,false,L⟩ lv ix)=true:=fun L=>by rw [g0];simp [wIs]
 repeat' (first|refine ZE ?_|refine ZD ?_|refine ZG rfl ?_|refine ZB rfl ?_|refine ZC ?_|refine XP rfl ?_|refine ZL ?_)
 refine Zx (α:=Nat) (fun i=>[(0,.ref lv ix ver 0 l.length),(3,.ref A.length 0 (QE (l.take i)).length 0 (QE (l.take i)).length),(4,.int .i64 i)]) (fun i=>⟨A,false,[.arr 1 (QE (l.take i)).length ((QE (l.take i)).map Z9)]⟩) (fun i=>i<=l.length) (fun i=>l.length-i) 0 rfl rfl (by omega) ?_
 rintro i hi
 replace hi:i<=l.length:=hi;have hw:=(Xh (l.take i)).2.2;rw [List.length_take,Nat.min_eq_left hi] at hw
 rcases Nat.lt_or_ge i l.length with hlt|hge
 ·obtain ⟨x,hx⟩:∃ x,l[i]?=some x:=⟨l[i]'hlt,jE _⟩
  have q1:(l.map Z9)[0+((i:Nat):Int).toNat]?=some (AV.int .u64 x):=by
   rw [show 0+((i:Nat):Int).toNat=i by omega,jG,hx];rfl
  have hs:QE (l.take (i+1))=Q7 (QE (l.take i)) x:=by rw [Zc hx,ZZj]
  generalize QE (l.take i)=w at *
  have hH:=Zq3 (st:=⟨A,false,[.arr 1 w.length (w.map Z9)]⟩) (lv:=A.length) (ix:=0) (ver:=w.length) (l:=w) rfl (St.get_cur ..) (by omega) x
  have hl2:(w.map Z9).length+[AV.int .u64 (x:Int)].length<4294967296:=by simp;omega
  have hl3:w.length=(w.map Z9).length:=by simp
  by_cases hm:x∈w
  ·simp only [decide_eq_true hm] at hH
   repeat' (first|refine Xv rfl rfl (by omega) (hwi _) ?_|refine QA rfl (g0 _) q1 rfl ?_|refine ZE ?_|refine ZD ?_|refine ZG rfl ?_|refine ZB rfl ?_|refine ZC ?_|refine Qr rfl ?_|(refine Zi rfl rfl (fun _=>?_) (fun _=>?_)<;>try (exfalso;omega))|refine ZU rfl ?_|refine ZH rfl ?_|refine JO rfl rfl ?_|refine Zl rfl rfl (by omega) ?_|refine ZA rfl rfl rfl (hH) ?_|refine ZI ?_|refine ZL ?_|refine Z1 ?_|refine QB ?_)
   all_goals try (exfalso;omega)
   all_goals try contradiction
   refine ⟨i+1,⟨?_,?_⟩,by omega,by omega⟩
   ·rw [hs];unfold Q7;rw [if_pos hm];rfl
   ·rw [hs];unfold Q7;rw [if_pos hm]
  ·simp only [decide_eq_false hm] at hH
   repeat' (first|refine Xv rfl rfl (by omega) (hwi _) ?_|refine QA rfl (g0 _) q1 rfl ?_|refine ZAH rfl rfl rfl hl3 rfl rfl hl2 (by decide) ?_|refine ZE ?_|refine ZD ?_|refine ZG rfl ?_|refine ZB rfl ?_|refine ZC ?_|refine Qr rfl ?_|(refine Zi rfl rfl (fun _=>?_) (fun _=>?_)<;>try (exfalso;omega))|refine ZU rfl ?_|refine JO rfl rfl ?_|refine Zl rfl rfl (by omega) ?_|refine QZ rfl rfl rfl rfl ?_|refine ZA rfl rfl rfl (hH) ?_|refine ZI ?_|refine ZL ?_|refine Z1 ?_|refine QB ?_)
   all_goals try (exfalso;omega)
   all_goals try contradiction
   refine ⟨i+1,⟨?_,?_⟩,by omega,by omega⟩
   ·rw [hs];unfold Q7;rw [if_neg hm,lL];rfl
   ·rw [hs];unfold Q7;rw [if_neg hm,lL,List.map_append];rfl
 ·obtain rfl:i=l.length:=by omega
  rw [List.take_length]
  repeat' (first|refine ZE ?_|refine ZD ?_|refine ZG rfl ?_|refine ZB rfl ?_|refine ZC ?_|refine Qr rfl ?_|(refine Zi rfl rfl (fun _=>?_) (fun _=>?_)<;>try (exfalso;omega))|refine ZH rfl ?_|refine ZP ?_|refine Zv ?_|refine ZJ ?_|refine Zf ?_|refine Zd rfl ?_|refine Zo ?_)
  all_goals try (exfalso;omega)
  refine ZDA (es:=(QE l).map Z9) hA (.inr rfl) rfl rfl (by simp) (by intro v hv;obtain ⟨x,_,rfl⟩:=List.mem_map.1 hv;rfl) ?_
  rfl
theorem ZmE (l m:List Nat) (hb:l.length<1000000000) (hm:m.length<1000000000) (st:St) :
 S Tb Ye [.lit (l.map Z9),.lit (m.map Z9)] st=some (.lit ((QE (l.filter fun o=>decide (o∉m))).map Z9),st):=by
 refine QI rfl (fun A hA=>?_)
 have hHs:=fun o st=>ZU2 m (by omega) o st
 repeat' (first|refine ZE ?_|refine ZD ?_|refine ZG rfl ?_|refine ZB rfl ?_|refine ZC ?_|refine XP rfl ?_|refine ZL ?_)
 refine Zx (α:=Nat) (fun i=>[(0,.lit (l.map Z9)),(1,.lit (m.map Z9)),(5,.ref A.length 0 ((l.take i).filter fun o=>decide (o∉m)).length 0 ((l.take i).filter fun o=>decide (o∉m)).length),(6,.int .i64 i)]) (fun i=>⟨A,false,[.arr 1 ((l.take i).filter fun o=>decide (o∉m)).length (((l.take i).filter fun o=>decide (o∉m)).map Z9)]⟩) (fun i=>i<=l.length) (fun i=>l.length-i) 0 rfl rfl (by omega) ?_
 rintro i hi
 replace hi:i<=l.length:=hi
 have hw:=List.length_filter_le (fun o=>decide (o∉m)) (l.take i)
 rw [List.length_take,Nat.min_eq_left hi] at hw
 rcases Nat.lt_or_ge i l.length with hlt|hge
 ·obtain ⟨x,hx⟩:∃ x,l[i]?=some x:=⟨l[i]'hlt,jE _⟩
  have q:0<=((i:Nat):Int)/\l[((i:Nat):Int).toNat]?=some x:=⟨by omega,by rw [show ((i:Nat):Int).toNat=i by omega];exact hx⟩
  have hs:(l.take (i+1)).filter (fun o=>decide (o∉m))=(l.take i).filter (fun o=>decide (o∉m))++if x∈m then [] else [x]:=by
   rw [Zc hx,List.filter_append]
   congr 1
   by_cases q:x∈m
   ·simp [q]
   ·simp [q]
  have hH:=fun st=>hHs x st
  generalize (l.take i).filter (fun o=>decide (o∉m))=w at *
  have hl2:(w.map Z9).length+[AV.int .u64 (x:Int)].length<4294967296:=by simp;omega
  have hl3:w.length=(w.map Z9).length:=by simp
  by_cases hm:x∈m
  ·simp only [decide_eq_true hm] at hH
   rw [if_pos hm,lN] at hs
   repeat' (first|refine XL rfl ?_|refine Jl (f:=Z9) rfl rfl q (fun _=>rfl) ?_|refine ZE ?_|refine ZD ?_|refine ZG rfl ?_|refine ZB rfl ?_|refine ZC ?_|refine QQ rfl rfl ?_|(refine Zi rfl rfl (fun _=>?_) (fun _=>?_)<;>try (exfalso;omega))|refine ZU rfl ?_|refine ZH rfl ?_|refine JO rfl rfl ?_|refine Zl rfl rfl (by omega) ?_|refine ZA rfl rfl rfl (hH _) ?_|refine ZI ?_|refine ZL ?_|refine Z1 ?_|refine QB ?_)
   all_goals try (exfalso;omega)
   all_goals try contradiction
   exact ⟨i+1,⟨by rw [hs];rfl,by rw [hs]⟩,by omega,by omega⟩
  ·simp only [decide_eq_false hm] at hH
   rw [if_neg hm] at hs
   repeat' (first|refine XL rfl ?_|refine Jl (f:=Z9) rfl rfl q (fun _=>rfl) ?_|refine ZAH rfl rfl rfl hl3 rfl rfl hl2 (by decide) ?_|refine ZE ?_|refine ZD ?_|refine ZG rfl ?_|refine ZB rfl ?_|refine ZC ?_|refine QQ rfl rfl ?_|(refine Zi rfl rfl (fun _=>?_) (fun _=>?_)<;>try (exfalso;omega))|refine ZU rfl ?_|refine JO rfl rfl ?_|refine Zl rfl rfl (by omega) ?_|refine QZ rfl rfl rfl rfl ?_|refine ZA rfl rfl rfl (hH _) ?_|refine ZI ?_|refine ZL ?_|refine Z1 ?_|refine QB ?_)
   all_goals try (exfalso;omega)
   all_goals try contradiction
   refine ⟨i+1,⟨?_,?_⟩,by omega,by omega⟩
   ·rw [hs,lL];rfl
   ·rw [hs,lL,List.map_append];rfl
 ·obtain rfl:i=l.length:=by omega
  rw [List.take_length] at hw ⊢
  have hO:=Zo5 (st:=⟨A,false,[.arr 1 (l.filter fun o=>decide (o∉m)).length ((l.filter fun o=>decide (o∉m)).map Z9)]⟩) (lv:=A.length) (ix:=0) (ver:=(l.filter fun o=>decide (o∉m)).length) (l:=l.filter fun o=>decide (o∉m)) rfl (St.get_cur ..) (by omega)
  generalize l.filter (fun o=>decide (o∉m))=w at *
  repeat' (first|refine XL rfl ?_|refine ZE ?_|refine ZD ?_|refine ZG rfl ?_|refine ZB rfl ?_|refine ZC ?_|(refine Zi rfl rfl (fun _=>?_) (fun _=>?_)<;>try (exfalso;omega))|refine ZH rfl ?_|refine ZA rfl rfl rfl (hO) ?_|refine ZP ?_|refine Zv ?_|refine ZJ ?_|refine Zf ?_|refine Zd rfl ?_|refine Zo ?_)
  all_goals try (exfalso;omega)
  refine Ze hA (by first|exact .inl rfl|exact .inr rfl) rfl rfl rfl rfl ?_
  rfl
def ZJX (N:ZO) (rs:List Ro):List Nat:=rs.flatMap fun r=>QE (Zu N r)
inductive Adds:AR->List Nat->AR->Prop
 | nil (r:AR):Adds r [] r
 | cons {r r':AR} {hs:List Nat} (x:Nd) (h:Adds (r.add x) hs r'):Adds r (r.next::hs) r'
theorem Adds.app {r r1 r2:AR} {hs gs:List Nat} (h:Adds r hs r1) (g:Adds r1 gs r2):Adds r (hs++gs) r2:=by
 induction h with
 | nil=>exact g
 | cons x h ih=>exact .cons x (ih g)
mutual
theorem Zkx:∀ (t:Tr) (r:AR),Adds r (t.wr r).2.2 (t.wr r).1
 | .mk o h m s k,r=>by
  rw [Tr.wr]
  split
  ·exact .nil r
  ·split
   ·exact .cons _ (.nil _)
   ·exact (Zo6 k r).app (.cons _ (.nil _))
theorem Zo6:∀ (k:Option (List Tr)) (r:AR),Adds r (Tr.wrO k r).2.2 (Tr.wrO k r).1
 | none,r=>by rw [Tr.wrO];exact .nil r
 | some l,r=>by rw [Tr.wrO];exact ZiR l r
theorem ZiR:∀ (l:List Tr) (r:AR),Adds r (Tr.wrL l r).2.2 (Tr.wrL l r).1
 | [],r=>by rw [Tr.wrL];exact .nil r
 | t::l,r=>by rw [Tr.wrL];exact (Zkx t r).app (ZiR l _)
end
theorem Zo7 (t:Tr) (r:AR):Adds r (wrV t r).2.2 (wrV t r).1:=by
 unfold wrV
 split
 ·exact .nil r
 ·exact Zkx t r
end Go.Q15
namespace Go.Q15
open Go Go.QAbs
set_option maxRecDepth 100000
set_option maxHeartbeats 16000000
def hOf (r:AR) (s:Nat):Nat:=((r.gens[s]?).getD 0).toNat*65536+s
def ZIZ (r:AR):List Nat:=(ZIU r.states 1).map (hOf r)
theorem Zjx {l:List Int} {z:Int} {s:Nat} (h:s∈ZIU l z):s<l.length/\l[s]?=some z:=by
 unfold ZIU Ym at h;rw [List.mem_filter,List.mem_range] at h
 exact ⟨h.1,by simpa using h.2⟩
theorem ZmF {r r':AR} {hs:List Nat} (h:Adds r hs r'):AROk r->hs.length<=r.n->∀ o∈hs,r.states[o % 65536]?=some 0:=by
 induction h with
 | nil=>intro _ _ o ho;simp at ho
 | @cons r r' hs x h ih =>
  intro ho hl o hm;rw [List.length_cons] at hl
  have hn:0<r.n:=by omega
  obtain ⟨t1,t2,t3,t4,t5,t6⟩:=ho.top hn
  rcases List.mem_cons.1 hm with rfl|hm
  ·have e1:r.next % 65536=r.slot:=by unfold AR.next;have:=ho.n16;omega
   rw [e1];exact t3
  ·have hi:=ih (ho.add hn x) (by show hs.length<=r.n-1;omega) o hm
   replace hi:(r.states.set r.slot 1)[o % 65536]?=some 0:=hi
   by_cases q:r.slot=o % 65536
   ·rw [<- q,List.getElem?_set_self t2] at hi;simp at hi
   ·rwa [jS q] at hi
theorem ZrK {r:AR} (ho:AROk r) {o:Nat} (h:r.states[o % 65536]?=some 0):o∉ZIZ r:=by
 intro hm;unfold ZIZ at hm;obtain ⟨s,hs,e⟩:=List.mem_map.1 hm;obtain ⟨m1,m2⟩:=Zjx hs;have h16:=ho.n16
 have:o % 65536=s:=by rw [<- e];unfold hOf;omega
 rw [this,m2] at h
 simp at h
theorem ZgF {r:AR} (ho:AROk r):(ZIZ r).length<=16384:=by
 have:=ZRU r.states 1 r.states.length
 have:=ho.n16
 unfold ZIZ ZIU;rw [List.length_map];omega
theorem ZmG {N:ZO} (hN:GoodN N) {x:Ro} (hx:RtOk N x):∀ o∈Zu N x,∃ y,lk N o=some y:=by
 intro o ho;unfold Zu at ho
 split at ho
 ·simp at ho
 ·rename_i h0
  obtain ⟨y,x1,x2,x3,x4⟩:∃ y,lk N x.at_=some y/\NdOk y/\y.h=x.h/\y.mea=x.m:=by
   rcases hx with rfl|w
   ·exact absurd rfl h0
   ·exact w.2
  obtain ⟨w,w1,_⟩:=ZU3 hN x.h x.at_ y x1 x3 o ho;exact ⟨w,w1⟩
theorem onceV_mem {v:List Nat} {x:Nat}:x∈QE v↔x∈v:=(Xh v).2.1 x
theorem Zo8 {N:ZO} {rs:List Ro} {o:Nat}:o∈ZJX N rs↔∃ x∈rs,o∈Zu N x:=by
 unfold ZJX;rw [List.mem_flatMap]
 constructor
 ·rintro ⟨x,hx,h⟩;exact ⟨x,hx,onceV_mem.1 h⟩
 ·rintro ⟨x,hx,h⟩;exact ⟨x,hx,onceV_mem.2 h⟩
theorem Zo9 {N:ZO} (hN:GoodN N):∀ l:List Ro,(∀ r∈l,RtOk N r)->(ZJX N l).length<=100000000*l.length:=by
 intro l
 induction l with
 | nil=>intro _;simp [ZJX]
 | cons a l ih =>
  intro h
  have h1:=ZCx hN (h a (by simp))
  have h2:=(Xh (Zu N a)).2.2
  have h3:=ih (fun r hr=>h r (by simp [hr]))
  unfold ZJX at h3 ⊢;rw [List.flatMap_cons,lL,List.length_cons];omega
structure ShOk (N:ZO) (rs:List Ro) (ro:Ro) (fr dd lv:List Nat):Prop where
 rsk:∀ r∈rs,RtOk N r
 rok:RtOk N ro
 hd:dd=QE ((ZJX N rs).filter fun o=>decide (o∉QE (Zu N ro)))
 fn:fr.Nodup
 ln:fr.length<1000000000/\lv.length<1000000000/\(ZJX N rs).length<1000000000/\(QE (Zu N ro)).length<1000000000
 frk:∀ h∈fr,h∉lv/\h∈QE (Zu N ro)
 now:∀ h∈QE (Zu N ro),(h∈ZJX N rs↔h∉fr)/\h∉dd
theorem ZpA {r:AR} (ho:AROk r) (hg:GoodN r.nodes) {t:Tr} (hv:VE r.nodes t) (hb:t.bytes<=65536) (hn:nw t<=r.n) {rs:List Ro} (hl:rs.length<=3) (hrs:∀ x∈rs,RtOk r.nodes x) (hin:∀ o∈t.und r.nodes,∃ x∈rs,o∈Zu r.nodes x) :
 ShOk (wrV t r).1.nodes rs (wrV t r).2.1 (wrV t r).2.2 (Zkr r.nodes rs t) (ZIZ r):=by
 obtain ⟨w1,w2⟩:=ZZl (XV [] [] [] r) ho hg hv hb hn;have hu:=ZrJ ho hg hv hb hn
 have ha:=ZmF (Zo7 t r) ho (by rw [w1.len];exact hn)
 have hne:∀ x∈rs,Zu (wrV t r).1.nodes x=Zu r.nodes x:=fun x hx=>ZZw hg w1.ext (hrs x hx)
 have hnw:∀ x∈rs,∀ o∈Zu r.nodes x,o∉(wrV t r).2.2:=fun x hx o hm q=>by
  obtain ⟨y,hy⟩:=ZmG hg (hrs x hx) o hm
  have:=w1.new o q
  rw [hy] at this;simp at this
 have hro:=w2.rt
 have hwas:ZJX (wrV t r).1.nodes rs=ZJX r.nodes rs:=by
  unfold ZJX;rw [List.flatMap_def,List.flatMap_def]
  congr 1
  exact List.map_congr_left fun x hx=>by rw [hne x hx]
 have hdd:Zkr r.nodes rs t=QE ((ZJX (wrV t r).1.nodes rs).filter fun o=>decide (o∉QE (Zu (wrV t r).1.nodes (wrV t r).2.1))):=by
  rw [hwas]
  show QE (rs.flatMap fun x=>ZDP r.nodes x t)=_
  congr 1
  unfold ZJX
  have key:∀ l:List Ro,(∀ x∈l,x∈rs)->(l.flatMap fun x=>ZDP r.nodes x t)=(l.flatMap fun x=>QE (Zu r.nodes x)).filter fun o=>decide (o∉QE (Zu (wrV t r).1.nodes (wrV t r).2.1)):=by
   intro l
   induction l with
   | nil=>intro _;rfl
   | cons x l ih =>
    intro h
    rw [List.flatMap_cons,List.flatMap_cons,List.filter_append,ih (fun y hy=>h y (by simp [hy])),ZiO hg ho.nz (hrs x (h x (by simp))) hv,ZN7]
    congr 1
    refine List.filter_congr fun o hm=>?_
    rw [decide_eq_decide,onceV_mem,hu o]
    have:=hnw x (h x (by simp)) o (onceV_mem.1 hm)
    simp [this]
  exact key rs fun _ h=>h
 have hsl:=Zo9 w1.good rs (fun x hx=>(hrs x hx).ext w1.ext)
 have hnl:=ZCx w1.good hro;have hol:=(Xh (Zu (wrV t r).1.nodes (wrV t r).2.1)).2.2;have hhl:=ZgF ho;have hfl:=w1.len;have hrn:=ho.nn;have hr16:=ho.n16
 refine ⟨fun x hx=>(hrs x hx).ext w1.ext,hro,hdd,w1.nodup,⟨by omega,by omega,by omega,by omega⟩,fun h hh=>⟨ZrK ho (ha h hh),onceV_mem.2 ((hu h).2 (.inl hh))⟩,fun h hh=>?_⟩
 have hm:=(hu h).1 (onceV_mem.1 hh)
 have hw:h∈ZJX (wrV t r).1.nodes rs↔h∉(wrV t r).2.2:=by
  rw [hwas,Zo8]
  constructor
  ·rintro ⟨x,hx,q⟩;exact hnw x hx h q
  ·intro q
   rcases hm with z|z
   ·exact absurd z q
   ·exact hin h z
 refine ⟨hw,fun q=>?_⟩
 rw [hdd,onceV_mem,List.mem_filter] at q;simp only [decide_eq_true_eq] at q;exact q.2 hh
theorem ZpB (N:ZO) (n:Nat) (t:Tr):J6 N n t 0=(.zero,t):=by
 cases n<;>rw [J6,if_pos rfl]
theorem ZsW (N:ZO) (n:Nat) (t:Tr) {a:Int} (h0:a≠0) (h:a=t.bytes):J6 N n t a=(t,.zero):=by
 cases n<;>rw [J6,if_neg h0,if_pos h]
theorem ZsX {N:ZO} (hN:GoodN N) {ro:Ro} {s:List UInt8} (h:Rt N ro s) (r:AR):wrV (cpV N ro 0 s.length) r=(r,ro,[])/\nw (cpV N ro 0 s.length)=0:=by
 obtain ⟨hk,htx⟩:=h.keep;have hb:=(h.b hN).1;unfold cpV cpM;rw [ZpB]
 simp only
 by_cases h0:ro.at_=0
 ·have e : ro = .zero := by
   rcases h.rt with e|w
   ·exact e
   ·exact absurd h0 w.1
  subst e
  have hz:((s.length:Nat):Int)=0:=by rw [<- hb];rfl
  rw [hz,ZpB];exact ⟨rfl,rfl⟩
 ·have e:JE ro=.keep ro:=by unfold JE;rw [if_neg h0]
  rw [e] at hb hk ⊢
  have hpos:(Tr.keep ro).bytes≠0:=by
   rcases hk with w|w
   ·exact absurd w.old h0
   ·have:=w.pos;omega
  rw [ZsW N _ (Tr.keep ro).own (by omega) (by rw [ZAg];exact hb.symm)]
  simp only
  obtain ⟨k,e2,hk0⟩:∃ k,(Tr.keep ro).own.own=.mk ro.at_ ro.h ro.m [] k/\k.getD []=[]:=by
   rw [Tr.keep,Tr.own,Tr.own]
   exact ⟨_,rfl,by rw [Xq,Xq];rfl⟩
  rw [e2]
  constructor
  ·unfold wrV
   rw [if_neg (fun q=>h0 q.1),Tr.wr,if_pos h0]
  ·unfold nw
   rw [if_neg (fun q=>h0 q.1),Tr.cnt,Tr.cntO_getD,hk0,if_neg h0];rfl
theorem ZiS {r:AR} (ho:AROk r) (hg:GoodN r.nodes) {ro:Ro} (hro:RtOk r.nodes ro) {t:Tr} (hv:VE r.nodes t) (hb:t.bytes<=65536) (hn:nw t<=r.n) (hin:∀ o∈t.und r.nodes,o∈Zu r.nodes ro) :
 ZDP r.nodes ro t=QE ((QE (Zu r.nodes ro)).filter fun o=>decide (o∉QE (Zu (wrV t r).1.nodes (wrV t r).2.1)))
 /\ (∀ h∈QE (Zu (wrV t r).1.nodes (wrV t r).2.1),(h∈QE (Zu r.nodes ro)↔h∉(wrV t r).2.2))
 /\ (∀ h∈(wrV t r).2.2,h∈QE (Zu (wrV t r).1.nodes (wrV t r).2.1))
 /\ (wrV t r).2.2.length<1000000000/\(QE (Zu r.nodes ro)).length<1000000000/\(QE (Zu (wrV t r).1.nodes (wrV t r).2.1)).length<1000000000:=by
 have hS:=ZpA ho hg hv hb hn (rs:=[ro]) (by simp) (fun x hx=>by rw [List.mem_singleton] at hx;rw [hx];exact hro) (fun o h=>⟨ro,by simp,hin o h⟩)
 obtain ⟨w1,w2⟩:=ZZl (XV [] [] [] r) ho hg hv hb hn
 have hw:ZJX (wrV t r).1.nodes [ro]=QE (Zu r.nodes ro):=by
  unfold ZJX;rw [List.flatMap_cons,List.flatMap_nil,lN,ZZw hg w1.ext hro]
 have hd:Zkr r.nodes [ro] t=ZDP r.nodes ro t:=by
  unfold Zkr;rw [List.flatMap_cons,List.flatMap_nil,lN]
  show QE _=_
  refine ZiD ?_;rw [ZiO hg ho.nz hro hv];exact (Xh _).1
 have e:=hS.hd;rw [hd,hw] at e
 refine ⟨e,fun h hh=>?_,fun h hh=>(hS.frk h hh).2,hS.ln.1,by rw [<- hw];exact hS.ln.2.2.1,hS.ln.2.2.2⟩
 rw [<- hw];exact (hS.now h hh).1
theorem Zjy {n:Nat} {r:AR} {v w:Nat} {ros:List Ro} {ss:List (List UInt8)} {G0 G1:List Blk} (T:List Blk):ltL n r v ros G0 w ss G1++T=ltL n r v ros G0 w ss (G1++T):=by simp [ltL]
section
variable {A:List (Bool × List Blk)} {Z:List Blk} {j:Nat} {ro:Ro} {was now fr:List Nat} {d v11 v16 v17:AV} {k:List Fr} {Q:Jw}
theorem ZpC (hz:Z[j]?=some (.arr 7 0 [Zjt ro fr d])) (hx:∀ h∈now,(h∈was↔h∉fr)) (hl1:was.length<1000000000) (hl2:now.length<1000000000) (hl3:fr.length<1000000000)
 (hQ:∀ x y:AV,Rk (S TS) k Q .norm [(11,v11),(16,v16),(17,v17),(18,.lit (was.map Z9)),(20,.ptr A.length j 0 0 0),(24,.lit (now.map Z9)),(28,x),(152,y)] ⟨A,false,Z⟩) :
 Ru (S TS) p_quartolaw18_SliceCopies_28.loop (.blk 0::k) Q [(11,v11),(16,v16),(17,v17),(18,.lit (was.map Z9)),(20,.ptr A.length j 0 0 0),(24,.lit (now.map Z9)),(28,.int .i64 0)] ⟨A,false,Z⟩:=by
 refine Zx (α:=Nat) (fun i=>[(11,v11),(16,v16),(17,v17),(18,.lit (was.map Z9)),(20,.ptr A.length j 0 0 0),(24,.lit (now.map Z9)),(28,.int .i64 i)]) (fun _=>⟨A,false,Z⟩) (fun i=>i<=now.length) (fun i=>now.length-i) 0 rfl rfl (Nat.zero_le _) ?_
 intro i hi;replace hi:i<=now.length:=hi
 rcases Nat.lt_or_ge i now.length with hlt|hge
 ·obtain ⟨h,hh⟩:∃ x,now[i]?=some x:=⟨now[i]'hlt,jE _⟩
  have q:0<=((i:Nat):Int)/\now[((i:Nat):Int).toNat]?=some h:=⟨by omega,by rw [show ((i:Nat):Int).toNat=i by omega];exact hh⟩
  have hiff:=hx h (jM hh)
  have hH1:=fun st=>upS (ZU2 was (by omega) h st)
  have hH2:=fun st=>upS (ZU2 fr (by omega) h st)
  have hd1:∀ b:Bool,decide (h∈was)=b->decide (h∈fr)=!b:=by
   intro b hb
   by_cases w:h∈fr
   ·have:¬ h∈was:=fun z=>(hiff.1 z) w
    rw [decide_eq_false this] at hb;subst hb;rw [decide_eq_true w];rfl
   ·have:h∈was:=hiff.2 w
    rw [decide_eq_true this] at hb;subst hb;rw [decide_eq_false w];rfl
  obtain ⟨b,hb⟩:∃ b,decide (h∈was)=b:=⟨_,rfl⟩;simp only [hb] at hH1;simp only [hd1 b hb] at hH2
  have hq:eqV [] 6 (.bool b) (.bool !b)=some false:=by cases b<;>rfl
  unfold Zjt at hz
  repeat' (first|refine XL rfl ?_|refine Jl (f:=Z9) rfl rfl q (fun _=>rfl) ?_|refine YD rfl rfl rfl (hH1 _) ?_|refine ZS rfl hz rfl rfl ?_|refine JN rfl rfl hq rfl ?_|refine ZE ?_|refine ZD ?_|refine ZG rfl ?_|refine ZQ rfl rfl ?_|refine ZB rfl ?_|refine ZC ?_|refine QQ rfl rfl ?_|(refine Zi rfl rfl (fun _=>?_) (fun _=>?_)<;>try (exfalso;omega))|refine ZU rfl ?_|refine ZH rfl ?_|refine Zl rfl rfl (by omega) ?_|refine ZA rfl rfl rfl (hH2 _) ?_|refine ZI ?_|refine ZL ?_|refine Z1 ?_|refine QB ?_)
  all_goals try contradiction
  all_goals try (exfalso;omega)
  exact ⟨i+1,⟨rfl,rfl⟩,by omega,by omega⟩
 ·obtain rfl:i=now.length:=by omega
  have hq:=fun x y=>hQ x y
  repeat' (first|refine XL rfl ?_|exact hq _ _|refine ZE ?_|refine ZD ?_|refine ZG rfl ?_|refine ZB rfl ?_|refine ZC ?_|(refine Zi rfl rfl (fun _=>?_) (fun _=>?_)<;>try (exfalso;omega))|refine ZH rfl ?_|refine Zv ?_|refine Zf ?_|refine Zd rfl ?_|refine Zo ?_)
  all_goals try contradiction
  all_goals try (exfalso;omega)
theorem ZpD (hz:Z[j]?=some (.arr 7 0 [Zjt ro fr d])) (hx:∀ h∈fr,h∈now) (hl2:now.length<1000000000) (hl3:fr.length<1000000000)
 (hQ:∀ x y:AV,Rk (S TS) k Q .norm [(11,v11),(16,v16),(17,v17),(20,.ptr A.length j 0 0 0),(24,.lit (now.map Z9)),(29,x),(173,y)] ⟨A,false,Z⟩) :
 Ru (S TS) p_quartolaw18_SliceCopies_34.loop (.blk 2::k) Q [(11,v11),(16,v16),(17,v17),(20,.ptr A.length j 0 0 0),(24,.lit (now.map Z9)),(29,.int .i64 0)] ⟨A,false,Z⟩:=by
 refine Zx (α:=Nat) (fun i=>[(11,v11),(16,v16),(17,v17),(20,.ptr A.length j 0 0 0),(24,.lit (now.map Z9)),(29,.int .i64 i)]) (fun _=>⟨A,false,Z⟩) (fun i=>i<=fr.length) (fun i=>fr.length-i) 0 rfl rfl (Nat.zero_le _) ?_
 intro i hi;replace hi:i<=fr.length:=hi;unfold Zjt at hz
 rcases Nat.lt_or_ge i fr.length with hlt|hge
 ·obtain ⟨h,hh⟩:∃ x,fr[i]?=some x:=⟨fr[i]'hlt,jE _⟩
  have q:0<=((i:Nat):Int)/\fr[((i:Nat):Int).toNat]?=some h:=⟨by omega,by rw [show ((i:Nat):Int).toNat=i by omega];exact hh⟩
  have hH:=fun st=>upS (ZU2 now (by omega) h st)
  simp only [decide_eq_true (hx h (jM hh))] at hH
  repeat' (first|refine XL rfl ?_|refine Jl (f:=Z9) rfl rfl q (fun _=>rfl) ?_|refine ZS rfl hz rfl rfl ?_|refine ZE ?_|refine ZD ?_|refine ZG rfl ?_|refine ZQ rfl rfl ?_|refine ZB rfl ?_|refine ZC ?_|refine QQ rfl rfl ?_|(refine Zi rfl rfl (fun _=>?_) (fun _=>?_)<;>try (exfalso;omega))|refine ZU rfl ?_|refine ZH rfl ?_|refine JO rfl rfl ?_|refine Zl rfl rfl (by omega) ?_|refine ZA rfl rfl rfl (hH _) ?_|refine ZI ?_|refine ZL ?_|refine Z1 ?_|refine QB ?_)
  all_goals try contradiction
  all_goals try (exfalso;omega)
  exact ⟨i+1,⟨rfl,rfl⟩,by omega,by omega⟩
 ·obtain rfl:i=fr.length:=by omega
  have hq:=fun x y=>hQ x y
  repeat' (first|refine XL rfl ?_|exact hq _ _|refine ZS rfl hz rfl rfl ?_|refine ZE ?_|refine ZD ?_|refine ZG rfl ?_|refine ZQ rfl rfl ?_|refine ZB rfl ?_|refine ZC ?_|(refine Zi rfl rfl (fun _=>?_) (fun _=>?_)<;>try (exfalso;omega))|refine ZH rfl ?_|refine Zv ?_|refine Zf ?_|refine Zd rfl ?_|refine Zo ?_)
  all_goals try contradiction
  all_goals try (exfalso;omega)
end
set_option maxHeartbeats 64000000
theorem len0 {O:Orc} {k:List Fr} {Q:Jw} {e:Env} {st:St} {keep:List Nat} {is:List QAbs.PI} {d:Nat} {x:Opd} (hx:Zb e x=some (.lit [])) (h:Is O is keep k Q ((d,.int .i64 0)::e) st):Is O (⟨some d,none,false,.len 1 x⟩::is) keep k Q e st :=
 ZUr hx h
theorem Zsy (ro:Ro):eqV [(0,0),(1,0),(2,0),(3,0),(4,0)] 0 (.agg [.int .u64 ro.at_,.int .i64 ro.h,.int .i64 ro.m.b,.int .i64 ro.m.r,.int .i64 ro.m.l]) (.agg [.int .u64 ro.at_,.int .i64 ro.h,.int .i64 ro.m.b,.int .i64 ro.m.r,.int .i64 ro.m.l])=some true:=by
 simp [eqV,JZ,Zdh]
theorem Zcf (texts:List (List UInt8)) (ys:List Ed) (which at_ num:Int) (hb:texts.length<9223372036854775808) (hbs:∀ s∈texts,s.length<9223372036854775808) (hy:ys.length<9223372036854775808) (hys:∀ y∈ys,y.text.length<9223372036854775808) (st:St) :
 S TS Jy [.lit (texts.map .str),.lit (ys.map Ed.av),.int .i64 which,.int .i64 at_,.int .i64 num] st=some (.bool true,st):=by
 refine QI (T:=TS) rfl (fun A hA=>?_)
 have hBy:=fun st=>upS (Zop texts ys hb hbs hy hys st)
 have hWk:=fun st=>ZmC st
 by_cases hl:ZDQ texts ys
 ·simp only [decide_eq_true hl] at hBy
  repeat' (first|refine ZE ?_|refine ZD ?_|refine ZG rfl ?_|refine ZB rfl ?_|refine ZC ?_|refine ZU rfl ?_|refine ZA rfl rfl rfl (hBy _) ?_|refine ZA rfl rfl rfl (hWk _) ?_|refine ZP ?_|refine ZJ ?_|refine ZZ ?_)
  all_goals try contradiction
  all_goals refine Ze hA (by first|exact .inl rfl|exact .inr rfl) rfl rfl rfl rfl ?_
  all_goals rfl
 simp only [decide_eq_false hl] at hBy;obtain ⟨h9,h12,hy2⟩:=Zos hl;obtain ⟨v,st',hMk0,r,c,ros,ss,G0,G1,n,rfl,rfl,hI⟩:=ZsL texts ys h9 h12 hy2 A;have hMk:=upS hMk0;clear hMk0;have hn20:=hI.n20;have hrs:=hI.len;have hsl:=hI.rts.1
 rcases Nat.eq_zero_or_pos n with hn0|hpos
 ·subst hn0
  repeat' (first|refine ZE ?_|refine ZD ?_|refine ZG rfl ?_|refine Zy rfl rfl ?_|refine ZB rfl ?_|refine ZC ?_|refine Qr rfl ?_|(refine Zn rfl rfl (fun _=>?_) (fun _=>?_)<;>try (exfalso;omega))|refine ZU rfl ?_|refine ZH rfl ?_|refine JO rfl rfl ?_|refine ZA rfl rfl rfl (hBy _) ?_|refine ZA rfl rfl rfl (hWk _) ?_|refine ZA rfl rfl rfl (hMk) ?_|refine ZI ?_|refine ZP ?_|refine ZJ ?_|refine ZZ ?_)
  all_goals try contradiction
  all_goals try (exfalso;omega)
  all_goals refine Ze hA (by first|exact .inl rfl|exact .inr rfl) rfl rfl rfl rfl ?_
  all_goals rfl
 have hpb:=Qu (x:=which) (n:=(n:Int)-1) (by omega)
 have hPk:=fun st=>upS (Zju which ((n:Int)-1) (by omega) (by omega) st)
 generalize JK which ((n:Int)-1)=z at *
 obtain ⟨ro,hro⟩:∃ x,ros[z.toNat]?=some x:=⟨_,jE (by omega)⟩
 obtain ⟨s,hs⟩:∃ x,ss[z.toNat]?=some x:=⟨_,jE (by omega)⟩
 have hRt:=hI.rts.2 z.toNat ro s hro hs;have hsm:=hI.small s (jM hs);have hGd:=hI.good;have ho:=hI.ok
 have hpb2:=Qu (x:=at_) (n:=(s.length:Int)) (by omega)
 have hPk2:=fun st=>upS (Zju at_ (s.length:Int) (by omega) (by omega) st)
 generalize JK at_ (s.length:Int)=a at *
 obtain ⟨a,rfl⟩:∃ k:Nat,a=k:=⟨a.toNat,by omega⟩
 have hpb3:=Qu (x:=num) (n:=(s.length:Int)-(a:Int)) (by omega)
 have hPk3:=fun st=>upS (Zju num ((s.length:Int)-(a:Int)) (by omega) (by omega) st)
 generalize JK num ((s.length:Int)-(a:Int))=m at *
 obtain ⟨m,rfl⟩:∃ k:Nat,m=k:=⟨m.toNat,by omega⟩
 have ham:a+m<=s.length:=by omega
 have f6:(ltL A.length r n ros G0 c ss G1)[6]?=_:=ZsJ;have f7:(ltL A.length r n ros G0 c ss G1)[7+G0.length]?=_:=lt_7
 have g6:(ros.map Ro.av)[0+z.toNat]?=some ro.av:=by rw [Nat.zero_add,jG,hro];rfl
 have g7:(ss.map AV.str)[0+z.toNat]?=some (.str s):=by rw [Nat.zero_add,jG,hs];rfl
 have hz:=Zor (n:=A.length) (r:=r) (v:=n) (ros:=ros) (G0:=G0) (w:=c) (ss:=ss) (G1:=G1)
 have hne:¬ (A.length=A.length/\(ltL A.length r n ros G0 c ss G1).length=7+G0.length):=by rw [hz];omega
 have hHasT:∀ (r':AR) T,Has ⟨A,false,ltL A.length r' n ros G0 c ss G1++T⟩ A.length 0 r':=fun r' T=>by rw [Zjy];exact ZZr
 have hSetT:∀ (r' r'':AR) T,Qk ⟨A,false,ltL A.length r' n ros G0 c ss G1++T⟩ A.length 0 r''=⟨A,false,ltL A.length r'' n ros G0 c ss G1++T⟩:=fun r' r'' T=>by rw [Zjy,ZoZ,Zjy]
 obtain ⟨v1,v2,v3,v4⟩:=ZgE hGd hRt (by omega) ham
 have hNd:=ZrG (Zkn hGd (hHasT r [.arr 5 0 [ro.av]]).r.rd hRt.rt)
 rcases Nat.lt_or_ge r.n (nw (cpV r.nodes ro a m)) with hfull|hroom
 ·have hCp:=upS (ZiP (hHasT r [.arr 5 0 [ro.av]]) ho hGd hRt (by omega) ham hfull)
  generalize ltL A.length r n ros G0 c ss G1=X at *
  clear v1 v2 v3 v4 hfull
  generalize QE (Zu r.nodes ro)=was at *
  have hj:∀ c:Blk,(X++[c])[X.length]?=some c:=fun c=>by rw [List.getElem?_append_right (Nat.le_refl _),Nat.sub_self];rfl
  unfold chZ at hCp;unfold Ro.av at hCp hNd
  repeat' (first|refine ZIh rfl rfl (by omega) f6 ?_|refine ZS rfl f6 g6 (ZgA _) ?_|refine Zdb rfl rfl rfl (by omega) f7 ?_|refine ZZv rfl rfl f7 g7 rfl ?_|refine Zoq rfl rfl rfl hne rfl ?_|refine ZS rfl (hj _) rfl rfl ?_|refine ZE ?_|refine ZD ?_|refine ZG rfl ?_|refine Zy rfl rfl ?_|refine ZB rfl ?_|refine ZC ?_|refine Jj rfl ?_|refine Qr rfl ?_|(refine Zn rfl rfl (fun _=>?_) (fun _=>?_)<;>try (exfalso;omega))|refine ZU rfl ?_|refine ZH rfl ?_|refine JO rfl rfl ?_|refine Ja rfl rfl (by omega) ?_|refine Zt rfl rfl rfl ?_|refine JV rfl rfl rfl rfl rfl rfl ?_|refine ZA rfl rfl rfl (hBy _) ?_|refine ZA rfl rfl rfl (hWk _) ?_|refine ZA rfl rfl rfl (hMk) ?_|refine ZA rfl rfl rfl (hPk _) ?_|refine ZA rfl rfl rfl (hPk2 _) ?_|refine ZA rfl rfl rfl (hPk3 _) ?_|refine ZA rfl rfl rfl (hNd) ?_|refine ZA rfl rfl rfl (hCp) ?_|refine ZI ?_|refine ZP ?_|refine ZJ ?_|refine ZZ ?_)
  all_goals try contradiction
  all_goals try (exfalso;omega)
  all_goals refine Ze hA (by first|exact .inl rfl|exact .inr rfl) rfl rfl rfl rfl ?_
  all_goals rfl
 have hCp:=upS (ZiQ (hHasT r [.arr 5 0 [ro.av]]) ho hGd hRt (by omega) ham hroom)
 rw [hSetT] at hCp
 obtain ⟨w1,w2⟩:=ZZl (r:=r) (XV [] [] [] _) ho hGd v1 (by omega) hroom
 obtain ⟨d1,d2,d3,d4,d5,d6⟩:=ZiS ho hGd hRt.rt v1 (by omega) hroom v4
 rw [v3] at w2;have hRt1:=hRt.ext hGd w1.ext;have o1:=w1.ok;have g1:=w1.good;clear w1
 generalize (wrV (cpV r.nodes ro a m) r).1=r1 at *
 generalize (wrV (cpV r.nodes ro a m) r).2.1=ro2 at *
 generalize (wrV (cpV r.nodes ro a m) r).2.2=fr at *
 generalize ZDP r.nodes ro (cpV r.nodes ro a m)=dd at *
 clear v1 v2 v3 v4 hroom
 have hTx2:=fun T=>ZrG (ZiF g1 (hHasT r1 T).r.rd w2.rt (by rw [w2.leaves g1,List.length_take,List.length_drop];omega))
 rw [w2.leaves g1] at hTx2
 have hTx1:=fun T=>ZrG (ZiF g1 (hHasT r1 T).r.rd hRt1.rt (by rw [hRt1.leaves g1];omega))
 rw [hRt1.leaves g1] at hTx1
 have hNd2:=fun T=>ZrG (Zkn g1 (hHasT r1 T).r.rd w2.rt)
 obtain ⟨q1,q2⟩:=ZsX g1 hRt1 r1
 obtain ⟨u1,u2,u3,u4⟩:=ZgE g1 hRt1 (by omega) (a:=0) (n:=s.length) (by omega)
 have hCp2:=fun T=>upS (ZiQ (hHasT r1 T) o1 g1 hRt1 (by omega) (a:=0) (n:=s.length) (by omega) (by have:nw (cpV r1.nodes ro ((0:Nat):Int) s.length)=0:=q2;omega))
 obtain ⟨e1,e2,e3,e4,e5,e6⟩:=ZiS o1 g1 hRt1.rt u1 (by omega) (by have:nw (cpV r1.nodes ro ((0:Nat):Int) s.length)=0:=q2;omega) u4
 have q1':wrV (cpV r1.nodes ro ((0:Nat):Int) s.length) r1=(r1,ro,[]):=q1;simp only [q1'] at e1 e2 e3 e4 e5 e6
 have e7:ZDP r1.nodes ro (cpV r1.nodes ro ((0:Nat):Int) s.length)=[]:=by
  rw [e1]
  have:(QE (Zu r1.nodes ro)).filter (fun o=>decide (o∉QE (Zu r1.nodes ro)))=[]:=by
   rw [List.filter_eq_nil_iff];intro o hm;simp only [decide_eq_true_eq,Decidable.not_not];exact hm
  rw [this];rfl
 simp only [q1',e7,hSetT] at hCp2;clear e1 e2 e3 e4 e5 e6 e7 u1 u2 u3 u4 q1 q2 q1'
 have hWo:=fun st=>upS (ZmE (QE (Zu r.nodes ro)) (QE (Zu r1.nodes ro2)) d5 d6 st)
 have hon:QE ((QE (Zu r.nodes ro)).filter fun o=>decide (o∉QE (Zu r1.nodes ro2)))=dd:=d1.symm
 have hdl:dd.length<1000000000:=by
  rw [d1]
  have h1:=(Xh ((QE (Zu r.nodes ro)).filter fun o=>decide (o∉QE (Zu r1.nodes ro2)))).2.2
  have h2:=List.length_filter_le (fun o=>decide (o∉QE (Zu r1.nodes ro2))) (QE (Zu r.nodes ro))
  omega
 rw [hon] at hWo
 have hEH:=fun st=>upS (ZZu dd (by omega) st)
 have hq5:=Zsy ro
 have hsub:(s.drop a).take m=(s.drop ((a:Int)).toNat).take ((a:Int)+(m:Int)-(a:Int)).toNat:=by
  rw [show ((a:Nat):Int).toNat=a by omega,show ((a:Int)+(m:Int)-(a:Int)).toNat=m by omega]
 obtain ⟨sub,hse⟩:∃ x,(s.drop a).take m=x:=⟨_,rfl⟩;rw [hse] at hTx2 hsub;clear hon d1
 generalize ltL A.length r n ros G0 c ss G1=X at *
 generalize hX1:ltL A.length r1 n ros G0 c ss G1=X1 at *
 have hlX:X1.length=X.length:=by rw [hz,<- hX1,Zor]
 clear hX1
 generalize QE (Zu r.nodes ro)=was at *
 generalize QE (Zu r1.nodes ro2)=now at *
 have hj:∀ c:Blk,(X++[c])[X.length]?=some c:=fun c=>by rw [List.getElem?_append_right (Nat.le_refl _),Nat.sub_self];rfl
 have hj1:∀ (c:Blk) T,(X1++(c::T))[X.length]?=some c:=fun c T=>by rw [<- hlX,List.getElem?_append_right (Nat.le_refl _),Nat.sub_self];rfl
 have hj2:∀ (c d:Blk) T,(X1++(c::d::T))[X1.length+1]?=some d:=fun c d T=>by rw [List.getElem?_append_right (by omega),show X1.length+1-X1.length=1 by omega];rfl
 have has2:∀ a b:Blk,X1++[a,b]=X1++[a]++[b]:=fun a b=>by simp
 replace hTx1:=fun a b=>hTx1 [a,b]
 replace hTx2:=fun a b=>hTx2 [a,b]
 replace hNd2:=fun a b=>hNd2 [a,b]
 replace hCp2:=fun a b=>hCp2 [a,b]
 simp only [has2] at hTx1 hTx2 hNd2 hCp2;simp only [List.map_nil] at hCp2
 have hjE:∀ (L:List Blk) (c:Blk),(L++[c])[L.length]?=some c:=fun L c=>by rw [List.getElem?_append_right (Nat.le_refl _),Nat.sub_self];rfl
 have hjF2:∀ (c d:Blk),(X1++[c]++[d])[X.length]?=some c:=fun c d=>by rw [<- hlX,List.append_assoc,List.getElem?_append_right (Nat.le_refl _),Nat.sub_self];rfl
 have hjF3:∀ (c d e:Blk),(X1++[c]++[d]++[e])[X.length]?=some c:=fun c d e=>by rw [<- hlX,List.append_assoc,List.append_assoc,List.getElem?_append_right (Nat.le_refl _),Nat.sub_self];rfl
 have hjF:∀ (L:List Blk) (c d:Blk),(L++[c]++[d])[L.length]?=some c:=fun L c d=>by rw [List.append_assoc,List.getElem?_append_right (Nat.le_refl _),Nat.sub_self];rfl
 have chp:∀ a b c d e f g:AV,JG (.agg [a,b,c,d,e,f,g]) true 0 5=some (.agg [a,b,c,d,e]):=fun _ _ _ _ _ _ _=>rfl
 have hj3:∀ (c d e:Blk),(X1++[c,d,e])[X1.length+2]?=some e:=fun c d e=>by rw [List.getElem?_append_right (by omega),show X1.length+2-X1.length=2 by omega];rfl
 unfold Zjt at hCp hCp2;unfold Ro.av at hCp hCp2 hNd hNd2 hTx1 hTx2
 repeat' (first|refine ZpC (ro:=ro2) (fr:=fr) (d:=.lit (dd.map Z9)) (hjE _ _) d2 d5 d6 d4 (fun x y=>?_)|refine ZpD (ro:=ro2) (fr:=fr) (d:=.lit (dd.map Z9)) (hjE _ _) d3 d6 d4 (fun x y=>?_)|refine len0 rfl ?_|refine ZIh rfl rfl (by omega) f6 ?_|refine ZS rfl f6 g6 (ZgA _) ?_|refine Zdb rfl rfl rfl (by omega) f7 ?_|refine ZZv rfl rfl f7 g7 rfl ?_|refine Zoq rfl rfl rfl hne rfl ?_|refine ZS rfl (hj _) rfl rfl ?_|refine JN rfl rfl hq5 rfl ?_|refine ZS rfl (hjE _ _) rfl (chp _ _ _ _ _ _ _) ?_|refine ZS rfl (hjF2 _ _) rfl rfl ?_|refine ZS rfl (hjF3 _ _ _) rfl rfl ?_|refine ZiM rfl rfl rfl (by omega) hsub.symm ?_|refine YD rfl rfl rfl (hWo _) ?_|refine ZE ?_|refine ZD ?_|refine ZG rfl ?_|refine ZQ rfl rfl ?_|refine QM rfl ?_|refine Zs rfl rfl rfl rfl ?_|refine Zy rfl rfl ?_|refine ZB rfl ?_|refine ZC ?_|refine Jj rfl ?_|refine Qr rfl ?_|refine Qe rfl rfl rfl ?_|(refine Zn rfl rfl (fun _=>?_) (fun _=>?_)<;>try (exfalso;omega))|(refine Zj rfl rfl (fun _=>?_) (fun _=>?_)<;>try (exfalso;omega))|(refine ZkN rfl rfl (fun _=>?_) (fun _=>?_)<;>try contradiction)|refine ZH rfl ?_|refine JO rfl rfl ?_|refine Zl rfl rfl (by omega) ?_|refine Ja rfl rfl (by omega) ?_|refine Zt rfl rfl rfl ?_|refine JV rfl rfl rfl rfl rfl rfl ?_|refine ZA rfl rfl rfl (hBy _) ?_|refine ZA rfl rfl rfl (hWk _) ?_|refine ZA rfl rfl rfl (hMk) ?_|refine ZA rfl rfl rfl (hPk _) ?_|refine ZA rfl rfl rfl (hPk2 _) ?_|refine ZA rfl rfl rfl (hPk3 _) ?_|refine ZA rfl rfl rfl (hNd) ?_|refine ZA rfl rfl rfl (hCp) ?_|refine ZA rfl rfl rfl (hTx1 _ _) ?_|refine ZA rfl rfl rfl (hTx2 _ _) ?_|refine ZA rfl rfl rfl (hNd2 _ _) ?_|refine ZA rfl rfl rfl (hCp2 _ _) ?_|refine ZA rfl rfl rfl (hEH _) ?_|refine ZI ?_|refine ZP ?_|refine ZL ?_|refine ZJ ?_)
 all_goals try contradiction
 all_goals try (exfalso;omega)
 all_goals refine Ze hA (by first|exact .inl rfl|exact .inr rfl) rfl rfl rfl rfl ?_
 all_goals rfl
end Go.Q15
namespace Go.QAbs
open Go.ChangeShapes Go.WideShapes Go.RowKit Go.Deep
variable {P:Program}
end Go.QAbs
namespace Go.Q15
open Go Go.QAbs
set_option maxRecDepth 100000
theorem sliceCopies_run (ss:List (List UInt8)) (l:List (Nat × Int × Int × Int × List UInt8)) (which at_ num:Int) (h1:∀ s∈ss,s.length<=maxLen) (h2:ss.length<=maxLen) (h3:∀ s∈l,s.2.2.2.2.length<=maxLen) (h4:l.length<=maxLen) (_h5:(Lit.int .i64 which).wf=true) (_h6:(Lit.int .i64 at_).wf=true) (_h7:(Lit.int .i64 num).wf=true) :
 ∃ st',S TS Jy [.lit (ss.map .str),.lit (l.map fun q=>.agg [.int .u8 q.1,.int .i64 q.2.1,.int .i64 q.2.2.1,.int .i64 q.2.2.2.1,.str q.2.2.2.2]),.int .i64 which,.int .i64 at_,.int .i64 num] .empty=some (.bool true,st'):=by
 have hm:maxLen<9223372036854775808:=by decide +kernel
 have:=Zcf ss (l.map mkEd) which at_ num (by omega) (fun s hs=>by have:=h1 s hs;omega) (by rw [List.length_map];omega) (fun s hs=>by obtain ⟨q,hq,rfl⟩:=List.mem_map.1 hs;have:=h3 q hq;simp only [mkEd];omega) .empty
 rw [List.map_map] at this;exact ⟨_,this⟩
end Go.Q15
