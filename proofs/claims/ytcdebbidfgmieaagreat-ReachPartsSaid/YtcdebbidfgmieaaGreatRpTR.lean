/- A part of the proof: CUb, CUi, CUj, PEb, PEc, PEd, PEe, PEf, PEg, PEh, PEi, PEj, SM, SRa, RSd, RSe, PSk, RSf, RPg, RPh, RPi, RPj, RSg, RPk, RPl, RPm, RPn, FY, FYi, TZu. No condition. -/
import Derived.SliceStrings
import Derived.Deep.Slices
import Derived.Carry
import Derived.ChangeSlices
import Derived.Test.YtcdebbidfgmieaaGreatRpT9
set_option linter.unusedVariables false
set_option linter.unusedSimpArgs false
set_option maxHeartbeats 32000000
set_option maxRecDepth 100000
namespace Go.Q15
open Go Go.QAbs
variable {e:Env}{A:List (Bool × List Blk)}{k:List Fr}{ck l lm:List Nat}{i ix jx la lw n o ver w wer:Nat}{st:St}{Q:YD}
theorem Has.frmL{L L':List Blk}{b:Nat}{r:AR}(h:Has ⟨A,false,L⟩ A.length b r)(hg:∀i,b<=i->i<=b+5->L'[i]?=L[i]?):Has ⟨A,false,L'⟩ A.length b r:=by
 have e:∀i,b<=i->i<=b+5->St.get ⟨A,false,L'⟩ A.length i=St.get ⟨A,false,L⟩ A.length i:=fun i h1 h2=>by rw[St.get_cur,St.get_cur,hg i h1 h2]
 exact⟨by simp[St.wr],(e _ (by omega) (by omega)).trans h.h0,(e _ (by omega) (by omega)).trans h.h1,(e _ (by omega) (by omega)).trans h.h2,(e _ (by omega) (by omega)).trans h.h3,(e _ (by omega) (by omega)).trans h.h4,(e _ (by omega) (by omega)).trans h.h5⟩
theorem ZaY{ro:Bool}{L:List Blk}{b:Blk}(h:St.get ⟨A,ro,L⟩ A.length i=some b):i<L.length:=by
 rw[St.get_cur]at h;exact (List.getElem?_eq_some_iff.1 (ZBS h).1).1
theorem Has.app{L:List Blk}{b:Nat}{r:AR}(h:Has ⟨A,false,L⟩ A.length b r)(T:List Blk):Has ⟨A,false,L++T⟩ A.length b r :=
 h.frmL fun i h1 h2=>by
  have:=ZaY h.h5
  rw[jL (by omega)]
section
variable {O:Orc}{k:List Fr}{Q:YD}{e:Env}{A:List (Bool × List Blk)}{L:List Blk}{keep:List Nat}{is:List QAbs.PI}{d:Nat}
theorem ZaZ{a b c:Opd}{agg:Bool}{vb ib ob kx vc ic oc:Nat}{es:LV}{x v:AV}(ha:Ze e a=some (.ptr A.length ix ver i o))(hb:Ze e b=some (.ptr A.length jx vb ib ob))(hc:Ze e c=some (.ptr A.length kx vc ic oc))(hne:Nat.beq ix jx=false)(hne2:Nat.beq ix kx=false)
 (hg:L[ix]?=some (Blk.arr w ver es)) (hx:es[i]?=some x) (hv:JL x agg o n=some v) (h:Is O is keep k Q ((d,v)::e) ⟨A,false,L⟩):Is O (⟨some d,none,false,.w (.hide [b,c]) (.ld agg n a)⟩::is) keep k Q e ⟨A,false,L⟩:=by
 refine Zi3 ?_ h
 have hp:XR (Xk e [b,c]) A.length ix=false:=by
  have hxy:ix≠jx:=fun q=>by subst q;simp at hne
  have hxz:ix≠kx:=fun q=>by subst q;simp at hne2
  simp[XR,Xk,ZH hb,ZH hc,ZAy,hxy,hxz]
 have hgt:(St.hide (XR (Xk e [b,c])) ⟨A,false,L⟩).get A.length ix=some (Blk.arr w ver es):=by
  rw[ZAf,hp,St.get_cur,hg];rfl
 simp only[QC,PO.reads,if_true,evalPO,ZH ha,loadP,hgt,ZES,hx,hv,oS,Qd,QU]
end
theorem Zs6:((wrV (edV exUR.nodes exURo 9 0 [120,121,122]) exUR).2.1.at_,(wrV (edV exUR.nodes exURo 9 0 [120,121,122]) exUR).2.1.h,(wrV (edV exUR.nodes exURo 9 0 [120,121,122]) exUR).2.1.m.b)=(65540,1,20):=by
 unfold exUR;rw[ZCm];rfl
theorem Zqp:ZMS (fun n=>decide (2<=n)) (J1 (wrV (edV exUR.nodes exURo 9 0 [120,121,122]) exUR).1.nodes [exURo,(wrV (edV exUR.nodes exURo 9 0 [120,121,122]) exUR).2.1])=[65537]:=by
 unfold exUR;rw[ZCm];rfl
theorem Zoe(a:Nat)(h:a<18446744073709551616):Zcu [a]=[a]:=List.perm_singleton.1 (ZJ5 (by simpa using h))
theorem Zlq(A:List (Bool × List Blk)):∃(y:Ro) (B:Blk),y=(wrV (edV exUR.nodes exURo 9 0 [120,121,122]) exUR).2.1/\S Tb Yb [] ⟨A,false,[]⟩=some (.tup [.ptr A.length 7 0 0 0,exURo.av,y.av,.bool true],
 ⟨A,false,[.arr 5 0 [exURo.av],.arr 5 0 [y.av]]++(arB A.length 2 (wrV (edV exUR.nodes exURo 9 0 [120,121,122]) exUR).1++[.arr 5 0 [exURo.av],B])⟩):=by
 have hN:=ZkF 8 4 (by omega) (by omega) A [.arr 5 0 [Ro.zero.av],.arr 5 0 [Ro.zero.av]]
 have h1:=ZkW (ZBU A [.arr 5 0 [Ro.zero.av],.arr 5 0 [Ro.zero.av]] [] (Q7 8 4)) (ZaM 8 4 (by omega) (by omega)) ZOz exU (by decide) (by rw[ZoU];decide)
 rw[ZPA,ZoT]at h1;obtain⟨o1,o2,o3⟩:=exU_ok
 have hI:=fun T=>ZoV (ZBU A [.arr 5 0 [Ro.zero.av],.arr 5 0 [Ro.zero.av]] T exUR) o1 o2 exU_edOk Zkc
 simp only[ZPA]at hI;have hy:=Zs6;simp only[jP]at hy;obtain⟨y1,y2,y3⟩:=hy
 generalize ZBn exUR.nodes [exURo] (edV exUR.nodes exURo 9 0 [120,121,122])=dd at *
 generalize edV exUR.nodes exURo 9 0 [120,121,122]=t at *
 generalize (wrV t exUR).2.2=fr at *
 generalize (wrV t exUR).2.1=r2 at *
 generalize (wrV t exUR).1=R2 at *
 refine⟨r2,.arr 7 0 [ZCX r2 fr (slH dd)],rfl,?_⟩
 change S Tb ZCy [.ptr A.length 7 0 0 0,.str exU] ⟨A,false,_⟩=some (_,⟨A,false,[.arr 5 0 [Ro.zero.av],.arr 5 0 [Ro.zero.av]]++(arB A.length 2 exUR++[])⟩) at h1
 change ∀T,S Tb ZAA [.ptr A.length 7 0 0 0,exURo.av,.int .i64 9,.str [120,121,122]] ⟨A,false,[.arr 5 0 [Ro.zero.av],.arr 5 0 [Ro.zero.av]]++(arB A.length 2 exUR++T)⟩=some (_,⟨A,false,[.arr 5 0 [Ro.zero.av],.arr 5 0 [Ro.zero.av]]++(arB A.length 2 R2++T)⟩) at hI
 refine ZAQ Y ?_
 repeat'(first|refine ZE ?_|refine ZD ?_|refine ZF Y ?_|refine QB Y ?_|refine Zl Y Y Y Y ?_|refine Zr Y Y ?_|refine ZB Y ?_|refine ZC ?_|(refine cm0 Y Y Y ?_ ?_<;>intro _<;>try omega)|refine ZG Y ?_|refine JA Y Y Y Y ?_|refine Zn Y Y Y ?_|refine ZA Y Y Y (hN) ?_|refine ZI ?_)
 all_goals try first|contradiction|omega
 unfold exU at h1;refine ZA Y Y Y h1 ?_
 change Is _ _ _ _ _ _ ⟨A,false,[.arr 5 0 [Ro.zero.av],.arr 5 0 [Ro.zero.av],exUR.b0,exUR.b1,exUR.b2,exUR.b3 A.length 2,exUR.b4,exUR.b5 A.length 2]⟩
 change ∀T,S Tb ZAA [.ptr A.length 7 0 0 0,exURo.av,.int .i64 9,.str [120,121,122]] ⟨A,false,.arr 5 0 [Ro.zero.av]::.arr 5 0 [Ro.zero.av]::exUR.b0::exUR.b1::exUR.b2::exUR.b3 A.length 2::exUR.b4::exUR.b5 A.length 2::T⟩=some (.tup [ZCX r2 fr (slH dd),_],⟨A,false,.arr 5 0 [Ro.zero.av]::.arr 5 0 [Ro.zero.av]::R2.b0::R2.b1::R2.b2::R2.b3 A.length 2::R2.b4::R2.b5 A.length 2::T⟩) at hI
 show Is _ _ _ _ (fun x e s=>Qj _ _ (x,e,s)=some (_,⟨A,false,.arr 5 0 [exURo.av]::.arr 5 0 [r2.av]::R2.b0::R2.b1::R2.b2::R2.b3 A.length 2::R2.b4::R2.b5 A.length 2::[.arr 5 0 [exURo.av],.arr 7 0 [ZCX r2 fr (slH dd)]]⟩)) _ _
 generalize exUR.b0=b0 at *
 generalize exUR.b1=b1 at *
 generalize exUR.b2=b2 at *
 generalize exUR.b3 A.length 2=b3 at *
 generalize exUR.b4=b4 at *
 generalize exUR.b5 A.length 2=b5 at *
 generalize R2.b0=c0 at *
 generalize R2.b1=c1 at *
 generalize R2.b2=c2 at *
 generalize R2.b3 A.length 2=c3 at *
 generalize R2.b4=c4 at *
 generalize R2.b5 A.length 2=c5 at *
 obtain⟨x1,x2,x3⟩:=r2
 simp only at y1 y2 y3
 subst y1
 have hcs:slH dd=.nils\/slH dd=.lit (dd.map Z1):=by
  unfold slH
  split
  ·exact .inl Y
  ·exact .inr Y
 generalize slH dd=dv at *
 unfold ZCX Ro.av Ro.zero exURo at *
 rcases hcs with rfl|rfl
 ·repeat'(first|refine ZE5 Y Y Y Y Y Y ?_|refine ZaZ Y Y Y Y Y Y Y Y ?_|refine ZDY Y Y Y Y Y Y Y ?_|refine ZE ?_|refine ZD ?_|refine ZF Y ?_|refine ZU Y Y ?_|refine ZV Y Y Y Y ?_|refine QB Y ?_|refine Q6 Y Y ?_|refine Zl Y Y Y Y ?_|refine Zr Y Y ?_|refine ZB Y ?_|refine ZC ?_|(refine cm0 Y Y Y ?_ ?_<;>intro _<;>try omega)|refine Zn Y Y Y ?_|refine Zy Y Y Y Y Y Y ?_|refine ZA Y Y Y (hI _) ?_|refine ZP ?_|refine ZL ?_)
  all_goals first|exact absurd Y ‹_›|exact (Zmv (.inr Y) Y Y Y Y Y).trans Y
 ·repeat'(first|refine ZE5 Y Y Y Y Y Y ?_|refine ZaZ Y Y Y Y Y Y Y Y ?_|refine ZDY Y Y Y Y Y Y Y ?_|refine ZE ?_|refine ZD ?_|refine ZF Y ?_|refine ZU Y Y ?_|refine ZV Y Y Y Y ?_|refine QB Y ?_|refine Q6 Y Y ?_|refine Zl Y Y Y Y ?_|refine Zr Y Y ?_|refine ZB Y ?_|refine ZC ?_|(refine cm0 Y Y Y ?_ ?_<;>intro _<;>try omega)|refine Zn Y Y Y ?_|refine Zy Y Y Y Y Y Y ?_|refine ZA Y Y Y (hI _) ?_|refine ZP ?_|refine ZL ?_)
  all_goals first|exact absurd Y ‹_›|exact (Zmv (.inr Y) Y Y Y Y Y).trans Y
theorem Zdy(st:St):S TX Qa [] st=some (.bool true,st):=by
 refine QK (leX Qa (.pf JD) (leW Qa (.pf JD) (leV Qa (.pf JD) (le3 Qa (.pf JD) Y)))) (fun A hA=>?_)
 obtain⟨y,B,hy,hS⟩:=Zlq A;have hS:=Zr7 hS;obtain⟨o1,o2,o3⟩:=exU_ok;obtain⟨v1,v2,v3⟩:=exU_edOk.ok o2
 obtain⟨w1,w2⟩:=Zdr (r:=exUR) (ZBU [] [] [] _) o1 o2 v1 (by rw[v2];decide) Zkc
 have hx:=o3.rt.ext w1.ext;have hsel:=Zqp;rw[<- hy]at hsel w2
 have hSh:=fun T=>Zlo w1.good w1.ok.h64 w1.ok.lv (ZBU A [.arr 5 0 [exURo.av],.arr 5 0 [y.av]] T (wrV (edV exUR.nodes exURo 9 0 [120,121,122]) exUR).1).r.rd (rs:=[exURo,y]) (by simp;exact⟨hx,w2.rt⟩) (by simp)
 have hat:atL (wrV (edV exUR.nodes exURo 9 0 [120,121,122]) exUR).1.nodes 2 [exURo,y]=[65537]:=by
  unfold atL
  rw[hsel,Zoe _ (by decide)]
 rw[hat]at hSh;clear hy hsel v1 v2 v3 w1 w2 hx hat
 generalize (wrV (edV exUR.nodes exURo 9 0 [120,121,122]) exUR).1=R2 at *
 change ∀T,S TX JX [.ptr A.length 7 0 0 0,.lit [exURo.av,y.av]] ⟨A,false,.arr 5 0 [exURo.av]::.arr 5 0 [y.av]::R2.b0::R2.b1::R2.b2::R2.b3 A.length 2::R2.b4::R2.b5 A.length 2::T⟩=some (.tup [.lit [.int .u64 65537],.int .i64 0],⟨A,false,.arr 5 0 [exURo.av]::.arr 5 0 [y.av]::R2.b0::R2.b1::R2.b2::R2.b3 A.length 2::R2.b4::R2.b5 A.length 2::T⟩) at hSh
 change S TX Yb [] ⟨A,false,[]⟩=some (_,⟨A,false,.arr 5 0 [exURo.av]::.arr 5 0 [y.av]::R2.b0::R2.b1::R2.b2::R2.b3 A.length 2::R2.b4::R2.b5 A.length 2::[.arr 5 0 [exURo.av],B]⟩) at hS
 have hEH:=fun st=>Zr7 (ZaS [65537] (by decide) st)
 change ∀st,S TX JS [.lit [.int .u64 65537],.lit [.int .u64 65537]] st=_ at hEH
 generalize R2.b0=c0 at *
 generalize R2.b1=c1 at *
 generalize R2.b2=c2 at *
 generalize R2.b3 A.length 2=c3 at *
 generalize R2.b4=c4 at *
 generalize R2.b5 A.length 2=c5 at *
 unfold Ro.av exURo at *
 repeat'(first|refine ZE ?_|refine ZD ?_|refine ZF Y ?_|refine ZV Y Y Y Y ?_|refine QB Y ?_|refine Zl Y Y Y Y ?_|refine Zr Y Y ?_|refine ZB Y ?_|refine ZC ?_|(refine cm0 Y Y Y ?_ ?_<;>intro _<;>try omega)|refine ZG Y ?_|refine JW Y Y ?_|refine Zn Y Y Y ?_|refine Zy Y Y Y Y Y Y ?_|refine QX Y Y Y Y ?_|refine ZA Y Y Y (hS) ?_|refine ZA Y Y Y (hSh _) ?_|refine ZA Y Y Y (hEH _) ?_|refine ZI ?_|refine ZP ?_|refine ZL ?_)
 all_goals try contradiction
 all_goals refine Zf hA (by simp) Y Y Y Y ?_
 all_goals rfl
theorem Zdz(l m:List Nat):l.length=(l.filter fun o=>decide (o∈m)).length+(l.filter fun o=>decide (o∉m)).length:=by
 induction l with
 | nil=>rfl
 | cons a l ih =>
  rw[List.filter_cons,List.filter_cons,List.length_cons]
  by_cases h:a∈m
  ·rw[if_pos (decide_eq_true h),if_neg (by simp[h]),List.length_cons];omega
  ·rw[if_neg (by simp[h]),if_pos (decide_eq_true h),List.length_cons];omega
theorem ZSt:∀ {l m:List Nat},l.Perm m->l.Pairwise (fun a b=>a % 65536<b % 65536)->m.Pairwise (fun a b=>a % 65536<b % 65536)->l=m
 | [],m,h,_,_=>h.nil_eq
 | a::l,[],h,_,_=>by have:=h.length_eq;simp at this
 | a::l,b::m,h,h1,h2=>by
  rw[List.pairwise_cons]at h1 h2
  have e:a=b:=by
   rcases List.mem_cons.1 (h.mem_iff.1 List.mem_cons_self) with e|ha
   ·exact e
   ·rcases List.mem_cons.1 (h.mem_iff.2 List.mem_cons_self) with e|hb
    ·exact e.symm
    ·have:=h1.1 b hb
     have:=h2.1 a ha
     omega
  subst e;rw[ZSt (List.Perm.cons_inv h) h1.2 h2.2]
theorem ZK9{r:AR}(ho:AROk r){x:Nd}(hx:lk r.nodes o=some x):o∈Zs r:=by
 obtain⟨s,g,k1,k2,k3,k4⟩:=ho.key o x hx;unfold Zs;refine List.mem_map.2 ⟨s,?_,?_⟩
 ·unfold Js JV
  rw[List.mem_filter,List.mem_range]
  exact⟨k2,by simp[k3]⟩
 ·unfold hOf;rw[k4,k1];simp
theorem ZiB{r:AR}(ho:AROk r):(Zs r).Pairwise fun a b=>a % 65536<b % 65536:=by
 unfold Zs;rw[List.pairwise_map];have h16:=ho.n16
 have hp:(Js r.states 1).Pairwise fun a b=>a<b:=by
  unfold Js JV;exact (List.pairwise_lt_range).filter _
 refine hp.imp_of_mem fun {a b} ha hb h=>?_
 have h1:=(ZGa ha).1;have h2:=(ZGa hb).1;unfold hOf;omega
theorem ZgE{r:AR}(ho:AROk r):(Zs r).Nodup:=(ZiB ho).imp fun h e=>by subst e;omega
theorem Zkd{N:ZO}(hN:GoodN N)(h6:Zh6 N){rs:List Ro}(hrs:∀r∈rs,RtOk N r){n:Int}:o∈atL N n rs↔o∈(J1 N rs).map Prod.fst/\n<=Yn o (J1 N rs):=by
 unfold atL;rw[(ZJ5 (ZaU (N:=N) (ZJe hN h6 hrs))).mem_iff,Znx (ZJ8 N rs),decide_eq_true_eq]
theorem ZsN{N:ZO}(hN:GoodN N)(h6:Zh6 N){rs:List Ro}(hrs:∀r∈rs,RtOk N r){n:Int}:(atL N n rs).Nodup :=
 (ZJ5 (ZaU (N:=N) (ZJe hN h6 hrs))).nodup_iff.2 (ZaJ (ZJ8 N rs))
theorem cntR_key{N:ZO}{rs:List Ro}:o∈(J1 N rs).map Prod.fst↔∃r∈rs,o∈Ja (Qe N r):=by
 unfold J1
 rw[ZPG N o rs [] (by simp)];simp
theorem Zof{N:ZO}{rs:List Ro}:Yn o (J1 N rs)=((rs.filter fun r=>decide (o∈Ja (Qe N r))).length:Int):=by
 unfold J1;rw[ZPF];simp[Yn]
theorem Zog{N:ZO}(hN:GoodN N)(h6:Zh6 N){rs:List Ro}(hrs:∀r∈rs,RtOk N r):o∈atL N 1 rs↔∃r∈rs,o∈Ja (Qe N r):=by
 rw[Zkd hN h6 hrs,cntR_key,Zof]
 constructor
 ·exact fun h=>h.1
 ·rintro⟨r,hr,h⟩
  refine⟨⟨r,hr,h⟩,?_⟩
  have:=List.length_pos_of_mem (show r∈rs.filter fun r=>decide (o∈Ja (Qe N r)) from List.mem_filter.2 ⟨hr,decide_eq_true h⟩)
  omega
theorem Zoh{r:AR}(ho:AROk r)(hg:GoodN r.nodes){rs:List Ro}(hrs:∀x∈rs,RtOk r.nodes x){n:Int}(h:o∈atL r.nodes n rs):o∈Zs r:=by
 obtain⟨x,hx,h2⟩:=cntR_key.1 ((Zkd hg ho.h64 hrs).1 h).1;obtain⟨y,hy⟩:=ZSJ hg (hrs x hx) o (onceV_mem.1 h2);exact ZK9 ho hy
theorem Zqq(h:l.Pairwise fun a b=>a % 65536<b % 65536){a b:Nat}(ha:a∈l)(hb:b∈l)(e:a % 65536=b % 65536):a=b:=by
 induction l with
 | nil=>simp at ha
 | cons c l ih =>
  rw[List.pairwise_cons]at h
  rcases List.mem_cons.1 ha with e1|ha'<;>rcases List.mem_cons.1 hb with e2|hb'
  ·rw[e1,e2]
  ·have:=h.1 _ hb';subst e1;omega
  ·have:=h.1 _ ha';subst e2;omega
  ·exact ih h.2 ha' hb'
theorem Zaa{lv:Nat}{L:List Blk}{b:Nat}{N:ZO}(hN:GoodN N)(hR:∀L,Rd ⟨A,false,L⟩ la (b+5) N){rs:List Ro}(hrs:∀r∈rs,RtOk N r)(hl:rs.length<=100)(g:∀L,St.get ⟨A,false,L⟩ lv ix=some (.arr 5 ver (rs.map Ro.av))):
 S T3 Ye [.ptr la (b+5) 0 0 0,.ref lv ix ver 0 rs.length] ⟨A,false,L⟩=some (.tup [.map A.length (L++Jb rs).length,.int .i64 0],
  ⟨A,false,(L++Jb rs)++(.map (J0 (J1 N rs))::Jb rs)⟩):=by
 refine ZAQ Y ?_
 have hw:∀L,wIs 5 ver (St.get ⟨A,false,L⟩ lv ix)=true:=fun L=>by rw[g];simp[wIs]
 have p1:∀r:Ro,JL r.av true 0 5=some r.av:=fun r=>rfl
 repeat'(first|refine ZE ?_|refine ZD ?_|refine ZF Y ?_|refine ZB Y ?_|refine ZC ?_|refine Qf Y ?_|refine ZG Y ?_|refine JA Y Y Y Y ?_|refine ZI ?_|refine ZJ ?_)
 all_goals try first|contradiction|omega
 refine Zt (α:=Nat) (fun i=>[(0,.ptr la (b+5) 0 0 0),(1,.ref lv ix ver 0 rs.length),(18,.ref lv ix ver 0 rs.length),(19,.int .i64 rs.length),(20,.int .i64 i)]) (fun i=>⟨A,false,L++Jb (rs.take i)⟩) (fun i=>i<=rs.length) (fun i=>rs.length-i) 0 Y (by simp[Jb]) (by omega) ?_
 intro i hi
 rcases Nat.lt_or_ge i rs.length with hlt|hge
 ·obtain⟨r,hr⟩:∃r,rs[i]?=some r:=⟨rs[i]'hlt,jE _⟩
  have q:(rs.map Ro.av)[0+((i:Nat):Int).toNat]?=some r.av:=by rw[show 0+((i:Nat):Int).toNat=i by omega,jG,hr];rfl
  have hC:=fun L=>up13 (Zf8 hN (hR L) (hrs r (jM hr)))
  have ht:rs.take (i+1)=rs.take i++[r]:=ZW hr
  repeat'(first|refine YP Y Y (by omega) (hw _) ?_|refine Z5 Y (g _) q (p1 _) ?_|refine ZE ?_|refine ZD ?_|refine ZF Y ?_|refine ZB Y ?_|refine ZC ?_|refine Ql Y Y Y ?_|(refine cm0 Y Y Y ?_ ?_<;>intro _<;>try omega)|refine ZS Y ?_|refine ZG Y ?_|refine Zj Y Y (by omega) ?_|refine Z0 Y Y Y ?_|refine J9 Y Y Y Y Y Y ?_|refine ZA Y Y Y (hC _) ?_|refine ZI ?_|refine ZJ ?_|refine Zz ?_|refine Z7 ?_)
  all_goals try first|contradiction|omega
  all_goals refine⟨i+1,⟨rfl,?_⟩,by omega,by omega⟩
  all_goals (rw[ht,ZJ6,<- List.append_assoc];rfl)
 obtain rfl:i=rs.length:=by omega
 rw[List.take_length];obtain⟨X,hX⟩:∃X,X=L++Jb rs:=⟨_,rfl⟩;rw[<- hX]
 repeat'(first|refine ZJ7 ?_|refine ZE ?_|refine ZD ?_|refine ZF Y ?_|refine ZB Y ?_|refine ZC ?_|refine Qf Y ?_|(refine cm0 Y Y Y ?_ ?_<;>intro _<;>try omega)|refine ZG Y ?_|refine Zo ?_|refine ZJ ?_|refine Zc ?_|refine Za Y ?_|refine Zk ?_)
 all_goals try first|contradiction|omega
 refine Zt (α:=Nat) (fun i=>[(0,.ptr la (b+5) 0 0 0),(9,.map A.length X.length),(32,.ref lv ix ver 0 rs.length),(33,.int .i64 rs.length),(34,.int .i64 i)]) (fun i=>⟨A,false,X++(.map (J0 (J1 N (rs.take i)))::Jb (rs.take i))⟩) (fun i=>i<=rs.length) (fun i=>rs.length-i) 0 Y Y (by omega) ?_
 intro i hi
 rcases Nat.lt_or_ge i rs.length with hlt|hge
 ·obtain⟨r,hr⟩:∃r,rs[i]?=some r:=⟨rs[i]'hlt,jE _⟩
  have q:(rs.map Ro.av)[0+((i:Nat):Int).toNat]?=some r.av:=by rw[show 0+((i:Nat):Int).toNat=i by omega,jG,hr];rfl
  have hro:=hrs r (jM hr)
  have hNd:=fun L=>ZkT hN (hR L) hro
  have ht:rs.take (i+1)=rs.take i++[r]:=ZW hr;have ln:=ZMR hN hro
  have ln2:(Ja (Qe N r)).length<=1000000000:=by have:=(ZDZ (Qe N r)).2.2;omega
  have hsn:=Zdx N (rs.take i) r
  have hnn:∀o,0<=Yn o (J1 N (rs.take i))/\Yn o (J1 N (rs.take i))<=100:=fun o=>by
   have h1:=ZPF N o (rs.take i) []
   have h2:=List.length_filter_le (fun r=>decide (o∈Ja (Qe N r))) (rs.take i)
   rw[List.length_take]at h2;unfold J1;rw[h1];simp only[Yn];omega
  generalize J1 N (rs.take i)=c0 at *
  generalize Ja (Qe N r)=v at *
  have hbx:X++(.map (J0 c0)::Jb (rs.take i))++[.arr 5 0 [r.av]]=X++(.map (J0 c0)::Jb (rs.take (i+1))):=by rw[ht,ZJ6];simp
  repeat'(first|refine YP Y Y (by omega) (hw _) ?_|refine Z5 Y (g _) q (p1 _) ?_|refine JG Y ?_|refine ZE ?_|refine ZD ?_|refine ZF Y ?_|refine Zr Y Y ?_|refine ZB Y ?_|refine ZC ?_|refine Ql Y Y Y ?_|(refine cm0 Y Y Y ?_ ?_<;>intro _<;>try omega)|refine ZS Y ?_|refine ZG Y ?_|refine Z0 Y Y Y ?_|refine J9 Y Y Y Y Y Y ?_|refine ZA Y Y Y (hNd _) ?_|refine ZI ?_|refine ZJ ?_)
  all_goals try first|contradiction|omega
  change Ru _ _ _ _ _ ⟨A,false,X++(.map (J0 c0)::Jb (rs.take i))++[.arr 5 0 [r.av]]⟩
  rw[hbx]
  refine Zt (α:=Nat) (fun j=>[(0,.ptr la (b+5) 0 0 0),(9,.map A.length X.length),(32,.ref lv ix ver 0 rs.length),(33,.int .i64 rs.length),(34,.int .i64 i),(47,.lit (v.map Z1)),(48,.int .i64 v.length),(49,.int .i64 j)]) (fun j=>⟨A,false,X++(.map (J0 (ZBI c0 (v.take j)))::Jb (rs.take (i+1)))⟩) (fun j=>j<=v.length) (fun j=>v.length-j) 0 Y Y (by omega) ?_
  intro j hj
  rcases Nat.lt_or_ge j v.length with hjl|hjg
  ·obtain⟨h,hh⟩:∃k,v[j]?=some k:=⟨v[j]'hjl,jE _⟩
   have qk:0<=((j:Nat):Int)/\v[((j:Nat):Int).toNat]?=some h:=⟨by omega,by rw[show ((j:Nat):Int).toNat=j by omega];exact hh⟩
   have ht2:v.take (j+1)=v.take j++[h]:=ZW hh
   have hg0:0<=Yn h (ZBI c0 (v.take j))/\Yn h (ZBI c0 (v.take j))<=2000000000:=by
    have h1:=ZJ2 h (v.take j) c0;have h2:=List.count_le_length (a:=h) (l:=v.take j)
    have h3:(v.take j).length<=v.length:=by rw[List.length_take];omega
    have h4:=hnn h;omega
   have hc:ZBI c0 (v.take (j+1))=ZGY h (ZBI c0 (v.take j)):=by rw[ht2,Zdq]
   generalize ZBI c0 (v.take j)=c at *
   have hlk:lookV ⟨A,false,X++(.map (J0 c)::Jb (rs.take (i+1)))⟩ 0 (.int .i64 0) false (.int .u64 h) (.map A.length X.length)=some (.int .i64 (Yn h c)):=ZkU (by simp only[St.get,if_true];rw[List.getElem?_append_right (Nat.le_refl _),Nat.sub_self];rfl) h
   have hput:=Zf9 h c
   generalize Yn h c=n at *
   repeat'(first|refine QY (f:=Z1) Y Y qk (fun _=>rfl) ?_|refine YZ Y Y hlk ?_|refine ZGb Y Y Y Y Y Y hput ?_|refine ZE ?_|refine ZD ?_|refine ZF Y ?_|refine ZB Y ?_|refine ZC ?_|refine QF Y Y ?_|(refine cm0 Y Y Y ?_ ?_<;>intro _<;>try omega)|refine ZS Y ?_|refine Zj Y Y (by omega) ?_|refine ZI ?_|refine ZJ ?_|refine Zz ?_|refine Z7 ?_)
   all_goals try omega
   refine⟨j+1,⟨rfl,?_⟩,by omega,by omega⟩
   rw[hc]
  ·obtain rfl:j=v.length:=by omega
   rw[List.take_length]
   repeat'(first|refine ZE ?_|refine ZD ?_|refine ZF Y ?_|refine ZB Y ?_|refine ZC ?_|(refine cm0 Y Y Y ?_ ?_<;>intro _<;>try omega)|refine ZG Y ?_|refine Zj Y Y (by omega) ?_|refine Zo ?_|refine Zc ?_|refine Zz ?_|refine Za Y ?_|refine Z7 ?_|refine Zk ?_)
   all_goals try omega
   refine⟨i+1,⟨rfl,?_⟩,by omega,by omega⟩
   rw[ht,hsn,<- ht]
 ·obtain rfl:i=rs.length:=by omega
  rw[List.take_length]
  repeat'(first|refine ZE ?_|refine ZD ?_|refine ZF Y ?_|refine ZB Y ?_|refine ZC ?_|(refine cm0 Y Y Y ?_ ?_<;>intro _<;>try omega)|refine ZG Y ?_|refine ZP ?_|refine Zo ?_|refine ZL ?_|refine Zc ?_|refine Za Y ?_|refine Zk ?_)
  all_goals try omega
  exact (YG (.inr Y) Y Y Y Y).trans Y
theorem Zs7{T T0:Tab}{f:FuncId}{X:Run}{pre:PC}{rs:List RV}{args:LV}{r:AV × St}(hT:T f=some (.base (fnK (ZGs (S T0) itS X pre) rs)))
 (h:Ru (S T0) pre [] (fun x e s=>(x=.ret/\Qj true rs (.ret,e,s)=some r)\/(x=.norm/\∃x2 e2 s2,X e s=some (x2,e2,s2)/\Qj true rs (x2,e2,s2)=some r)) (QO 0 args) st):S T f args st=some r:=by
 refine ZWO (o:=fnK (ZGs (S T0) itS X pre) rs) hT ?_;obtain⟨x,e1,s1,h1,h2⟩:=h.h;unfold fnK ZGs;rw[h1,oS]
 rcases h2 with⟨rfl,h3⟩|⟨rfl,x2,e2,s2,h3,h4⟩
 ·simp only[JJ,oS];exact h3
 ·simp only[JJ,h3,oS];exact h4
theorem Zqr(a b:Nat):ZWE (.int .u64 a) (.int .u64 b)=some (decide (a=b)):=by
 show (if IntKind.u64=IntKind.u64 then some (((a:Nat):Int) == ((b:Nat):Int)) else none)=_
 rw[if_pos rfl]
 congr 1
 rw[Bool.eq_iff_iff];simp only[beq_iff_eq,decide_eq_true_eq];omega
def YT(v:AV)(l:List Nat):List (AV × AV):=l.map fun (h:Nat)=>(AV.int .u64 (h:Int),v)
theorem Zab(v:AV)(o:Nat):∀l:List Nat,o∉l->ZBV (.int .u64 o) v (YT v l)=some (YT v (l++[o]))
 | [],_=>rfl
 | p::l,h=>by
  simp only[List.mem_cons,not_or]at h
  rw[YT,jC,ZBV,Zqr,decide_eq_false h.1,oS,if_neg (by simp)]
  have:=Zab v o l h.2
  unfold YT at this;rw[this];rfl
theorem Zqs(l:List Nat):YT (.int .i64 1) l=J0 (l.map fun o=>(o,1)):=by unfold YT J0;rw[List.map_map];rfl
theorem ZSL{α:Type}(f:α->Nat)(g:α->AV):∀l:List α,(∀o∈l,f o<18446744073709551616)->YJ (l.map fun o=>(AV.int .u64 (f o),g o))=some (l.map fun o=>toH (f o))
 | [],_=>rfl
 | o::l,h=>by
  rw[jC]
  have ho:=h o (by simp)
  refine (Zhi (k:=toH (f o)) ?_ (ZSL f g l fun x hx=>h x (by simp[hx]))).trans Y
  show AV.int .u64 ((f o:Nat):Int)=AV.int .u64 (((f o) % 18446744073709551616:Nat):Int)
  rw[Nat.mod_eq_of_lt ho]
theorem ZJ9{v:AV}(h:∀o∈l,o<18446744073709551616):YJ (YT v l)=some (l.map toH):=ZSL (fun o=>o) (fun _=>v) l h
theorem Zoi{c:List (Nat × Int)}(h:∀q∈c,q.1<18446744073709551616):YJ (J0 c)=some ((c.map Prod.fst).map toH):=by
 rw[List.map_map]
 exact ZSL (fun q:Nat × Int=>q.1) (fun q=>.int .i64 q.2) c h
theorem ZSM{v:AV}{S:List Nat}(hS:∀o∈S,o<18446744073709551616)(hl:∀o∈l,o<18446744073709551616):QA (S.map toH) (YT v l)=YT v (l.filter fun o=>decide (o∉S)):=by
 unfold QA YT;rw[List.filter_map]
 congr 1
 refine List.filter_congr fun o ho=>?_
 show (!((S.map toH).any fun h=>decide (h.val=(((o:Nat):Int)).toNat)))=_
 rw[Bool.eq_iff_iff];simp only[Bool.not_eq_true',List.any_eq_false,decide_eq_true_eq,List.mem_map,forall_exists_index,and_imp,forall_apply_eq_imp_iff₂]
 constructor
 ·intro h hm
  refine h o hm ?_
  show o % 18446744073709551616=_
  rw[Nat.mod_eq_of_lt (hl o ho)];omega
 ·intro h x hx e
  have e:x % 18446744073709551616=(((o:Nat):Int)).toNat:=e;rw[Nat.mod_eq_of_lt (hS x hx)]at e
  have:x=o:=by omega
  subst this;exact h hx
theorem Zoj{L:List Blk}{i8 i10 i11:Nat}{es8 es10 es11:List (AV × AV)}{ks8 ks10 ks11:List H64}(h8:QAbs.look e 8=.map A.length i8)(h10:QAbs.look e 10=.map A.length i10)(h11:QAbs.look e 11=.map A.length i11)
 (n1:i8≠i10) (n2:i11≠i10) (n3:i8≠i11) (g8:L[i8]?=some (.map es8)) (g10:L[i10]?=some (.map es10)) (g11:L[i11]?=some (.map es11)) (k8:YJ es8=some ks8) (k10:YJ es10=some ks10) (k11:YJ es11=some ks11) (d8:ks8.Nodup) (d11:ks11.Nodup) :
 ZaC e ⟨A,false,L⟩=some (.norm,[(8,.map A.length i8),(10,.map A.length i10),(11,.map A.length i11)],⟨A,false,(L.set i8 (.map (QA ks10 es8))).set i11 (.map (QA ks10 es11))⟩):=by
 have q8:St.get ⟨A,false,L⟩ A.length i8=some (.map es8):=by rw[St.get_cur,g8];rfl
 have q10:St.get ⟨A,false,L⟩ A.length i10=some (.map es10):=by rw[St.get_cur,g10];rfl
 have q11:St.get ⟨A,false,L⟩ A.length i11=some (.map es11):=by rw[St.get_cur,g11];rfl
 have l8:=(List.getElem?_eq_some_iff.1 g8).1;have l11:=(List.getElem?_eq_some_iff.1 g11).1
 have p1:St.put ⟨A,false,L⟩ A.length i8 (.map (QA ks10 es8))=some ⟨A,false,L.set i8 (.map (QA ks10 es8))⟩:=by simp only[St.put,if_true,if_pos l8];rfl
 have p2:St.put ⟨A,false,L.set i8 (.map (QA ks10 es8))⟩ A.length i11 (.map (QA ks10 es11))=some ⟨A,false,(L.set i8 (.map (QA ks10 es8))).set i11 (.map (QA ks10 es11))⟩:=by
  simp only[St.put,if_true,List.length_set,if_pos l11];rfl
 unfold ZaC;simp only[h8,h10,h11];rw[if_pos ⟨trivial,trivial,n1,n2,n3⟩];simp only[dlA,q8,q10,q11,ZAe,oS,k8,k10,k11];rw[if_pos ⟨d8,d11⟩,p1,oS,p2];rfl
theorem Zok{L:List Blk}{i8 i11:Nat}{es8 es11:List (AV × AV)}{ks8 ks11:List H64}(h8:QAbs.look e 8=.map A.length i8)(h11:QAbs.look e 11=.map A.length i11)
 (n3:i8≠i11) (g8:L[i8]?=some (.map es8)) (g11:L[i11]?=some (.map es11)) (k8:YJ es8=some ks8) (k11:YJ es11=some ks11) (d8:ks8.Nodup) :
 ZaD e ⟨A,false,L⟩=some (.norm,[(8,.map A.length i8),(10,QAbs.look e 10),(11,.map A.length i11)],⟨A,false,L.set i8 (.map (QA ks11 es8))⟩):=by
 have q8:St.get ⟨A,false,L⟩ A.length i8=some (.map es8):=by rw[St.get_cur,g8];rfl
 have q11:St.get ⟨A,false,L⟩ A.length i11=some (.map es11):=by rw[St.get_cur,g11];rfl
 have l8:=(List.getElem?_eq_some_iff.1 g8).1
 have p1:St.put ⟨A,false,L⟩ A.length i8 (.map (QA ks11 es8))=some ⟨A,false,L.set i8 (.map (QA ks11 es8))⟩:=by simp only[St.put,if_true,if_pos l8];rfl
 unfold ZaD;simp only[h8,h11];rw[if_pos ⟨trivial,n3⟩];simp only[dlB,q8,q11,ZAe,oS,k8,k11];rw[if_pos d8,p1];rfl
def YV(ck lm:List Nat):List Nat:=lm.filter fun o=>decide (o∉ck)
def Yp(ck lm live:List Nat):List Nat:=(live.filter fun o=>decide (o∉ck)).filter fun o=>decide (o∉YV ck lm)
theorem Zqt{L:List Blk}{m:Nat}{es10 es11:List (AV × AV)}(hm:L[m]?=some (.map es10))(hx:L[ix]?=some (.map es11)):
 exec (S T3) itS Zoa [(8,.map A.length jx),(10,.map A.length m),(11,.map A.length ix)] ⟨A,false,L⟩=some (.ret,[(6,.int .i64 es10.length),(7,.int .i64 es11.length),(8,.map A.length jx),(9,.int .i64 0)],⟨A,false,L⟩):=by
 have q10:St.get ⟨A,false,L⟩ A.length m=some (.map es10):=by rw[St.get_cur,hm];rfl
 have q11:St.get ⟨A,false,L⟩ A.length ix=some (.map es11):=by rw[St.get_cur,hx];rfl
 have:Ru (S T3) Zoa [] (fun x e s=>x=.ret/\e=[(6,.int .i64 es10.length),(7,.int .i64 es11.length),(8,.map A.length jx),(9,.int .i64 0)]/\s=⟨A,false,L⟩) [(8,.map A.length jx),(10,.map A.length m),(11,.map A.length ix)] ⟨A,false,L⟩:=by
  repeat'(first|refine ZJ0 Y q10 ?_|refine ZJ0 Y q11 ?_|refine ZE ?_|refine ZD ?_|refine ZF Y ?_|refine ZB Y ?_|refine ZC ?_|refine ZP ?_|refine ZL ?_)
  all_goals exact⟨rfl,rfl,rfl⟩
 obtain⟨x,e1,s1,h1,rfl,rfl,rfl⟩:=this.h;exact h1
theorem Zqu{X:List Blk}{m:Nat}{c:List (Nat × Int)}{live:List Nat}(h8:QAbs.look e 8=.map A.length (X.length+1))(h10:QAbs.look e 10=.map A.length m)(h11:QAbs.look e 11=.map A.length X.length)(gX:X[m]?=some (.map (J0 c)))
 (hc:∀q∈c,q.1<18446744073709551616) (h1:∀o∈lm,o<18446744073709551616) (h2:∀o∈live,o<18446744073709551616) (d1:lm.Nodup) (d2:live.Nodup) :
 Zlm (S T3) e ⟨A,false,X++[.map (YT (.bool true) lm),.map (YT (.int .i64 1) live)]⟩=some (.ret,[(6,.int .i64 c.length),(7,.int .i64 (YV (c.map Prod.fst) lm).length),(8,.map A.length (X.length+1)),(9,.int .i64 0)],
  ⟨A,false,X++[.map (YT (.bool true) (YV (c.map Prod.fst) lm)),.map (YT (.int .i64 1) (Yp (c.map Prod.fst) lm live))]⟩):=by
 have hmX:m<X.length:=(List.getElem?_eq_some_iff.1 gX).1
 have hk:∀o∈c.map Prod.fst,o<18446744073709551616:=fun o ho=>by obtain⟨q,hq,rfl⟩:=List.mem_map.1 ho;exact hc q hq
 have a0:∀T:List Blk,(X++T)[X.length]?=T[0]?:=fun T=>QS (i:=0)
 have a1:∀T:List Blk,(X++T)[X.length+1]?=T[1]?:=fun T=>QS (i:=1)
 have am:∀T:List Blk,(X++T)[m]?=some (.map (J0 c)):=fun T=>by rw[jL hmX];exact gX
 have s0:∀(T:List Blk) (x:Blk),(X++T).set X.length x=X++T.set 0 x:=fun T x=>ZGR (i:=0)
 have s1:∀(T:List Blk) (x:Blk),(X++T).set (X.length+1) x=X++T.set 1 x:=fun T x=>ZGR (i:=1)
 unfold Zlm
 rw[Zoj h8 h10 h11 (by omega) (by omega) (by omega) (a1 _) (am _) (a0 _) (ZJ9 h2) (Zoi hc) (ZJ9 h1) (ZV8 h2 d2) (ZV8 h1 d1)]
 simp only[oS,JJ];rw[ZSM hk h2,ZSM hk h1,s1,s0];simp only[List.set_cons_succ,List.set_cons_zero]
 have h2':∀o∈live.filter (fun o=>decide (o∉c.map Prod.fst)),o<18446744073709551616:=fun o ho=>h2 o (List.mem_filter.1 ho).1
 have h1':∀o∈lm.filter (fun o=>decide (o∉c.map Prod.fst)),o<18446744073709551616:=fun o ho=>h1 o (List.mem_filter.1 ho).1
 rw[Zok rfl rfl (by omega) (a1 _) (a0 _) (ZJ9 h2') (ZJ9 h1') (ZV8 h2' (d2.filter _))]
 simp only[oS,JJ];rw[ZSM h1' h2',s1];simp only[List.set_cons_succ,List.set_cons_zero];refine (Zqt (es10:=J0 c) (es11:=YT (.bool true) (YV (c.map Prod.fst) lm)) (am _) (a0 _)).trans ?_;unfold YT J0 YV Yp;simp only[List.length_map];rfl
theorem ZAv{r:AR}(ho:AROk r)(h:o∈Zs r):ZD8 r o/\o<18446744073709551616:=by
 unfold Zs at h;obtain⟨s,hs,rfl⟩:=List.mem_map.1 h;obtain⟨h1,h2⟩:=ZGa hs;obtain⟨g,g1,g2,g3⟩:=ho.gen s h1;have hm:=ho.most;have hn:=ho.n16
 have e:hOf r s=g*65536+s:=by unfold hOf;rw[g1];simp
 rw[e]
 have e1:(g*65536+s) % 65536=s:=by omega
 have e2:(g*65536+s) / 65536=g:=by omega
 refine⟨⟨?_,by rw[e1];exact h2,by rw[e1,e2];exact g1⟩,by omega⟩
 unfold Yc;omega
theorem ZSu{a:Nat}(hn:l.Nodup)(h:l[i]?=some a):a∉l.take i:=by
 have h1:l.take (i+1)=l.take i++[a]:=ZW h;have h2:(l.take (i+1)).Nodup:=hn.sublist (List.take_sublist _ _);rw[h1,List.nodup_append]at h2
 exact fun hm=>h2.2.2 a hm a (by simp) Y
theorem ZsO{r:AR}(hn:lm.Nodup)(hlm:∀o∈lm,o∈Zs r):lm.length<=(Zs r).length:=by
 revert hlm
 generalize Zs r=l
 induction lm generalizing l with
 | nil=>intro _;simp
 | cons a lm ih =>
  intro h;rw[List.nodup_cons]at hn
  have ha:=h a (by simp)
  have:=ih hn.2 (l.erase a) fun o ho=>(List.mem_erase_of_ne (fun e=>hn.1 (by rw[<- e];exact ho))).2 (h o (by simp[ho]))
  have hl:=List.length_erase_of_mem ha
  have:=List.length_pos_of_mem ha
  simp only[List.length_cons];omega
theorem Zd0{b lv:Nat}{L:List Blk}{r:AR}(ho:AROk r)(hg:GoodN r.nodes)(hH:∀L,HasR ⟨A,false,L⟩ la b r){rs:List Ro}(hrs:∀x∈rs,RtOk r.nodes x)(hl:rs.length<=100)(g:∀L,St.get ⟨A,false,L⟩ lv ix=some (.arr 5 ver (rs.map Ro.av)))
 {lm:List Nat} (hn:lm.Nodup) (hlm:∀o∈lm,o∈Zs r) (gl:∀L,St.get ⟨A,false,L⟩ lw jx=some (.arr 1 wer (lm.map Z1))) :
 S TZ JT [.ptr la (b+5) 0 0 0,.ref lv ix ver 0 rs.length,.ref lw jx wer 0 lm.length] ⟨A,false,L⟩=some (.tup [.int .i64 (J1 r.nodes rs).length,.int .i64 (YV ((J1 r.nodes rs).map Prod.fst) lm).length,.map A.length (((L++Jb rs)++(Blk.map (J0 (J1 r.nodes rs))::Jb rs)).length+1),.int .i64 0],
  ⟨A,false,((L++Jb rs)++(Blk.map (J0 (J1 r.nodes rs))::Jb rs))++[.map (YT (.bool true) (YV ((J1 r.nodes rs).map Prod.fst) lm)),.map (YT (.int .i64 1) (Yp ((J1 r.nodes rs).map Prod.fst) lm (Zs r)))]⟩):=by
 refine Zs7 (X:=Zlm (S T3)) (pre:=pPa) (rs:=rsP) Y ?_
 have hC:=Zaa (A:=A) (L:=L) hg (fun L=>(hH L).rd) hrs hl g
 have hHd:=fun L=>up3 (ZaT (hH L) ho)
 have hcn:=ZJe hg ho.h64 hrs;have hlen:=ZCY ho;have hlnd:=ZgE ho
 have h64:∀o∈Zs r,o<18446744073709551616:=fun o h=>(ZAv ho h).2
 have gX:((L++Jb rs)++(Blk.map (J0 (J1 r.nodes rs))::Jb rs))[(L++Jb rs).length]?=some (.map (J0 (J1 r.nodes rs))):=by rw[List.getElem?_append_right (Nat.le_refl _),Nat.sub_self];rfl
 have hLv:∀a∈lm,∀L,S T3 Yu [.ptr la (b+5) 0 0 0,.int .u64 a] ⟨A,false,L⟩=some (.bool true,⟨A,false,L⟩):=fun a ha L=>by
  obtain⟨k1,k2⟩:=ZAv ho (hlm a ha)
  have:=up3 (Zrs (hH L) ho.gl a k2)
  rw[decide_eq_true k1]at this;exact this
 have hlm64:∀o∈lm,o<18446744073709551616:=fun o h=>(ZAv ho (hlm o h)).2
 have hlml:=ZsO hn hlm
 have hw:∀L,wIs 1 wer (St.get ⟨A,false,L⟩ lw jx)=true:=fun L=>by rw[gl];simp[wIs]
 generalize J1 r.nodes rs=c at *
 generalize ((L++Jb rs)++(Blk.map (J0 c)::Jb rs))=X at *
 generalize (L++Jb rs).length=m at *
 generalize Zs r=live at *
 repeat'(first|refine ZJ7 ?_|refine ZE ?_|refine ZD ?_|refine ZF Y ?_|refine Zr Y Y ?_|refine ZB Y ?_|refine ZC ?_|refine Qf Y ?_|(refine cm0 Y Y Y ?_ ?_<;>intro _<;>try omega)|refine ZG Y ?_|refine ZA Y Y Y (hC) ?_|refine ZI ?_|refine ZJ ?_)
 all_goals try first|contradiction|omega
 refine Zt (α:=Nat) (fun i=>[(0,.ptr la (b+5) 0 0 0),(10,.map A.length m),(11,.map A.length X.length),(28,.ref lw jx wer 0 lm.length),(29,.int .i64 lm.length),(30,.int .i64 i)]) (fun i=>⟨A,false,X++(.map (YT (.bool true) (lm.take i))::[])⟩) (fun i=>i<=lm.length) (fun i=>lm.length-i) 0 Y Y (Nat.zero_le _) ?_
 intro i hi
 rcases Nat.lt_or_ge i lm.length with hlt|hge
 ·obtain⟨a,ha⟩:∃a,lm[i]?=some a:=⟨lm[i]'hlt,jE _⟩
  have q:0<=((i:Nat):Int)/\lm[((i:Nat):Int).toNat]?=some a:=⟨by omega,by rw[show ((i:Nat):Int).toNat=i by omega];exact ha⟩
  have qr:=Zn6 ha;have ht:lm.take (i+1)=lm.take i++[a]:=ZW ha;have hnot:a∉lm.take i:=ZSu hn ha;have hput:=Zab (.bool true) a _ hnot
  have hLa:=fun L=>hLv a (jM ha) L
  have hlk:lookV ⟨A,false,X++(.map (YT (.bool true) (lm.take i))::[])⟩ 0 (.bool false) false (.int .u64 a) (.map A.length X.length)=some (.bool false):=by
   rw[ZD7 (l:=lm.take i) (by simp only[St.get,if_true];rw[List.getElem?_append_right (Nat.le_refl _),Nat.sub_self];rfl) a,decide_eq_false hnot]
  generalize lm.take i=w at *
  repeat'(first|refine YP Y Y (by omega) (hw _) ?_|refine Z5 Y (gl _) qr Y ?_|refine YZ Y Y hlk ?_|refine ZGb Y Y Y Y Y Y hput ?_|refine ZE ?_|refine ZD ?_|refine ZF Y ?_|refine QB Y ?_|refine Zl Y Y Y Y ?_|refine ZB Y ?_|refine ZC ?_|(refine cm0 Y Y Y ?_ ?_<;>intro _<;>try omega)|refine ZS Y ?_|refine ZG Y ?_|refine JW Y Y ?_|refine Zj Y Y (by omega) ?_|refine ZA Y Y Y (hLa _) ?_|refine ZI ?_|refine ZJ ?_|refine Zz ?_|refine Z7 ?_)
  all_goals try first|contradiction|omega
  all_goals exact⟨i+1,⟨rfl,by rw[ht]⟩,by omega,by omega⟩
 obtain rfl:i=lm.length:=by omega
 rw[List.take_length]
 all_goals repeat'(first|refine ZJ7 ?_|refine JG Y ?_|refine ZE ?_|refine ZD ?_|refine ZF Y ?_|refine ZB Y ?_|refine ZC ?_|(refine cm0 Y Y Y ?_ ?_<;>intro _<;>try omega)|refine ZG Y ?_|refine ZA Y Y Y (hHd _) ?_|refine Zo ?_|refine ZJ ?_|refine Zc ?_|refine Za Y ?_|refine Zk ?_)
 all_goals try first|contradiction|omega
 all_goals refine Zt (α:=Nat) (fun i=>[(8,.map A.length (X++[Blk.map (YT (.bool true) lm)]).length),(10,.map A.length m),(11,.map A.length X.length),(48,.lit (live.map Z1)),(49,.int .i64 live.length),(50,.int .i64 i)]) (fun i=>⟨A,false,(X++[.map (YT (.bool true) lm)])++(.map (YT (.int .i64 1) (live.take i))::[])⟩) (fun i=>i<=live.length) (fun i=>live.length-i) 0 Y Y (Nat.zero_le _) ?_
 all_goals intro i hi
 all_goals rcases Nat.lt_or_ge i live.length with hlt|hge
 ·obtain⟨a,ha⟩:∃a,live[i]?=some a:=⟨live[i]'hlt,jE _⟩
  have q:0<=((i:Nat):Int)/\live[((i:Nat):Int).toNat]?=some a:=⟨by omega,by rw[show ((i:Nat):Int).toNat=i by omega];exact ha⟩
  have ht:live.take (i+1)=live.take i++[a]:=ZW ha;have hnot:a∉live.take i:=ZSu hlnd ha;have hput:=Zab (.int .i64 1) a _ hnot
  generalize X++[Blk.map (YT (.bool true) lm)]=Y' at *
  repeat'(first|refine QY (f:=Z1) Y Y q (fun _=>rfl) ?_|refine ZGb Y Y Y Y Y Y hput ?_|refine ZE ?_|refine ZD ?_|refine ZF Y ?_|refine ZB Y ?_|refine ZC ?_|refine QF Y Y ?_|(refine cm0 Y Y Y ?_ ?_<;>intro _<;>try omega)|refine ZS Y ?_|refine Zj Y Y (by omega) ?_|refine ZI ?_|refine ZJ ?_|refine Zz ?_|refine Z7 ?_)
  all_goals try first|contradiction|omega
  all_goals exact⟨i+1,⟨rfl,by rw[ht]⟩,by omega,by omega⟩
 ·obtain rfl:i=live.length:=by omega
  rw[List.take_length]
  have e1:(X++[Blk.map (YT (.bool true) lm)])++(Blk.map (YT (.int .i64 1) live)::[])=X++[Blk.map (YT (.bool true) lm),Blk.map (YT (.int .i64 1) live)]:=by simp
  have e2:(X++[Blk.map (YT (.bool true) lm)]).length=X.length+1:=by simp
  rw[e1,e2]
  repeat'(first|refine ZE ?_|refine ZD ?_|refine ZB Y ?_|refine ZC ?_|(refine cm0 Y Y Y ?_ ?_<;>intro _<;>try omega)|refine ZG Y ?_|refine ZI ?_|refine Zo ?_|refine ZL ?_|refine Zc ?_|refine Za Y ?_|refine Zk ?_)
  all_goals try omega
  refine .inr ⟨rfl,_,_,_,Zqu Y Y Y gX hcn hlm64 h64 hn hlnd,?_⟩;rfl
theorem Zol(h:l.Pairwise fun a b=>a % 65536<b % 65536)(h6:∀x∈l,x<18446744073709551616):Zcu l=l:=by
 have hp:=ZJ5 h6;refine ZSt hp ?_ h
 have hs:(Zcu l).Pairwise fun a b=>a % 65536<=b % 65536:=Zh5 _
 have hn:(Zcu l).Pairwise fun a b=>a≠b:=hp.nodup_iff.2 (h.imp fun h e=>by subst e;omega)
 refine (hs.and hn).imp_of_mem fun {a b} ha hb q=>?_
 rcases Nat.lt_or_ge (a % 65536) (b % 65536) with w|w
 ·exact w
 ·exact absurd (Zqq h (hp.mem_iff.1 ha) (hp.mem_iff.1 hb) (by omega)) q.2
theorem ZiC{live:List Nat}:(Yp ck lm live).Sublist live:=(List.filter_sublist).trans List.filter_sublist
theorem Zom(l:List Nat):ZMS (fun n=>decide (1<=n)) (l.map fun o=>(o,1))=l:=by
 unfold ZMS;rw[List.filter_eq_self.2,List.map_map]
 ·exact List.map_id l
 ·intro q hq;obtain⟨o,_,rfl⟩:=List.mem_map.1 hq;rfl
theorem Zqv{r:AR}(ho:AROk r)(hla:la<=st.A.length)(hg:st.get la ix=some (.map (YT (.int .i64 1) (Yp ck lm (Zs r))))):
 S TZ JF [.map la ix,.int .i64 1] st=some (.lit ((Yp ck lm (Zs r)).map Z1),st):=by
 have hsub:=ZiC (ck:=ck) (lm:=lm) (live:=Zs r)
 have h6:∀x∈Yp ck lm (Zs r),x<18446744073709551616:=fun x hx=>(ZAv ho (hsub.subset hx)).2
 have hasc:=(ZiB ho).sublist hsub;have hlen:=ZCY ho;have hle:=hsub.length_le
 generalize Yp ck lm (Zs r)=l at *
 rw[Zqs]at hg
 have hL:=ZSK (n0:=1) hla hg (by rw[List.map_map];exact (show (l.map fun o=>o).Nodup by rw[List.map_id'];exact hasc.imp fun h e=>by subst e;omega)) (fun q hq=>by obtain⟨o,ho',rfl⟩:=List.mem_map.1 hq;exact h6 o ho') (by rw[List.length_map];omega)
 rw[Zom,Zol hasc h6]at hL;exact upZ hL
def Zon(r:AR)(ck lm:List Nat):AV:=.agg [.int .i64 (ck.length:Nat),.int .i64 (YV ck lm).length,.int .i64 r.free.length,.int .i64 (Js r.states 2).length,.int .i64 (Yp ck lm (Zs r)).length]
def ZAx(r:AR)(rs:List Ro):List Nat:=(J1 r.nodes rs).map Prod.fst
theorem ZjZ{b lv:Nat}{r:AR}(ho:AROk r)(hg:GoodN r.nodes)(hH:HasR st la b r){rs:List Ro}(hrs:∀x∈rs,RtOk r.nodes x)(hl:rs.length<=100)(g:St.get st lv ix=some (.arr 5 ver (rs.map Ro.av)))(hn:lm.Nodup)(hlm:∀o∈lm,o∈Zs r)(gl:St.get st lw jx=some (.arr 1 wer (lm.map Z1))):
 S TZ JY [.ptr la (b+5) 0 0 0,.ref lv ix ver 0 rs.length,.ref lw jx wer 0 lm.length] st=some (.tup [.lit ((Yp (ZAx r rs) lm (Zs r)).map Z1),.int .i64 0],st):=by
 refine QK (leZ JY (.pf J4) (leX JY (.pf J4) (leW JY (.pf J4) (leV JY (.pf J4) (le3 JY (.pf J4) Y))))) (fun A hA=>?_)
 have hP:=Zd0 (A:=A) (L:=[]) ho hg (fun L=>hH.push hA (ro:=false) (L:=L)) hrs hl (fun L=>ZQ hA (ro:=false) (L:=L) g) hn hlm (fun L=>ZQ hA (ro:=false) (L:=L) gl)
 change S TZ JT _ _=some (.tup [_,.int .i64 (YV (ZAx r rs) lm).length,_,_],⟨A,false,_++[.map (YT (.bool true) (YV (ZAx r rs) lm)),.map (YT (.int .i64 1) (Yp (ZAx r rs) lm (Zs r)))]⟩) at hP
 generalize (([]:List Blk)++Jb rs)++(Blk.map (J0 (J1 r.nodes rs))::Jb rs)=X at hP
 have hL:=Zqv (st:=⟨A,false,X++[.map (YT (.bool true) (YV (ZAx r rs) lm)),.map (YT (.int .i64 1) (Yp (ZAx r rs) lm (Zs r)))]⟩) ho (la:=A.length) (ix:=X.length+1) (ck:=ZAx r rs) (lm:=lm) (Nat.le_refl _) (by rw[St.get_cur,QS];rfl)
 generalize Yp (ZAx r rs) lm (Zs r)=lost at *
 generalize YV (ZAx r rs) lm=wait at *
 repeat'(first|refine ZE ?_|refine ZD ?_|refine ZF Y ?_|refine Zr Y Y ?_|refine ZB Y ?_|refine ZC ?_|(refine cm0 Y Y Y ?_ ?_<;>intro _<;>try omega)|refine ZG Y ?_|refine ZA Y Y Y (hP) ?_|refine ZA Y Y Y (hL) ?_|refine ZI ?_|refine ZP ?_|refine ZL ?_)
 all_goals try contradiction
 all_goals refine Zf hA (by simp) Y Y Y Y ?_
 all_goals rfl
theorem Zlr{b lv:Nat}{r:AR}(ho:AROk r)(hg:GoodN r.nodes)(hH:HasR st la b r){rs:List Ro}(hrs:∀x∈rs,RtOk r.nodes x)(hl:rs.length<=100)(g:St.get st lv ix=some (.arr 5 ver (rs.map Ro.av)))(hn:lm.Nodup)(hlm:∀o∈lm,o∈Zs r)(gl:St.get st lw jx=some (.arr 1 wer (lm.map Z1))):
 S TZ Ju [.ptr la (b+5) 0 0 0,.ref lv ix ver 0 rs.length,.ref lw jx wer 0 lm.length] st=some (.tup [Zon r (ZAx r rs) lm,.int .i64 0],st):=by
 refine QK (leZ Ju (.pf YS) (leX Ju (.pf YS) (leW Ju (.pf YS) (leV Ju (.pf YS) (le3 Ju (.pf YS) Y))))) (fun A hA=>?_)
 have hP:=Zd0 (A:=A) (L:=[.arr 5 0 [.agg [.int .i64 0,.int .i64 0,.int .i64 0,.int .i64 0,.int .i64 0]]]) ho hg (fun L=>hH.push hA (ro:=false) (L:=L)) hrs hl (fun L=>ZQ hA (ro:=false) (L:=L) g) hn hlm (fun L=>ZQ hA (ro:=false) (L:=L) gl)
 have hS:=fun L=>ZaV (ZoY (hH.push hA (ro:=false) (L:=L)) ho)
 have hk:((ZAx r rs).length:Int)=((J1 r.nodes rs).length:Int):=by unfold ZAx;rw[List.length_map]
 change S TZ JT _ _=some (.tup [_,.int .i64 (YV (ZAx r rs) lm).length,_,_],⟨A,false,_++[.map (YT (.bool true) (YV (ZAx r rs) lm)),.map (YT (.int .i64 1) (Yp (ZAx r rs) lm (Zs r)))]⟩) at hP
 rw[<- hk]at hP;have e1:(([Blk.arr 5 0 [.agg [.int .i64 0,.int .i64 0,.int .i64 0,.int .i64 0,.int .i64 0]]]++Jb rs)++(Blk.map (J0 (J1 r.nodes rs))::Jb rs))=Blk.arr 5 0 [.agg [.int .i64 0,.int .i64 0,.int .i64 0,.int .i64 0,.int .i64 0]]::(Jb rs++(Blk.map (J0 (J1 r.nodes rs))::Jb rs)):=rfl;rw[e1]at hP;unfold Zon
 generalize Yp (ZAx r rs) lm (Zs r)=lost at *
 generalize YV (ZAx r rs) lm=wait at *
 generalize (ZAx r rs).length=kn at *
 generalize (Jb rs++(Blk.map (J0 (J1 r.nodes rs))::Jb rs))=X at *
 have gq:St.get ⟨A,false,Blk.arr 5 0 [.agg [.int .i64 0,.int .i64 0,.int .i64 0,.int .i64 0,.int .i64 0]]::(X++[.map (YT (.bool true) wait),.map (YT (.int .i64 1) lost)])⟩ A.length (X.length+1+1)=some (.map (YT (.int .i64 1) lost)):=by
  rw[St.get_cur,List.getElem?_cons_succ,QS];rfl
 have hlo:(YT (.int .i64 1) lost).length=lost.length:=by unfold YT;rw[List.length_map]
 rw[<- hlo]
 generalize YT (.int .i64 1) lost=ml at *
 generalize YT (.bool true) wait=mw at *
 change S TZ JT _ _=some (.tup [_,_,.map A.length (X.length+1+1),_],⟨A,false,_::(X++[.map mw,.map ml])⟩) at hP
 generalize X++[Blk.map mw,Blk.map ml]=Y' at *
 generalize X.length+1+1=j at *
 repeat'(first|refine ZJ0 Y gq ?_|refine JG Y ?_|refine ZE ?_|refine ZD ?_|refine ZF Y ?_|refine Zr Y Y ?_|refine ZB Y ?_|refine ZC ?_|(refine cm0 Y Y Y ?_ ?_<;>intro _<;>try omega)|refine ZG Y ?_|refine Zw Y Y Y ?_|refine Zn Y Y Y ?_|refine JB Y Y Y Y Y Y ?_|refine ZA Y Y Y (hP) ?_|refine ZA Y Y Y (hS _) ?_|refine ZI ?_|refine ZP ?_|refine ZL ?_)
 all_goals try contradiction
 change Qj false _ (Ex.ret,[(6,.ptr A.length 0 0 0 0),(7,.int .i64 0)],⟨A,false,Blk.arr 5 0 [.agg [.int .i64 kn,.int .i64 wait.length,.int .i64 r.free.length,.int .i64 (Js r.states 2).length,.int .i64 ml.length]]::Y'⟩)=_
 exact Xz hA (.inr Y) Y Y Y Y Y Y
theorem Zd1(l:List Int):∀n,(JV l 0 n).length+(JV l 1 n).length+(JV l 2 n).length<=n
 | 0=>by simp[JV]
 | n+1=>by
  have ih:=Zd1 l n;rw[ZCW,ZCW,ZCW,lL,lL,lL]
  by_cases h0:l[n]?=some 0
  ·rw[if_pos h0,if_neg (by rw[h0];simp),if_neg (by rw[h0];simp)];simp only[List.length_singleton,List.length_nil];omega
  ·by_cases h1:l[n]?=some 1
   ·rw[if_neg h0,if_pos h1,if_neg (by rw[h1];simp)];simp only[List.length_singleton,List.length_nil];omega
   ·rw[if_neg h0,if_neg h1]
    by_cases h2:l[n]?=some 2
    ·rw[if_pos h2];simp only[List.length_singleton,List.length_nil];omega
    ·rw[if_neg h2];simp only[List.length_nil];omega
theorem ZV9{m:List Nat}(hn:l.Nodup)(h:∀o∈l,o∈m):l.length<=m.length:=by
 induction l generalizing m with
 | nil=>simp
 | cons a l ih =>
  rw[List.nodup_cons]at hn
  have ha:=h a (by simp)
  have:=ih (m:=m.erase a) hn.2 fun o ho=>(List.mem_erase_of_ne (fun e=>hn.1 (by rw[<- e];exact ho))).2 (h o (by simp[ho]))
  have hl:=List.length_erase_of_mem ha
  have:=List.length_pos_of_mem ha
  simp only[List.length_cons];omega
theorem Zqw{r:AR}(ho:AROk r):r.n<=(Js r.states 0).length:=by
 have h1:((List.range r.n).map fun i=>((r.blk[i]?).getD 0).toNat).Nodup:=by
  rw[List.Nodup,List.pairwise_map]
  refine List.pairwise_lt_range.imp_of_mem fun {i j} hi hj hij e=>?_
  rw[List.mem_range]at hi hj;obtain⟨s,a1,a2,a3⟩:=ho.stk i hi;obtain⟨t,b1,b2,b3⟩:=ho.stk j hj;have e2:((r.blk[i]?).getD 0).toNat=((r.blk[j]?).getD 0).toNat:=e;rw[a1,b1]at e2
  have e3:s=t:=by simpa using e2
  have:=ho.nd i j hi hj (by rw[a1,b1,e3])
  omega
 have h2:=ZV9 (m:=Js r.states 0) h1 fun o hm=>by
  obtain⟨i,hi,rfl⟩:=List.mem_map.1 hm;rw[List.mem_range]at hi;obtain⟨s,a1,a2,a3⟩:=ho.stk i hi;unfold Js JV;rw[List.mem_filter,List.mem_range,a1]
  exact⟨a2,by simp[a3]⟩
 simpa using h2
theorem Zoo{r:AR}(ho:AROk r)(hk:KdP r)(hn:r.nodes.length+r.n=r.states.length):(Zs r).length+r.n+(Js r.states 2).length=r.states.length:=by
 obtain⟨l,h1,h2,h3⟩:=hk
 have a1:=ZV9 (m:=Zs r) h1 fun o hm=>by obtain⟨x,hx⟩:=h2 o hm;exact ZK9 ho hx
 have a2:=Zqw ho;have a3:=Zd1 r.states r.states.length
 have a4:(Zs r).length=(Js r.states 1).length:=by unfold Zs;rw[List.length_map]
 unfold Js at *
 omega
structure RpOk(r:AR)(ck ins lm live:List Nat):Prop where
 ln:ck.length=ins.length
 mem:∀o,o∈ins↔o∈ck
 sum:ck.length+(YV ck lm).length+(Yp ck lm live).length=live.length
 btw:(live.filter fun o=>decide (o∉ck/\o∈lm)).length=(YV ck lm).length
 small:ck.length<=16384/\(YV ck lm).length<=16384/\(Yp ck lm live).length<=16384/\live.length<=16384/\lm.length<=16384
theorem Zop{r:AR}(ho:AROk r)(hg:GoodN r.nodes){rs:List Ro}(hrs:∀x∈rs,RtOk r.nodes x)(hn:lm.Nodup)(hlm:∀o∈lm,o∈Zs r):
 RpOk r (ZAx r rs) (atL r.nodes 1 rs) lm (Zs r):=by
 have h6:=ho.h64;have hcn:(ZAx r rs).Nodup:=ZJ8 r.nodes rs
 have hmem:∀o,o∈atL r.nodes 1 rs↔o∈ZAx r rs:=fun o=>by
  rw[Zog hg h6 hrs];exact cntR_key.symm
 have hli:∀o∈ZAx r rs,o∈Zs r:=fun o h=>Zoh ho hg hrs ((hmem o).2 h)
 have hlen:=ZCY ho;have hnd:=ZgE ho;have l1:=ZV9 hcn hli;have l2:=ZV9 hn hlm
 have l3:(YV (ZAx r rs) lm).length<=lm.length:=by unfold YV;exact List.length_filter_le _ _
 have l4:=(ZiC (ck:=ZAx r rs) (lm:=lm) (live:=Zs r)).length_le;have p0:=(ZJ4 (ZsN hg h6 (n:=1) hrs) hcn hmem).length_eq
 generalize ZAx r rs=ck at *
 generalize Zs r=live at *
 have s1:=Zdz live ck
 have p1:=(ZJ4 (hnd.filter fun o=>decide (o∈ck)) hcn fun o=>by rw[List.mem_filter,decide_eq_true_eq];exact⟨fun h=>h.2,fun h=>⟨hli o h,h⟩⟩).length_eq
 have s2:=Zdz (live.filter fun o=>decide (o∉ck)) (YV ck lm)
 have p2:=(ZJ4 ((hnd.filter fun o=>decide (o∉ck)).filter fun o=>decide (o∈YV ck lm)) (hn.filter fun o=>decide (o∉ck)) fun o=>by
  unfold YV;simp only[List.mem_filter,decide_eq_true_eq]
  exact⟨fun h=>h.2,fun h=>⟨⟨hlm o h.1,h.2⟩,h⟩⟩).length_eq
 have p3:=(ZJ4 (hnd.filter fun o=>decide (o∉ck/\o∈lm)) (hn.filter fun o=>decide (o∉ck)) fun o=>by
  simp only[List.mem_filter,decide_eq_true_eq]
  exact⟨fun h=>⟨h.2.2,h.2.1⟩,fun h=>⟨hlm o h.1,h.2,h.1⟩⟩).length_eq
 refine⟨p0.symm,hmem,?_,p3,by omega⟩
 unfold Yp
 change ((live.filter fun o=>decide (o∉ck)).filter fun o=>decide (o∈YV ck lm)).length=(YV ck lm).length at p2
 omega
theorem Zoq{p:Nat->Bool}{h:Nat}(hi:l[i]?=some h):((l.take (i+1)).filter p).length=((l.take i).filter p).length+if p h=true then 1 else 0:=by
 rw[ZW hi,List.filter_append,lL]
 congr 1
 by_cases q:p h=true<;>simp[q]
theorem Zqx{p:Nat->Bool}:((l.take i).filter p).length<=(l.filter p).length:=by
 conv=>rhs;rw[<- List.take_append_drop i l]
 rw[List.filter_append,lL];omega
theorem ZsP{b lv:Nat}{N:ZO}(hN:GoodN N)(h6:Zh6 N)(hK:∀l,Lv N l->l.length<=16384)(hR:Rd st la (b+5) N){rs:List Ro}(hrs:∀r∈rs,RtOk N r)(hl:rs.length<=100)(g:St.get st lv ix=some (.arr 5 ver (rs.map Ro.av))):
 S TX Xb [.ptr la (b+5) 0 0 0,.ref lv ix ver 0 rs.length] st=some (.tup [.lit ((atL N 1 rs).map Z1),.int .i64 0],st):=by
 refine QK (leX Xb (.pf ZAb) (leW Xb (.pf ZAb) (leV Xb (.pf ZAb) (le3 Xb (.pf ZAb) Y)))) (fun A hA=>?_)
 have hC:=up3X (Zaa (A:=A) (L:=[]) hN (fun L=>hR.push hA (ro:=false) (L:=L)) hrs hl (fun L=>ZQ hA (ro:=false) (L:=L) g))
 have hg:St.get ⟨A,false,([]++Jb rs)++(.map (J0 (J1 N rs))::Jb rs)⟩ A.length (([]++Jb rs):List Blk).length=some (.map (J0 (J1 N rs))):=by
  simp only[St.get,if_true];rw[List.getElem?_append_right (Nat.le_refl _),Nat.sub_self];rfl
 have hL:=ZSK (n0:=1) (Nat.le_refl _) hg (ZJ8 N rs) (ZJe hN h6 hrs) (by have:=Zh9 hN hK hrs;omega)
 change _=some (AV.lit ((atL N 1 rs).map Z1),_) at hL
 generalize J1 N rs=c at *
 generalize ([]++Jb rs:List Blk)=X at *
 repeat'(first|refine ZE ?_|refine ZD ?_|refine ZF Y ?_|refine Zr Y Y ?_|refine ZB Y ?_|refine ZC ?_|(refine cm0 Y Y Y ?_ ?_<;>intro _<;>try omega)|refine ZG Y ?_|refine ZA Y Y Y (hC) ?_|refine ZA Y Y Y (hL) ?_|refine ZI ?_|refine ZP ?_|refine ZL ?_)
 all_goals try contradiction
 all_goals refine Zf hA (by simp) Y Y Y Y ?_
 all_goals rfl
section
variable {O:Orc}{k:List Fr}{Q:YD}{e:Env}{A:List (Bool × List Blk)}{X:List Blk}{keep:List Nat}{is:List QAbs.PI}{d:Nat}
theorem ZiD{bytes:Nat}{s x:Opd}{es:LV}{y:AV}(hs:Ze e s=some (.ref A.length ix ver 0 n))(hx:Ze e x=some (.lit [y]))(hi:ix=X.length)(hb:n=es.length)(hl:es.length+1<4294967296)(hw:bytes<=4096)(hsm:y.wide=some w)
 (hm:ZZ QD (A.length+1) ⟨A,false,X++[Blk.arr w ver es]⟩ y=some (y,⟨A,false,X++[Blk.arr w ver es]⟩)) (h:Is O is keep k Q ((d,.ref A.length ix (ver+1) 0 (n+1))::e) ⟨A,false,X++[Blk.arr w (ver+1) (es++[y])]⟩) :
 Is O (⟨some d,none,false,.app w bytes s x⟩::is) keep k Q e ⟨A,false,X++[Blk.arr w ver es]⟩:=by
 subst hi;refine ZWx hs hx (List.getElem?_concat_length ..) hb hl hw hsm hm ?_;rw[List.set_append_right _ _ (Nat.le_refl _),Nat.sub_self];exact h
end
def pkR(ros:List Ro)(w:Int):Ro:=(ros[(Q0 w ((ros.length:Int)-1)).toNat]?).getD .zero
theorem Zke{ros:List Ro}(hp:0<ros.length)(w:Int):ros[(Q0 w ((ros.length:Int)-1)).toNat]?=some (pkR ros w):=by
 have:=Qc (x:=w) (n:=(ros.length:Int)-1) (by omega)
 unfold pkR
 rw[jE (by omega)];rfl
def pkH(live:List Nat)(w:Int):Nat:=(live[(Q0 w ((live.length:Int)-1)).toNat]?).getD 0
theorem Zkf{live:List Nat}(hp:0<live.length)(w:Int):live[(Q0 w ((live.length:Int)-1)).toNat]?=some (pkH live w):=by
 have:=Qc (x:=w) (n:=(live.length:Int)-1) (by omega)
 unfold pkH
 rw[jE (by omega)];rfl
def lmF(live l:List Nat)(w:Int):List Nat:=if pkH live w∈l then l else l++[pkH live w]
def lmL(live:List Nat)(ws:List Int):List Nat:=ws.foldl (lmF live) []
theorem Zor(live:List Nat)(ws:List Int)(w:Int):lmL live (ws++[w])=lmF live (lmL live ws) w:=by simp[lmL]
theorem Zos{live:List Nat}(hp:0<live.length)(ws:List Int):(lmL live ws).Nodup/\(∀o∈lmL live ws,o∈live)/\(lmL live ws).length<=ws.length:=by
 unfold lmL
 suffices h:∀(ws:List Int) (l:List Nat),l.Nodup->(∀o∈l,o∈live)->(ws.foldl (lmF live) l).Nodup/\(∀o∈ws.foldl (lmF live) l,o∈live)/\(ws.foldl (lmF live) l).length<=l.length+ws.length by
  have:=h ws [] .nil (by simp)
  simpa using this
 intro ws
 induction ws with
 | nil=>intro l h1 h2;exact⟨h1,h2,by simp⟩
 | cons w ws ih =>
  intro l h1 h2;have hm:=jM (Zkf hp w)
  have h3:(lmF live l w).Nodup/\(∀o∈lmF live l w,o∈live)/\(lmF live l w).length<=l.length+1:=by
   unfold lmF
   split
   ·exact⟨h1,h2,by omega⟩
   ·rename_i hn
    refine⟨?_,fun o ho=>?_,by simp⟩
    ·rw[List.nodup_append]
     exact⟨h1,by simp,fun a ha b hb e=>by rw[List.mem_singleton]at hb;subst hb;subst e;exact hn ha⟩
    ·rcases List.mem_append.1 ho with q|q
     ·exact h2 o q
     ·rw[List.mem_singleton]at q;rw[q];exact hm
  obtain⟨a,b,c⟩:=ih (lmF live l w) h3.1 h3.2.1;rw[List.foldl_cons]
  exact⟨a,b,by rw[List.length_cons];have:=h3.2.2;omega⟩
theorem Zot{X:List Blk}{ros:List Ro}{which:List Int}{v3:AV}(hlen:ros.length=n)(hpos:0<n)(hn20:n<=20)(hw:which.length<=10)(z6:∀T,(X++T)[6]?=some (.arr 5 n (ros.map Ro.av)))
 (hQ:Rk (S TZ) k Q .norm [(2,.lit (which.map (.int .i64))),(3,v3),(9,.ptr A.length 5 0 0 0),(10,.ref A.length 6 n 0 n),(13,.ref A.length X.length which.length 0 which.length),(14,.int .i64 which.length),(62,.bool false)] ⟨A,false,X++[.arr 5 which.length ((which.map (pkR ros)).map Ro.av)]⟩) :
 Ru (S TZ) p_quartolaw22_ReachParts_11.loop (.blk 0::k) Q [(2,.lit (which.map (.int .i64))),(3,v3),(9,.ptr A.length 5 0 0 0),(10,.ref A.length 6 n 0 n),(13,.ref A.length X.length 0 0 0),(14,.int .i64 0)] ⟨A,false,X++[.arr 5 0 []]⟩:=by
 refine Zt (α:=Nat) (fun i=>[(2,.lit (which.map (.int .i64))),(3,v3),(9,.ptr A.length 5 0 0 0),(10,.ref A.length 6 n 0 n),(13,.ref A.length X.length i 0 i),(14,.int .i64 i)]) (fun i=>⟨A,false,X++[.arr 5 i (((which.take i).map (pkR ros)).map Ro.av)]⟩) (fun i=>i<=which.length) (fun i=>which.length-i) 0 Y Y (Nat.zero_le _) ?_
 intro i hi
 rcases Nat.lt_or_ge i which.length with hlt|hge
 ·obtain⟨w,hwi⟩:∃a,which[i]?=some a:=⟨which[i]'hlt,jE _⟩
  have q:0<=((i:Nat):Int)/\which[((i:Nat):Int).toNat]?=some w:=⟨by omega,by rw[show ((i:Nat):Int).toNat=i by omega];exact hwi⟩
  have hpb:=Qc (x:=w) (n:=(n:Int)-1) (by omega)
  have hPk:=fun st=>ZaV (ZoX w ((n:Int)-1) (by omega) (by omega) st)
  have hget:=Zke (ros:=ros) (by omega) w
  rw[hlen]at hget
  have ht:(which.take (i+1)).map (pkR ros)=(which.take i).map (pkR ros)++[pkR ros w]:=by rw[ZW hwi,List.map_append];rfl
  have hes:(((which.take i).map (pkR ros)).map Ro.av).length=i:=by simp;omega
  generalize pkR ros w=x at *
  generalize ((which.take i).map (pkR ros))=es0 at *
  generalize Q0 w ((n:Int)-1)=z at *
  have g1:(ros.map Ro.av)[0+z.toNat]?=some x.av:=by rw[Nat.zero_add,jG,hget];rfl
  have sR:∀(b:Nat) (st:St),ZZ QD b st x.av=some (x.av,st):=fun b st=>by cases x;rfl
  have wR:x.av.wide=some 5:=by cases x;rfl
  repeat'(first|refine JG Y ?_|refine QY (f:=AV.int .i64) Y Y q (fun _=>rfl) ?_|refine ZMr Y Y (by omega) (z6 _) ?_|refine ZV Y (z6 _) g1 (ZgC _) ?_|refine ZiD Y Y Y hes.symm (by omega) (by decide) wR (sR _ _) ?_|refine ZE ?_|refine ZD ?_|refine ZF Y ?_|refine QB Y ?_|refine Zl Y Y Y Y ?_|refine ZB Y ?_|refine ZC ?_|refine Qf Y ?_|refine QF Y Y ?_|(refine cm0 Y Y Y ?_ ?_<;>intro _<;>try omega)|refine ZS Y ?_|refine Zj Y Y (by omega) ?_|refine YE Y Y (by omega) ?_|refine QX Y Y Y Y ?_|refine ZA Y Y Y (hPk _) ?_|refine ZI ?_|refine ZJ ?_|refine Zz ?_|refine Z7 ?_)
  all_goals try first|contradiction|omega
  all_goals exact⟨i+1,⟨rfl,by rw[ht,List.map_append];rfl⟩,by omega,by omega⟩
 ·obtain rfl:i=which.length:=by omega
  rw[List.take_length]
  repeat'(first|refine JG Y ?_|refine ZE ?_|refine ZD ?_|refine ZF Y ?_|refine Q6 Y Y ?_|refine Zl Y Y Y Y ?_|refine ZB Y ?_|refine ZC ?_|(refine cm0 Y Y Y ?_ ?_<;>intro _<;>try omega)|refine ZG Y ?_|refine Zo ?_|refine Zc ?_|refine Za Y ?_|refine Zk ?_)
  all_goals try omega
  all_goals exact hQ
theorem Zou{X:List Blk}{live:List Nat}{retire:List Int}{v13:AV}(hlen:live.length<=16384)(hpos:0<live.length)(hw:retire.length<=40)
 (hQ:Rk (S TZ) k Q .norm [(3,.lit (retire.map (.int .i64))),(9,.ptr A.length 5 0 0 0),(13,v13),(15,.ref A.length X.length (lmL live retire).length 0 (lmL live retire).length),(16,.lit (live.map Z1)),(17,.int .i64 retire.length),(89,.bool false)] ⟨A,false,X++[.arr 1 (lmL live retire).length ((lmL live retire).map Z1)]⟩) :
 Ru (S TZ) p_quartolaw22_ReachParts_20.loop (.blk 2::k) Q [(3,.lit (retire.map (.int .i64))),(9,.ptr A.length 5 0 0 0),(13,v13),(15,.ref A.length X.length 0 0 0),(16,.lit (live.map Z1)),(17,.int .i64 0)] ⟨A,false,X++[.arr 1 0 []]⟩:=by
 refine Zt (α:=Nat) (fun i=>[(3,.lit (retire.map (.int .i64))),(9,.ptr A.length 5 0 0 0),(13,v13),(15,.ref A.length X.length (lmL live (retire.take i)).length 0 (lmL live (retire.take i)).length),(16,.lit (live.map Z1)),(17,.int .i64 i)]) (fun i=>⟨A,false,X++[.arr 1 (lmL live (retire.take i)).length ((lmL live (retire.take i)).map Z1)]⟩) (fun i=>i<=retire.length) (fun i=>retire.length-i) 0 Y Y (Nat.zero_le _) ?_
 intro i hi
 rcases Nat.lt_or_ge i retire.length with hlt|hge
 ·obtain⟨w,hwi⟩:∃a,retire[i]?=some a:=⟨retire[i]'hlt,jE _⟩
  have q:0<=((i:Nat):Int)/\retire[((i:Nat):Int).toNat]?=some w:=⟨by omega,by rw[show ((i:Nat):Int).toNat=i by omega];exact hwi⟩
  have hpb:=Qc (x:=w) (n:=(live.length:Int)-1) (by omega)
  have hPk:=fun st=>ZaV (ZoX w ((live.length:Int)-1) (by omega) (by omega) st)
  have hget:=Zkf hpos w
  have ht:lmL live (retire.take (i+1))=lmF live (lmL live (retire.take i)) w:=by rw[ZW hwi,Zor]
  have hle:=(Zos hpos (retire.take i)).2.2;rw[List.length_take]at hle;unfold lmF at ht
  generalize lmL live (retire.take i)=lm at *
  generalize pkH live w=h at *
  generalize Q0 w ((live.length:Int)-1)=z at *
  have q2:0<=z/\live[z.toNat]?=some h:=⟨hpb.1,hget⟩
  have hH:=ZaV (ZkY (st:=⟨A,false,X++[.arr 1 lm.length (lm.map Z1)]⟩) (lv:=A.length) (ix:=X.length) (ver:=lm.length) (l:=lm) (n:=lm.length) rfl (by rw[St.get_cur,List.getElem?_concat_length];rfl) (by omega) h)
  by_cases hm:h∈lm
  ·rw[if_pos hm]at ht
   rw[decide_eq_true hm]at hH
   repeat'(first|refine JG Y ?_|refine QY (f:=AV.int .i64) Y Y q (fun _=>rfl) ?_|refine QY (f:=Z1) Y Y q2 (fun _=>rfl) ?_|refine ZE ?_|refine ZD ?_|refine ZF Y ?_|refine QB Y ?_|refine Zl Y Y Y Y ?_|refine ZB Y ?_|refine ZC ?_|refine QF Y Y ?_|(refine cm0 Y Y Y ?_ ?_<;>intro _<;>try omega)|refine ZS Y ?_|refine ZG Y ?_|refine JW Y Y ?_|refine Zj Y Y (by omega) ?_|refine YE Y Y (by omega) ?_|refine ZA Y Y Y (hPk _) ?_|refine ZA Y Y Y (hH) ?_|refine ZI ?_|refine ZJ ?_|refine Zz ?_|refine Z7 ?_)
   all_goals try first|contradiction|omega
   all_goals exact⟨i+1,⟨by rw[ht];rfl,by rw[ht]⟩,by omega,by omega⟩
  ·rw[if_neg hm]at ht
   rw[decide_eq_false hm]at hH
   have hl1:(lm.map Z1).length=lm.length:=List.length_map ..
   repeat'(first|refine JG Y ?_|refine QY (f:=AV.int .i64) Y Y q (fun _=>rfl) ?_|refine QY (f:=Z1) Y Y q2 (fun _=>rfl) ?_|refine ZiD Y Y Y hl1.symm (by omega) (by decide) Y Y ?_|refine ZE ?_|refine ZD ?_|refine ZF Y ?_|refine QB Y ?_|refine Zl Y Y Y Y ?_|refine ZB Y ?_|refine ZC ?_|refine QF Y Y ?_|(refine cm0 Y Y Y ?_ ?_<;>intro _<;>try omega)|refine ZS Y ?_|refine JW Y Y ?_|refine Zj Y Y (by omega) ?_|refine YE Y Y (by omega) ?_|refine QX Y Y Y Y ?_|refine ZA Y Y Y (hPk _) ?_|refine ZA Y Y Y (hH) ?_|refine ZI ?_|refine ZJ ?_|refine Zz ?_|refine Z7 ?_)
   all_goals try first|contradiction|omega
   all_goals exact⟨i+1,⟨by rw[ht,lL];rfl,by rw[ht,lL,List.map_append];rfl⟩,by omega,by omega⟩
 ·obtain rfl:i=retire.length:=by omega
  rw[List.take_length]
  repeat'(first|refine JG Y ?_|refine ZE ?_|refine ZD ?_|refine ZF Y ?_|refine Q6 Y Y ?_|refine Zl Y Y Y Y ?_|refine ZB Y ?_|refine ZC ?_|(refine cm0 Y Y Y ?_ ?_<;>intro _<;>try omega)|refine ZG Y ?_|refine Zo ?_|refine Zc ?_|refine Za Y ?_|refine Zk ?_)
  all_goals try omega
  all_goals exact hQ
theorem Zov{L:List Blk}{r:AR}{ins live:List Nat}{v19:AV}(hok:RpOk r ck ins lm live)(hn:live.Nodup)(gl:L[jx]?=some (.arr 1 lm.length (lm.map Z1)))
 (hQ:Rk (S TZ) k Q .norm [(15,.ref A.length jx lm.length 0 lm.length),(16,.lit (live.map Z1)),(19,v19),(21,.lit (ins.map Z1)),(23,.lit ((Yp ck lm live).map Z1)),(26,.int .i64 (YV ck lm).length),(27,.int .i64 live.length),(191,.bool false)] ⟨A,false,L⟩) :
 Ru (S TZ) p_quartolaw22_ReachParts_44.loop (.blk 4::k) Q [(15,.ref A.length jx lm.length 0 lm.length),(16,.lit (live.map Z1)),(19,v19),(21,.lit (ins.map Z1)),(23,.lit ((Yp ck lm live).map Z1)),(26,.int .i64 0),(27,.int .i64 0)] ⟨A,false,L⟩:=by
 obtain⟨s1,s2,s3,s4,s5⟩:=hok.small;have hln:=hok.ln;have hbt:=hok.btw
 obtain⟨p,hp⟩:∃p:Nat->Bool,p=fun o=>decide (o∉ck/\o∈lm):=⟨_,rfl⟩
 rw[<- hp]at hbt
 refine Zt (α:=Nat) (fun i=>[(15,.ref A.length jx lm.length 0 lm.length),(16,.lit (live.map Z1)),(19,v19),(21,.lit (ins.map Z1)),(23,.lit ((Yp ck lm live).map Z1)),(26,.int .i64 ((live.take i).filter p).length),(27,.int .i64 i)]) (fun i=>⟨A,false,L⟩) (fun i=>i<=live.length) (fun i=>live.length-i) 0 Y Y (Nat.zero_le _) ?_
 intro i hi
 rcases Nat.lt_or_ge i live.length with hlt|hge
 ·obtain⟨a,ha⟩:∃a,live[i]?=some a:=⟨live[i]'hlt,jE _⟩
  have q:0<=((i:Nat):Int)/\live[((i:Nat):Int).toNat]?=some a:=⟨by omega,by rw[show ((i:Nat):Int).toNat=i by omega];exact ha⟩
  have hal:=jM ha
  have h1:=fun st=>ZaV (ZkZ ins (by omega) a st)
  have h2:=ZaV (ZkY (st:=⟨A,false,L⟩) (lv:=A.length) (ix:=jx) (ver:=lm.length) (l:=lm) (n:=lm.length) rfl (by rw[St.get_cur,gl];rfl) (by omega) a)
  have h3:=fun st=>ZaV (ZkZ (Yp ck lm live) (by omega) a st)
  have hs:=Zoq (p:=p) ha
  have hpa:p a=decide (a∉ck/\a∈lm):=by rw[hp]
  have hfl:=Zqx (p:=p) (l:=live) (i:=i)
  have hlo:a∈Yp ck lm live↔a∉ck/\a∉lm:=by
   unfold Yp YV;simp only[List.mem_filter,decide_eq_true_eq]
   constructor
   ·rintro⟨⟨_,h⟩,h'⟩;exact⟨h,fun h''=>h' ⟨h'',h⟩⟩
   ·rintro⟨h,h'⟩;exact⟨⟨hal,h⟩,fun h''=>h' h''.1⟩
  have e1:=hok.mem a
  have hml:((live.take i).filter p).length<=16384:=by omega
  generalize Yp ck lm live=lost at *
  clear hbt hp
  generalize ((live.take i).filter p).length=m at *
  by_cases c1:a∈ck
  ·rw[decide_eq_true (e1.2 c1)]at h1
   rw[decide_eq_false (fun h=>(hlo.1 h).1 c1)]at h3
   rw[hpa,if_neg (by simp[c1])]at hs
   repeat'(first|refine JG Y ?_|refine QY (f:=Z1) Y Y q (fun _=>rfl) ?_|refine ZE ?_|refine ZD ?_|refine ZF Y ?_|refine ZB Y ?_|refine ZC ?_|refine QF Y Y ?_|(refine cm0 Y Y Y ?_ ?_<;>intro _<;>try omega)|refine ZS Y ?_|refine ZG Y ?_|refine Zj Y Y (by omega) ?_|refine ZA Y Y Y (h1 _) ?_|refine ZA Y Y Y (h3 _) ?_|refine ZI ?_|refine ZJ ?_|refine Zz ?_|refine Z7 ?_)
   all_goals try first|contradiction|omega
   all_goals exact⟨i+1,⟨by rw[hs];rfl,rfl⟩,by omega,by omega⟩
  ·rw[decide_eq_false (fun h=>c1 (e1.1 h))]at h1
   by_cases c2:a∈lm
   ·rw[decide_eq_true c2]at h2
    rw[decide_eq_false (fun h=>(hlo.1 h).2 c2)]at h3
    rw[hpa,if_pos (by simp[c1,c2])]at hs
    repeat'(first|refine JG Y ?_|refine QY (f:=Z1) Y Y q (fun _=>rfl) ?_|refine ZE ?_|refine ZD ?_|refine ZF Y ?_|refine ZB Y ?_|refine ZC ?_|refine QF Y Y ?_|(refine cm0 Y Y Y ?_ ?_<;>intro _<;>try omega)|refine ZS Y ?_|refine ZG Y ?_|refine Zj Y Y (by omega) ?_|refine ZA Y Y Y (h1 _) ?_|refine ZA Y Y Y (h2) ?_|refine ZA Y Y Y (h3 _) ?_|refine ZI ?_|refine ZJ ?_|refine Zz ?_|refine Z7 ?_)
    all_goals try first|contradiction|omega
    all_goals exact⟨i+1,⟨by rw[hs];rfl,rfl⟩,by omega,by omega⟩
   ·rw[decide_eq_false c2]at h2
    rw[decide_eq_true (hlo.2 ⟨c1,c2⟩)]at h3
    rw[hpa,if_neg (by simp[c2])]at hs
    repeat'(first|refine JG Y ?_|refine QY (f:=Z1) Y Y q (fun _=>rfl) ?_|refine ZE ?_|refine ZD ?_|refine ZF Y ?_|refine ZB Y ?_|refine ZC ?_|refine QF Y Y ?_|(refine cm0 Y Y Y ?_ ?_<;>intro _<;>try omega)|refine ZS Y ?_|refine ZG Y ?_|refine Zj Y Y (by omega) ?_|refine ZA Y Y Y (h1 _) ?_|refine ZA Y Y Y (h2) ?_|refine ZA Y Y Y (h3 _) ?_|refine ZI ?_|refine ZJ ?_|refine Zz ?_|refine Z7 ?_)
    all_goals try first|contradiction|omega
    all_goals exact⟨i+1,⟨by rw[hs];rfl,rfl⟩,by omega,by omega⟩
 ·obtain rfl:i=live.length:=by omega
  rw[List.take_length,hbt]
  repeat'(first|refine JG Y ?_|refine ZE ?_|refine ZD ?_|refine ZF Y ?_|refine ZB Y ?_|refine ZC ?_|(refine cm0 Y Y Y ?_ ?_<;>intro _<;>try omega)|refine ZG Y ?_|refine Zo ?_|refine Zc ?_|refine Za Y ?_|refine Zk ?_)
  all_goals try omega
  all_goals exact hQ
def ZWA:PC:=(D XC (D XD (D XE (D (D XF (E 140 (D XG .ret) .skip)) (D XH (D (D XI (E 187 (D XJ .ret) .skip)) (D XK (D (D XL (.block 4 (.loop p_quartolaw22_ReachParts_44))) (D XM .ret)))))))))
def ZWB:PC:=(D Y9 (D XA (D (D XB (.block 2 (.loop p_quartolaw22_ReachParts_20))) ZWA)))
def Zac(st:St):YD:=fun x e s=>Qj false [.s 8] (x,e,s)=some (.bool true,st)
theorem ZiE(hA:A=st.A++[(st.ro,st.L)]){L0:List Blk}{r:AR}{rs:List Ro}{v3 v17 v89:AV}(ho:AROk r)(hg:GoodN r.nodes)(hk:KdP r)(hnn:r.nodes.length+r.n=1500)(hsl:r.slots=1500/\r.states.length=1500)
 (hrs:∀x∈rs,RtOk r.nodes x) (hrl:rs.length<=100) (hn:lm.Nodup) (hlm:∀o∈lm,o∈Zs r) (hH:∀T,HasR ⟨A,false,L0++T⟩ A.length 0 r) (g:∀T,(L0++T)[ix]?=some (.arr 5 rs.length (rs.map Ro.av))) (gl:∀T,(L0++T)[jx]?=some (.arr 1 lm.length (lm.map Z1))) :
 Ru (S TZ) ZWA [] (Zac st) [(3,v3),(9,.ptr A.length 5 0 0 0),(13,.ref A.length ix rs.length 0 rs.length),(15,.ref A.length jx lm.length 0 lm.length),(16,.lit ((Zs r).map Z1)),(17,v17),(89,v89)] ⟨A,false,L0++[]⟩:=by
 have gs:∀T,St.get ⟨A,false,L0++T⟩ A.length ix=some (.arr 5 rs.length (rs.map Ro.av)):=fun T=>by rw[St.get_cur,g];rfl
 have gsl:∀T,St.get ⟨A,false,L0++T⟩ A.length jx=some (.arr 1 lm.length (lm.map Z1)):=fun T=>by rw[St.get_cur,gl];rfl
 have hok:=Zop ho hg hrs hn hlm
 have hall:=Zoo ho hk (by omega)
 have hfl:=AR.free_len ho.nb
 have hWk:=fun st=>upZ (Zdy st)
 have hAu:=fun T=>Zlr (b:=0) ho hg (hH T) hrs hrl (gs T) hn hlm (gsl T)
 have hLe:=fun T=>ZjZ (b:=0) ho hg (hH T) hrs hrl (gs T) hn hlm (gsl T)
 have hSe:=fun T=>upZ (ZsP (b:=0) hg ho.h64 ho.lv (hH T).rd hrs hrl (gs T))
 have hSt:=fun T=>ZaV (ZV5 (hH T) ho.nb ho.n16 (by have:=ho.nn;have:=ho.n16;omega))
 have hlv:=ZgE ho
 have hlp:=fun v19 k Q L hL hQ=>Zov (A:=A) (L:=L) (jx:=jx) (v19:=v19) hok hlv hL (k:=k) (Q:=Q) hQ
 obtain⟨s1,s2,s3,s4,s5⟩:=hok.small;have hsum:=hok.sum;have hln:=hok.ln;have hnn2:=ho.nn;have hsl1:=hsl.1;have hsl2:=hsl.2;clear hok hk;unfold AR.statsAV at hSt;unfold Zon at hAu;rw[hsl1]at hSt
 generalize Zs r=live at *
 generalize Yp (ZAx r rs) lm live=lost at *
 generalize YV (ZAx r rs) lm=wait at *
 generalize atL r.nodes 1 rs=ins at *
 generalize ZAx r rs=ck at *
 generalize (Js r.states 2).length=wd at *
 generalize r.free.length=fl at *
 subst hfl
 generalize hrn:r.n=fl at *
 generalize r.nodes.length=nl at *
 generalize r.allocs=al at *
 generalize r.frees=fr at *
 generalize r.stale=sta at *
 unfold ZWA
 repeat'(first|refine Yy (L0:=L0) Y Y Y Y Y ?_|refine ZMP (L0:=L0) Y Y Y Y Y Y Y ?_|refine ZAU (L0:=L0) Y Y Y Y ?_|refine JG Y ?_|refine hlp _ _ _ _ (gl _) ?_|refine ZE ?_|refine ZD ?_|refine ZF Y ?_|refine ZU Y Y ?_|refine QB Y ?_|refine Zl Y Y Y Y ?_|refine Zr Y Y ?_|refine ZB Y ?_|refine ZC ?_|(refine cm0 Y Y Y ?_ ?_<;>intro _<;>try omega)|refine ZG Y ?_|refine Zj Y Y (by omega) ?_|refine ZA Y Y Y (hAu []) ?_|refine ZA Y Y Y (hWk _) ?_|refine ZA Y Y Y (hSe [_]) ?_|refine ZA Y Y Y (hLe [_]) ?_|refine ZA Y Y Y (hSt [_]) ?_|refine ZI ?_|refine ZP ?_|refine ZJ ?_|refine ZL ?_)
 all_goals try first|contradiction|omega
 all_goals unfold Zac
 all_goals first|contradiction|omega|(refine Zf hA (by simp) Y Y Y Y ?_;rfl)
theorem Zja{texts:List B8}{ys:List Ed}(h:¬ ZD9 texts ys):(texts.flatten.length<=900/\texts.length<=4)/\ys.length<=12/\∀y∈ys,y.text.length<=200:=by
 have h1:¬ ZSr texts:=fun q=>h (.inl q)
 have h2:¬ ZaO ys:=fun q=>h (.inr (.inl q))
 have h3:¬ 12<ys.length:=fun q=>h (.inr (.inr q))
 obtain⟨a,b,c⟩:=Zrv h1 h2
 exact⟨a,by omega,c⟩
theorem ZiF(hA:A=st.A++[(st.ro,st.L)]){X:List Blk}{r:AR}{rs:List Ro}{retire:List Int}{v2 v10 v14 v62:AV}(ho:AROk r)(hg:GoodN r.nodes)(hk:KdP r)(hnn:r.nodes.length+r.n=1500)(hsl:r.slots=1500/\r.states.length=1500)
 (hrs:∀x∈rs,RtOk r.nodes x) (hrl:rs.length<=100) (hre:retire.length<=40) (hX:∀T,HasR ⟨A,false,X++T⟩ A.length 0 r) :
 Ru (S TZ) ZWB [] (Zac st) [(2,v2),(3,.lit (retire.map (.int .i64))),(9,.ptr A.length 5 0 0 0),(10,v10),(13,.ref A.length X.length rs.length 0 rs.length),(14,v14),(62,v62)] ⟨A,false,X++[.arr 5 rs.length (rs.map Ro.av)]⟩:=by
 have hY:∀T,HasR ⟨A,false,(X++[.arr 5 rs.length (rs.map Ro.av)])++T⟩ A.length 0 r:=fun T=>by rw[List.append_assoc];exact hX _
 have gY:∀T,((X++[.arr 5 rs.length (rs.map Ro.av)])++T)[X.length]?=some (.arr 5 rs.length (rs.map Ro.av)):=fun T=>by rw[List.append_assoc];exact QS (i:=0)
 have hlen:=ZCY ho
 generalize hix:X.length=ix at *
 generalize X++[Blk.arr 5 rs.length (rs.map Ro.av)]=Y' at *
 clear hix hX
 have hHd:=fun T=>ZaV (ZaT (hY T) ho)
 rcases Nat.eq_zero_or_pos (Zs r).length with hz|hp
 ·have ht2:=fun v3 v17 v89=>ZiE (v3:=v3) (v17:=v17) (v89:=v89) hA (L0:=Y'++[.arr 1 0 []]) (ix:=ix) (jx:=Y'.length) (lm:=[]) ho hg hk hnn hsl hrs hrl .nil (by simp) (fun T=>by rw[List.append_assoc];exact hY _) (fun T=>by rw[List.append_assoc];exact gY _) (fun T=>by rw[List.append_assoc];exact QS (i:=0))
  simp only[lN]at ht2
  change ∀v3 v17 v89,Ru (S TZ) ZWA [] (Zac st) [(3,v3),(9,.ptr A.length 5 0 0 0),(13,.ref A.length ix rs.length 0 rs.length),(15,.ref A.length Y'.length 0 0 0),(16,.lit ((Zs r).map Z1)),(17,v17),(89,v89)] ⟨A,false,Y'++[.arr 1 0 []]⟩ at ht2
  generalize Zs r=live at *
  unfold ZWB
  repeat'(first|refine ZE7 ?_|refine ZE ?_|refine ZD ?_|refine ZF Y ?_|refine ZB Y ?_|refine ZC ?_|refine ZA Y Y Y (hHd _) ?_|refine ZJ ?_)
  all_goals try first|contradiction|omega
  refine Zt (α:=Nat) (fun i=>[(3,.lit (retire.map (.int .i64))),(9,.ptr A.length 5 0 0 0),(13,.ref A.length ix rs.length 0 rs.length),(15,.ref A.length Y'.length 0 0 0),(16,.lit (live.map Z1)),(17,.int .i64 0)]) (fun i=>⟨A,false,Y'++[.arr 1 0 []]⟩) (fun i=>True) (fun i=>0) 0 Y Y trivial ?_
  intro i _
  repeat'(first|exact ht2 _ _ _|refine JG Y ?_|refine ZE ?_|refine ZD ?_|refine ZF Y ?_|refine QB Y ?_|refine Q6 Y Y ?_|refine Zl Y Y Y Y ?_|refine ZB Y ?_|refine ZC ?_|(refine cm0 Y Y Y ?_ ?_<;>intro _<;>try omega)|refine ZG Y ?_|refine Zo ?_|refine Zc ?_|refine Za Y ?_|refine Zk ?_)
  all_goals try first|contradiction|omega
 ·obtain⟨m1,m2,m3⟩:=Zos hp retire
  have ht2:=fun v3 v17 v89=>ZiE (v3:=v3) (v17:=v17) (v89:=v89) hA (L0:=Y'++[.arr 1 (lmL (Zs r) retire).length ((lmL (Zs r) retire).map Z1)]) (ix:=ix) (jx:=Y'.length) (lm:=lmL (Zs r) retire) ho hg hk hnn hsl hrs hrl m1 m2 (fun T=>by rw[List.append_assoc];exact hY _) (fun T=>by rw[List.append_assoc];exact gY _) (fun T=>by rw[List.append_assoc];exact QS (i:=0))
  simp only[lN]at ht2
  have hlp:=fun v13 k Q hQ=>Zou (A:=A) (X:=Y') (v13:=v13) hlen hp hre (k:=k) (Q:=Q) hQ
  generalize lmL (Zs r) retire=lm at *
  generalize Zs r=live at *
  unfold ZWB
  repeat'(first|exact ht2 _ _ _|refine ZE7 ?_|refine hlp _ _ _ ?_|refine ZE ?_|refine ZD ?_|refine ZF Y ?_|refine ZB Y ?_|refine ZC ?_|refine ZA Y Y Y (hHd _) ?_|refine ZJ ?_)
  all_goals try first|contradiction|omega
theorem ZgF(texts:List B8)(ys:List Ed)(which retire:List Int)(hb:texts.length<9223372036854775808)(hbs:∀s∈texts,s.length<9223372036854775808)(hy:ys.length<9223372036854775808)(hys:∀y∈ys,y.text.length<9223372036854775808)(st:St):
 S TZ QG [.lit (texts.map .str),.lit (ys.map Ed.av),.lit (which.map (.int .i64)),.lit (retire.map (.int .i64))] st=some (.bool true,st):=by
 refine QK (leZ QG (.pf QN) (leX QG (.pf QN) (leW QG (.pf QN) (leV QG (.pf QN) (le3 QG (.pf QN) Y))))) (fun A hA=>?_)
 have hBy:=fun st=>ZaV (ZoW texts ys hb hbs hy hys st)
 have hWk:=fun st=>upZ (Zdy st)
 by_cases hl:ZD9 texts ys
 ·simp only[decide_eq_true hl]at hBy
  repeat'(first|refine ZE ?_|refine ZD ?_|refine ZF Y ?_|refine Q6 Y Y ?_|refine Zl Y Y Y Y ?_|refine ZB Y ?_|refine ZC ?_|refine ZS Y ?_|refine ZA Y Y Y (hBy _) ?_|refine ZA Y Y Y (hWk _) ?_|refine ZP ?_|refine ZL ?_|refine Zb ?_)
  all_goals try first|contradiction|omega
  all_goals refine Zf hA (by simp) Y Y Y Y ?_
  all_goals rfl
 simp only[decide_eq_false hl]at hBy
 by_cases h10:10<which.length
 ·repeat'(first|refine JG Y ?_|refine ZE ?_|refine ZD ?_|refine ZF Y ?_|refine QB Y ?_|refine Q6 Y Y ?_|refine Zl Y Y Y Y ?_|refine ZB Y ?_|refine ZC ?_|(refine cm0 Y Y Y ?_ ?_<;>intro _<;>try omega)|refine ZS Y ?_|refine ZA Y Y Y (hBy _) ?_|refine ZA Y Y Y (hWk _) ?_|refine ZP ?_|refine ZL ?_|refine Zb ?_)
  all_goals try first|contradiction|omega
  all_goals refine Zf hA (by simp) Y Y Y Y ?_
  all_goals rfl
 by_cases h40:40<retire.length
 ·repeat'(first|refine JG Y ?_|refine ZE ?_|refine ZD ?_|refine ZF Y ?_|refine QB Y ?_|refine Zl Y Y Y Y ?_|refine ZB Y ?_|refine ZC ?_|(refine cm0 Y Y Y ?_ ?_<;>intro _<;>try omega)|refine ZS Y ?_|refine ZA Y Y Y (hBy _) ?_|refine ZA Y Y Y (hWk _) ?_|refine ZP ?_|refine ZL ?_|refine Zb ?_)
  all_goals try first|contradiction|omega
  all_goals refine Zf hA (by simp) Y Y Y Y ?_
  all_goals rfl
 obtain⟨h9,h12,hy2⟩:=Zja hl;obtain⟨v,st',hMk,r,c,ros,ss,G0,G1,n,rfl,rfl,hI⟩:=Zrx texts ys h9 h12 hy2 A;have hMk:=ZaV hMk;have hn20:=hI.n20;have hlen:=hI.len;have f6:(ltL A.length r n ros G0 c ss G1)[6]?=_:=Zru;have hHas:=ZaP (A:=A) (r:=r) (v:=n) (ros:=ros) (G0:=G0) (w:=c) (ss:=ss) (G1:=G1)
 generalize ltL A.length r n ros G0 c ss G1=X at *
 have hX6:6<X.length:=(List.getElem?_eq_some_iff.1 f6).1
 have hX:∀T,HasR ⟨A,false,X++T⟩ A.length 0 r:=fun T=>(hHas.app T).r
 have z6:∀T,(X++T)[6]?=some (.arr 5 n (ros.map Ro.av)):=fun T=>by rw[jL hX6];exact f6
 rcases Nat.eq_zero_or_pos n with hn0|hpos
 ·have ht1:=fun v2 v10 v14 v62=>ZiF (v2:=v2) (v10:=v10) (v14:=v14) (v62:=v62) hA (X:=X) (rs:=[]) (retire:=retire) hI.ok hI.good hI.kd hI.nl hI.sl (by simp) (by simp) (by omega) hX
  change ∀v2 v10 v14 v62,Ru (S TZ) ZWB [] (Zac st) [(2,v2),(3,.lit (retire.map (.int .i64))),(9,.ptr A.length 5 0 0 0),(10,v10),(13,.ref A.length X.length 0 0 0),(14,v14),(62,v62)] ⟨A,false,X++[.arr 5 0 []]⟩ at ht1
  clear hI;subst hn0
  repeat'(first|refine ZE7 ?_|refine JG Y ?_|refine ZE ?_|refine ZD ?_|refine ZF Y ?_|refine QB Y ?_|refine Zl Y Y Y Y ?_|refine Zr Y Y ?_|refine ZB Y ?_|refine ZC ?_|(refine cm0 Y Y Y ?_ ?_<;>intro _<;>try omega)|refine ZG Y ?_|refine JW Y Y ?_|refine ZA Y Y Y (hBy _) ?_|refine ZA Y Y Y (hMk) ?_|refine ZI ?_|refine ZJ ?_)
  all_goals try first|contradiction|omega
  refine Zt (α:=Nat) (fun i=>[(2,.lit (which.map (.int .i64))),(3,.lit (retire.map (.int .i64))),(9,.ptr A.length 5 0 0 0),(10,.ref A.length 6 0 0 0),(13,.ref A.length X.length 0 0 0),(14,.int .i64 0)]) (fun i=>⟨A,false,X++[.arr 5 0 []]⟩) (fun i=>True) (fun i=>0) 0 Y Y trivial ?_
  intro i _
  repeat'(first|exact ht1 _ _ _ _|refine JG Y ?_|refine ZE ?_|refine ZD ?_|refine ZF Y ?_|refine QB Y ?_|refine Q6 Y Y ?_|refine Zl Y Y Y Y ?_|refine ZB Y ?_|refine ZC ?_|refine Qf Y ?_|(refine cm0 Y Y Y ?_ ?_<;>intro _<;>try omega)|refine ZG Y ?_|refine Zo ?_|refine Zc ?_|refine Za Y ?_|refine Zk ?_)
  all_goals try first|contradiction|omega
 ·have hmem : ∀x ∈ which.map (pkR ros), RtOk r.nodes x := fun x hx => by
   obtain⟨w,_,rfl⟩:=List.mem_map.1 hx;have hsl:=hI.rts.1
   have hpb:=Qc (x:=w) (n:=(ros.length:Int)-1) (by omega)
   have hget:=Zke (ros:=ros) (by omega) w
   obtain⟨t,ht⟩:∃t,ss[(Q0 w ((ros.length:Int)-1)).toNat]?=some t:=⟨_,jE (by omega)⟩
   exact (hI.rts.2 _ _ t hget ht).rt
  have ht1:=fun v2 v10 v14 v62=>ZiF (v2:=v2) (v10:=v10) (v14:=v14) (v62:=v62) hA (X:=X) (rs:=which.map (pkR ros)) (retire:=retire) hI.ok hI.good hI.kd hI.nl hI.sl hmem (by rw[List.length_map];omega) (by omega) hX
  rw[List.length_map]at ht1
  have hlp:=fun v3 k Q hQ=>Zot (A:=A) (X:=X) (v3:=v3) hlen hpos hn20 (which:=which) (by omega) z6 (k:=k) (Q:=Q) hQ
  clear hI hmem
  repeat'(first|exact ht1 _ _ _ _|refine ZE7 ?_|refine hlp _ _ _ ?_|refine JG Y ?_|refine ZE ?_|refine ZD ?_|refine ZF Y ?_|refine QB Y ?_|refine Zl Y Y Y Y ?_|refine Zr Y Y ?_|refine ZB Y ?_|refine ZC ?_|(refine cm0 Y Y Y ?_ ?_<;>intro _<;>try omega)|refine ZG Y ?_|refine JW Y Y ?_|refine ZA Y Y Y (hBy _) ?_|refine ZA Y Y Y (hMk) ?_|refine ZI ?_|refine ZJ ?_)
  all_goals try first|contradiction|omega
end Go.Q15
namespace Go.QAbs
open Go.ChangeShapes Go.WideShapes Go.RowKit Go.Deep
variable {e:Env}{A:List (Bool × List Blk)}{k:List Fr}{ck l lm:List Nat}{i ix jx la lw n o ver w wer:Nat}{st:St}{Q:YD}
variable {P:Program}
def rho0:Rho:=⟨fun _ _=>⟨0,0,0⟩,fun _=>(0,[])⟩
theorem Zls(lv ix:Nat):St.empty.get lv ix=none:=by
 unfold St.empty St.get
 split<;>simp[vis]
theorem Zow{W:World}{b:Nat}{v:Value}(h:W.cell? ⟨b,o,none⟩=some v):(cx .empty rho0 W 0).im b o v :=
 ⟨h,fun ⟨lv,ix,w,ver,es,hg,_⟩=>by rw[Zls]at hg;simp at hg⟩
theorem walk_in(hm:P.follows .mixedOrders=true){T:Tab}(hT:TabOk P T){f:FuncId}{args:LV}(h:∃st',S T f args .empty=some (.bool true,st')){W:World}{xs:List Value}(hg:KG P W (.of W))(hx:RL (cx .empty rho0 W 0) args xs):
 Calls P f xs.toArray W fun e W'=>e=.returned (.bool true)/\Below W.heap.size W W':=by
 obtain⟨st',h⟩:=h
 refine (Zpm hm hT h hg (Zk4 W) hx).mono fun e' W' ⟨x,_,he,g,hv⟩=>?_
 subst he
 exact⟨by rw[YC hv],g.rel.below.b⟩
theorem ZgG{W:World}{b off len cap:Nat}(es:LV)(g:Nat->Value)(hlen:es.length=len)(hc:len<=cap)(he:∀(i:Nat) (e:AV),es[i]?=some e->QAbs.R (cx .empty rho0 W 0).pure e (g i))
 (hg:∀i,i<len->(g i).cells.size=w/\∀(j:Nat) (v:Value),(g i).cells[j]?=some v->W.cell? ⟨b,off+i*w+j,none⟩=some v):QAbs.R (cx .empty rho0 W 0) (.lit es) (.slice (some ⟨b,off,none⟩) len cap):=by
 subst hlen
 exact .lit (w:=w) g he (fun i hi=>⟨(hg i hi).1,fun j v hv=>Zow ((hg i hi).2 j v hv)⟩) hc
section
variable {H:Type}{enc:TypeId × Value->H}
theorem open_strs_arg{W:World}{base:Nat}{t e:TypeId}{v:Value}{d:DataW H}{ps:List MemPlace}(ht:P.underlying t=some (.slice e))(he:P.underlying e=some .string)(hc:P.cellsOf e=1)
 (hval:Value.okWide P W .any base t v) (h:DataW.Trod enc P W 0 (fun _=>true) true t v d ps) :
 ∃ss:List B8,(∀s∈ss,s.length<=maxLen)/\ss.length<=maxLen/\QAbs.R (cx .empty rho0 W 0) (.lit (ss.map .str)) v:=by
 obtain⟨a0,len,cap,rfl⟩:=okWide_slice ht hval;obtain⟨fuel,hf⟩:=h
 rcases open_strings ht he hc hf with⟨hcs,hx⟩|⟨a,len',cap',ss,hcs,_,hl,hm,hz,hx,hcell,hsz⟩
 ·refine⟨[],by simp,by simp,?_⟩
  have:(Value.slice a0 len cap)=.slice none 0 0:=by simpa [Value.cells] using hcs
  rw[this];exact .lit0 _ _
 ·have hv:(Value.slice a0 len cap)=.slice (some a) len' cap':=by simpa [Value.cells] using hcs
  rw[hv];simp only[if_true]at hz
  refine⟨(ss.take len').map (fun s=>s.data.toList),?_,?_,?_⟩
  ·intro s hs
   obtain⟨s',hs',rfl⟩:=List.mem_map.1 hs;rw[Array.length_toList];exact hsz s' (List.mem_of_mem_take hs')
  ·rw[List.length_map,List.length_take];omega
  ·cases len' with
   | zero=>exact .lit0 _ _
   | succ n =>
    obtain⟨b,off,spot⟩:=a
    have hspot:spot=none:=by simpa [Addr.add] using World.cell?_spot (hcell 0 (by omega))
    subst hspot
    refine ZgG (w:=1) _ (fun i=>.string (ss.getD i ByteArray.empty)) (by simp;omega) hl (fun i e he=>?_) (fun i hi=>⟨rfl,fun j v hv=>?_⟩)
    ·rw[jG,jG,List.getElem?_take]at he
     by_cases hi:i<n+1
     ·rw[if_pos hi]at he
      have hs:ss[i]?=some (ss.getD i ByteArray.empty):=by
       have:i<ss.length:=by omega
       simp[List.getD,this]
      rw[hs]at he;simp only[Option.map_some,oJ]at he;subst he;rw[Zmm (ss.getD i ByteArray.empty)];exact .str _
     ·rw[if_neg hi]at he;simp at he
    ·have hj : j = 0 := by
      have:j<(Value.string (ss.getD i ByteArray.empty)).cells.size:=(Array.getElem?_eq_some_iff.1 hv).1
      simp[Value.cells]at this;omega
     subst hj
     have hv':Value.string (ss.getD i ByteArray.empty)=v:=by simpa [Value.cells] using hv
     rw[<- hv']
     have:=hcell i (by omega)
     simpa [Addr.add_lit] using this
theorem open_ops_arg{W:World}{base:Nat}{t e t0 t1 t2 t3 t4:TypeId}{f0 f1 f2 f3 f4:Field}{v:Value}{d:DataW H}{ps:List MemPlace}(ht:P.underlying t=some (.slice e))(he:P.underlying e=some (.struct #[f0,f1,f2,f3,f4]))(hc:P.cellsOf e=5)
 (hf0:f0.type=t0/\f0.offset=0/\P.underlying t0=some (.int .u8)/\P.cellsOf t0=1) (hf1:f1.type=t1/\f1.offset=1/\P.underlying t1=some (.int .i64)/\P.cellsOf t1=1) (hf2:f2.type=t2/\f2.offset=2/\P.underlying t2=some (.int .i64)/\P.cellsOf t2=1)
 (hf3:f3.type=t3/\f3.offset=3/\P.underlying t3=some (.int .i64)/\P.cellsOf t3=1) (hf4:f4.type=t4/\f4.offset=4/\P.underlying t4=some .string/\P.cellsOf t4=1) (hval:Value.okWide P W .any base t v) (h:DataW.Trod enc P W 0 (fun _=>true) true t v d ps) :
 ∃l:List (Nat × Int × Int × Int × B8),(∀s∈l,s.2.2.2.2.length<=maxLen)/\l.length<=maxLen/\QAbs.R (cx .empty rho0 W 0) (.lit (l.map fun q=>.agg [.int .u8 q.1,.int .i64 q.2.1,.int .i64 q.2.2.1,.int .i64 q.2.2.2.1,.str q.2.2.2.2])) v:=by
 obtain⟨a0,len,cap,rfl⟩:=okWide_slice ht hval;obtain⟨fuel,hf⟩:=h
 rcases open_slice ht hf with⟨hcs,hx⟩|⟨a,len',cap',m,n,D,Pl,hcs,_,hl,hm,hmm,hx,hall⟩
 ·refine⟨[],by simp,by simp,?_⟩
  have:(Value.slice a0 len cap)=.slice none 0 0:=by simpa [Value.cells] using hcs
  rw[this];exact .lit0 _ _
 ·have hv:(Value.slice a0 len cap)=.slice (some a) len' cap':=by simpa [Value.cells] using hcs
  rw[hv];simp only[if_true]at hmm;subst hmm;rw[hc]at hall
  have each:∀i,i<len'->∃q:Nat × Int × Int × Int × B8,q.2.2.2.2.length<=maxLen/\W.cell? (a.add (i*5))=some (.int .u8 q.1)/\W.cell? (a.add (i*5+1))=some (.int .i64 q.2.1)/\W.cell? (a.add (i*5+2))=some (.int .i64 q.2.2.1)/\W.cell? (a.add (i*5+3))=some (.int .i64 q.2.2.2.1)/\W.cell? (a.add (i*5+4))=some (.string ⟨q.2.2.2.2.toArray⟩):=by
   intro i hi
   obtain⟨cs',h1,h2⟩:=hall i (by omega)
   obtain⟨_,hlen,hcell⟩:=World.cells?_some h1;obtain⟨xs,k,_,_,_,hxl,hfs⟩:=DataW.trod_struct he h2;have g0:=hfs 0 f0 rfl;have g1:=hfs 1 f1 rfl;have g2:=hfs 2 f2 rfl;have g3:=hfs 3 f3 rfl;have g4:=hfs 4 f4 rfl
   match cs',hlen,xs,hxl with
   | [c0,c1,c2,c3,c4],_,[y0,y1,y2,y3,y4],_ =>
    simp only[hf0.1,hf0.2.1,hf0.2.2.2,hf1.1,hf1.2.1,hf1.2.2.2,hf2.1,hf2.2.1,hf2.2.2.2,hf3.1,hf3.2.1,hf3.2.2.2,hf4.1,hf4.2.1,hf4.2.2.2,List.drop,List.take,List.getElem?_cons_zero,List.getElem?_cons_succ]at g0 g1 g2 g3 g4;obtain⟨n0,e0,_,w0⟩:=DataW.trod_int hf0.2.2.1 g0;obtain⟨n1,e1,_,_⟩:=DataW.trod_int hf1.2.2.1 g1;obtain⟨n2,e2,_,_⟩:=DataW.trod_int hf2.2.2.1 g2;obtain⟨n3,e3,_,_⟩:=DataW.trod_int hf3.2.2.1 g3;obtain⟨s,e4,_,hs⟩:=DataW.trod_string hf4.2.2.1 g4;simp only[List.cons.injEq,and_true]at e0 e1 e2 e3 e4;subst e0;subst e1;subst e2;subst e3;subst e4
    have hn0:0<=n0:=by
     simp only[Lit.wf,Bool.and_eq_true,decide_eq_true_eq]at w0;exact w0.1
    refine⟨(n0.toNat,n1,n2,n3,s.data.toList),by simp only[Array.length_toList];exact hs,?_,?_,?_,?_,?_⟩
    ·have:=hcell 0 (by omega)
     simp only[add_add,Nat.add_zero,List.getElem?_cons_zero]at this;rw[this];simp only[Int.toNat_of_nonneg hn0]
    ·have:=hcell 1 (by omega)
     simpa only [add_add,List.getElem?_cons_succ,List.getElem?_cons_zero] using this
    ·have:=hcell 2 (by omega)
     simpa only [add_add,List.getElem?_cons_succ,List.getElem?_cons_zero] using this
    ·have:=hcell 3 (by omega)
     simpa only [add_add,List.getElem?_cons_succ,List.getElem?_cons_zero] using this
    ·have:=hcell 4 (by omega)
     simp only[add_add,List.getElem?_cons_succ,List.getElem?_cons_zero]at this;rw[this,Zmm s]
  obtain⟨q,hq⟩:=choose_lt each
  refine⟨(List.range len').map q,?_,by simp;omega,?_⟩
  ·intro s hs
   obtain⟨i,hi,rfl⟩:=List.mem_map.1 hs;exact (hq i (List.mem_range.1 hi)).1
  ·cases len' with
   | zero=>exact .lit0 _ _
   | succ len' =>
    obtain⟨b,off,spot⟩:=a
    have hspot:spot=none:=by simpa [Addr.add] using World.cell?_spot (hq 0 (by omega)).2.1
    subst hspot
    refine ZgG (w:=5) _ (fun i=>.agg #[.int .u8 (q i).1,.int .i64 (q i).2.1,.int .i64 (q i).2.2.1,.int .i64 (q i).2.2.2.1,.string ⟨(q i).2.2.2.2.toArray⟩]) (by simp) hl (fun i e he=>?_) (fun i hi=>⟨by simp[Value.cells],fun j v hv=>?_⟩)
    ·rw[jG,jG]at he
     by_cases hi:i<len'+1
     ·rw[List.getElem?_range hi]at he
      simp only[Option.map_some,oJ]at he;subst he;have hr:=RL.cons (C:=(cx .empty rho0 W 0).pure) (.int .u8 ((q i).1:Int)) (.cons (.int .i64 (q i).2.1) (.cons (.int .i64 (q i).2.2.1) (.cons (.int .i64 (q i).2.2.2.1) (.cons (.str (q i).2.2.2.2) (.nil _)))));exact .agg (xs:=[_,_,_,_,_]) hr.1 hr.2
     ·have:(List.range (len'+1))[i]?=none:=by simp;omega
      rw[this]at he;simp at he
    ·obtain⟨_,k0,k1,k2,k3,k4⟩:=hq i hi
     have hj:j<5:=by
      have:=(Array.getElem?_eq_some_iff.1 hv).1
      simpa [Value.cells] using this
     simp only[Addr.add_lit]at k0 k1 k2 k3 k4
     match j,hj with
     | 0,_ =>
      have:v=.int .u8 (q i).1:=by simpa [Value.cells] using hv.symm
      subst this;simpa using k0
     | 1,_ =>
      have:v=.int .i64 (q i).2.1:=by simpa [Value.cells] using hv.symm
      subst this;simpa [Nat.add_assoc] using k1
     | 2,_ =>
      have:v=.int .i64 (q i).2.2.1:=by simpa [Value.cells] using hv.symm
      subst this;simpa [Nat.add_assoc] using k2
     | 3,_ =>
      have:v=.int .i64 (q i).2.2.2.1:=by simpa [Value.cells] using hv.symm
      subst this;simpa [Nat.add_assoc] using k3
     | 4,_ =>
      have:v=.string ⟨(q i).2.2.2.2.toArray⟩:=by simpa [Value.cells] using hv.symm
      subst this;simpa [Nat.add_assoc] using k4
end
end Go.QAbs
namespace Go.QAbs
open Go.ChangeShapes Go.WideShapes Go.RowKit Go.Deep
variable {e:Env}{A:List (Bool × List Blk)}{k:List Fr}{ck l lm:List Nat}{i ix jx la lw n o ver w wer:Nat}{st:St}{Q:YD}
variable {P:Program}
section
variable {H:Type}{enc:TypeId × Value->H}
theorem open_ints_arg{W:World}{base:Nat}{t e:TypeId}{v:Value}{d:DataW H}{ps:List MemPlace}(ht:P.underlying t=some (.slice e))(he:P.underlying e=some (.int .i64))(hc:P.cellsOf e=1)
 (hval:Value.okWide P W .any base t v) (h:DataW.Trod enc P W 0 (fun _=>true) true t v d ps) :
 ∃l:List Int,l.length<=maxLen/\QAbs.R (cx .empty rho0 W 0) (.lit (l.map (.int .i64))) v:=by
 obtain⟨a0,len,cap,rfl⟩:=okWide_slice ht hval;obtain⟨fuel,hf⟩:=h
 rcases open_ints ht he hc hf with⟨hcs,hx⟩|⟨a,len',cap',zs,hcs,_,hl,hm,hz,hx,hcell,hsz⟩
 ·refine⟨[],by simp,?_⟩
  have:(Value.slice a0 len cap)=.slice none 0 0:=by simpa [Value.cells] using hcs
  rw[this];exact .lit0 _ _
 ·have hv:(Value.slice a0 len cap)=.slice (some a) len' cap':=by simpa [Value.cells] using hcs
  rw[hv];simp only[if_true]at hz;refine⟨zs.take len',?_,?_⟩
  ·rw[List.length_take];omega
  ·cases len' with
   | zero=>exact .lit0 _ _
   | succ n =>
    obtain⟨b,off,spot⟩:=a
    have hspot:spot=none:=by simpa [Addr.add] using World.cell?_spot (hcell 0 (by omega))
    subst hspot
    refine ZgG (w:=1) _ (fun i=>.int .i64 (zs.getD i 0)) (by simp;omega) hl (fun i e he=>?_) (fun i hi=>⟨rfl,fun j v hv=>?_⟩)
    ·rw[jG,List.getElem?_take]at he
     by_cases hi:i<n+1
     ·rw[if_pos hi]at he
      have hs:zs[i]?=some (zs.getD i 0):=by
       have:i<zs.length:=by omega
       simp[List.getD,this]
      rw[hs]at he;simp only[Option.map_some,oJ]at he;subst he;exact .int _ _
     ·rw[if_neg hi]at he;simp at he
    ·have hj : j = 0 := by
      have:j<(Value.int .i64 (zs.getD i 0)).cells.size:=(Array.getElem?_eq_some_iff.1 hv).1
      simp[Value.cells]at this;omega
     subst hj
     have hv':Value.int .i64 (zs.getD i 0)=v:=by simpa [Value.cells] using hv
     rw[<- hv']
     have:=hcell i (by omega)
     simpa [Addr.add_lit] using this
end
end Go.QAbs
namespace Go.Q15
open Go Go.QAbs
variable {e:Env}{A:List (Bool × List Blk)}{k:List Fr}{ck l lm:List Nat}{i ix jx la lw n o ver w wer:Nat}{st:St}{Q:YD}
open Go.Shelf in
def Zox:Ren:=⟨fun|41=>109|n=>n,fun|22=>156|23=>166|n=>n,fun n=>n⟩
theorem Zoy:Go.Proofs.SlLaysE0.n41 Proofs.Tryz.prog Zox:={
 mixed:=by kernel_rfl
 f41 := ⟨"slices.Clone[[]quarto/api.Kid,quarto/api.Kid]", by decide, Proofs.Tryz.func109.trans (congrArg some (by kernel_rfl))⟩
 t4:=Proofs.Tryz.underlying4
 a4:=Proofs.Tryz.isAgg4
 z4:=Proofs.Tryz.sizeOf4
 v4:=Proofs.Tryz.zeroValue4
 t22:=Proofs.Tryz.underlying156
 a22:=Proofs.Tryz.isAgg156
 z22:=Proofs.Tryz.sizeOf156
 v22:=Proofs.Tryz.zeroValue156 }
theorem Zoz:∃i z,Proofs.Tryz.prog.info? 166=some i/\i.zero=some z/\i.size=4/\i.bytes=32/\z.cells.size=4:=⟨_,_,rfl,rfl,rfl,rfl,rfl⟩
theorem Zjb:ZKn Proofs.Tryz.prog Z9 (.base (ZLH 4)):=by
 obtain⟨i,z,h1,h2,h3,h4,h5⟩:=Zoz
 refine Zmq (T:=166) (fun n c W=>Go.Proofs.AnyE.slices_Clone_nil Zoy n c W) fun ad n c news W hl hn hc ho=>?_
 exact Zk7 Zoy i z 4 32 h1 h2 h3 h4 h5 (by decide) Proofs.Tryz.sizeOf166 ad n c news W hl (by unfold maxLen;omega) (by omega) hc ho
theorem Zad:Proofs.Tryz.prog.follows .mixedOrders=true:=by kernel_rfl
theorem Zo0:ZH6 Proofs.Tryz.prog tl:=⟨⟨Proofs.Tryz.call109,Zjb⟩,Zpy⟩
theorem Zs8:TabOk Proofs.Tryz.prog Tb:=ZMn Zo0
theorem Zo1:ZH6 Proofs.Tryz.prog t1:=⟨⟨Proofs.Tryz.call46,Zmp Zad Zs8 Proofs.Tryz.func46 Zed⟩,Zo0⟩
theorem ZrC:TabOk Proofs.Tryz.prog T1:=ZMn Zo1
theorem Zo2:ZH6 Proofs.Tryz.prog t3:=⟨⟨Proofs.Tryz.call58,Zmp Zad ZrC Proofs.Tryz.func58 ZbD⟩,⟨Proofs.Tryz.call14,Zmp Zad ZrC Proofs.Tryz.func14 ZeZ⟩,Zo1⟩
theorem ZrD:TabOk Proofs.Tryz.prog T3:=ZMn Zo2
theorem ZsQ:ZH6 Proofs.Tryz.prog tv:=Zo2
theorem ZsR:ZH6 Proofs.Tryz.prog tw:=ZsQ
theorem ZsS:ZH6 Proofs.Tryz.prog tx:=⟨⟨Proofs.Tryz.call50,Zr6 ZrD Zad Proofs.Tryz.func50⟩,ZsR⟩
theorem ZsT:ZH6 Proofs.Tryz.prog tz:=⟨⟨Proofs.Tryz.call52,ZsL ZrD Zad Proofs.Tryz.func52⟩,ZsS⟩
theorem TZ_ok:TabOk Proofs.Tryz.prog TZ:=ZMn ZsT
def mkEd(q:Nat × Int × Int × Int × B8):Ed:=⟨q.1,q.2.1,q.2.2.1,q.2.2.2.1,q.2.2.2.2⟩
theorem reachParts_run(ss:List B8)(l:List (Nat × Int × Int × Int × B8))(which retire:List Int)(h1:∀s∈ss,s.length<=maxLen)(h2:ss.length<=maxLen)(h3:∀s∈l,s.2.2.2.2.length<=maxLen)(h4:l.length<=maxLen)(_h5:which.length<=maxLen)(_h6:retire.length<=maxLen):
 ∃st',S TZ QG [.lit (ss.map .str),.lit (l.map fun q=>.agg [.int .u8 q.1,.int .i64 q.2.1,.int .i64 q.2.2.1,.int .i64 q.2.2.2.1,.str q.2.2.2.2]),.lit (which.map (.int .i64)),.lit (retire.map (.int .i64))] .empty=some (.bool true,st'):=by
 have hm:maxLen<9223372036854775808:=by decide +kernel
 have:=ZgF ss (l.map mkEd) which retire (by omega) (fun s hs=>by have:=h1 s hs;omega) (by rw[List.length_map];omega) (fun s hs=>by obtain⟨q,hq,rfl⟩:=List.mem_map.1 hs;have:=h3 q hq;simp only[mkEd];omega) .empty
 rw[List.map_map]at this;exact⟨_,this⟩
end Go.Q15
